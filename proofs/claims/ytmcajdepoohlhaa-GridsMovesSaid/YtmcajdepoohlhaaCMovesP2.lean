/- Functions of the program as plain Lean functions, and their contracts (printed by a program of this session). No condition beyond what each states. -/
import Derived.Test.YtmcajdepoohlhaaCMovesY
import Derived.Test.YtmcajdepoohlhaaCMovesP0
import Derived.Test.YtmcajdepoohlhaaCMovesP1
namespace Go.Proofs.Ytmcajdepoohlhaa.G
open Go.RowKit Go.Proofs.YtmcajdepoohlhaaW.PrintWords Go.Proofs.YtmcajdepoohlhaaW.PrintLast Go.Proofs.YtmcajdepoohlhaaW.PrintMore
attribute [local go_sem] max2_int min2_int max_two min_two max_three min_three max_four min_four
set_option linter.unusedVariables false
set_option linter.unusedSimpArgs false
section
/-! ### api_GrMatrix_85: function 85 -/
mutual
def api_GrMatrix_85.l0 : Nat → List (S25) → Int → Int → Int → Option ((List (S25)))
  | 0, _, _, _, _ => none
  | k + 1, x0, x1, x2, x8 => if x8 < x2 then (api_GrMatrix_85.l1 k x0 x1 x2 x8 x8) else (some x0)
def api_GrMatrix_85.l1 : Nat → List (S25) → Int → Int → Int → Int → Option ((List (S25)))
  | 0, _, _, _, _, _ => none
  | k + 1, x0, x1, x2, x8, x9 => if x9 > x1 then (if 0 ≤ x9 then (if x9 < (x0.length : Int) then ((some (wrap64 (x9 - 1))).bind fun z493 => (if 0 ≤ z493 then (if z493 < (x0.length : Int) then ((grids_order.f k ((rd_T25 x0 x9).f0) ((rd_T25 x0 x9).f1) ((rd_T25 x0 x9).f2) ((rd_T25 x0 x9).f3) ((rd_T25 x0 z493).f0) ((rd_T25 x0 z493).f1) ((rd_T25 x0 z493).f2) ((rd_T25 x0 z493).f3)).bind fun t495 => (if t495 < 0 then (api_GrMatrix_85.l1 k ((x0.set (x9 : Int).toNat (⟨(rd_T25 x0 z493).f0, (rd_T25 x0 z493).f1, (rd_T25 x0 z493).f2, (rd_T25 x0 z493).f3⟩ : S25)).set (z493 : Int).toNat (⟨(rd_T25 x0 x9).f0, (rd_T25 x0 x9).f1, (rd_T25 x0 x9).f2, (rd_T25 x0 x9).f3⟩ : S25)) x1 x2 x8 z493) else ((some (wrap64 (x8 + 1))).bind fun z500 => (api_GrMatrix_85.l0 k x0 x1 x2 z500)))) else (none)) else (none))) else (none)) else (none)) else ((some (wrap64 (x8 + 1))).bind fun z501 => (api_GrMatrix_85.l0 k x0 x1 x2 z501))
end
def api_GrMatrix_85.f (k : Nat) (l0 : List (S25)) (a1 : Int) (a2 : Int)  : Option ((List (S25))) := (some (wrap64 (a1 + 1))).bind fun z491 => (api_GrMatrix_85.l0 k l0 a1 a2 z491)
theorem api_GrMatrix_85.mono_l : ∀ k, (∀ y0 y1 y2 y3, LeO (api_GrMatrix_85.l0 k y0 y1 y2 y3) (api_GrMatrix_85.l0 (k + 1) y0 y1 y2 y3)) ∧ (∀ y0 y1 y2 y3 y4, LeO (api_GrMatrix_85.l1 k y0 y1 y2 y3 y4) (api_GrMatrix_85.l1 (k + 1) y0 y1 y2 y3 y4))
  | 0 => ⟨fun _ _ _ _ r h => by simp [api_GrMatrix_85.l0] at h, fun _ _ _ _ _ r h => by simp [api_GrMatrix_85.l1] at h⟩
  | k + 1 => by
    obtain ⟨ih0, ih1⟩ := api_GrMatrix_85.mono_l k
    refine ⟨?_, ?_⟩
    · intro y0 y1 y2 y3
      unfold api_GrMatrix_85.l0
      repeat' first
      | (with_reducible exact ih0 _ _ _ _)
      | (with_reducible exact ih1 _ _ _ _ _)
      | (with_reducible exact grids_order.mono _ _ _ _ _ _ _ _ _)
      | (with_reducible exact LeO.refl _)
      | (with_reducible exact LeO.none _)
      | (with_reducible refine LeO.ite ?_ ?_)
      | (with_reducible refine LeO.bind ?_ (fun _ => ?_))
      | exact ih0 _ _ _ _
      | exact ih1 _ _ _ _ _
      | exact grids_order.mono _ _ _ _ _ _ _ _ _
      | exact LeO.none _
      | refine LeO.ite ?_ ?_
      | refine LeO.bind ?_ (fun _ => ?_)
    · intro y0 y1 y2 y3 y4
      unfold api_GrMatrix_85.l1
      repeat' first
      | (with_reducible exact ih0 _ _ _ _)
      | (with_reducible exact ih1 _ _ _ _ _)
      | (with_reducible exact grids_order.mono _ _ _ _ _ _ _ _ _)
      | (with_reducible exact LeO.refl _)
      | (with_reducible exact LeO.none _)
      | (with_reducible refine LeO.ite ?_ ?_)
      | (with_reducible refine LeO.bind ?_ (fun _ => ?_))
      | exact ih0 _ _ _ _
      | exact ih1 _ _ _ _ _
      | exact grids_order.mono _ _ _ _ _ _ _ _ _
      | exact LeO.none _
      | refine LeO.ite ?_ ?_
      | refine LeO.bind ?_ (fun _ => ?_)
theorem api_GrMatrix_85.mono : ∀ a0 a1 a2 k, LeO (api_GrMatrix_85.f k a0 a1 a2) (api_GrMatrix_85.f (k + 1) a0 a1 a2) := by
  intro a0 a1 a2 k
  obtain ⟨ih0, ih1⟩ := api_GrMatrix_85.mono_l k
  unfold api_GrMatrix_85.f
  repeat' first
      | (with_reducible exact ih0 _ _ _ _)
      | (with_reducible exact ih1 _ _ _ _ _)
      | (with_reducible exact grids_order.mono _ _ _ _ _ _ _ _ _)
      | (with_reducible exact LeO.refl _)
      | (with_reducible exact LeO.none _)
      | (with_reducible refine LeO.ite ?_ ?_)
      | (with_reducible refine LeO.bind ?_ (fun _ => ?_))
      | exact ih0 _ _ _ _
      | exact ih1 _ _ _ _ _
      | exact grids_order.mono _ _ _ _ _ _ _ _ _
      | exact LeO.none _
      | refine LeO.ite ?_ ?_
      | refine LeO.bind ?_ (fun _ => ?_)
def api_GrMatrix_85.T4 : Bool × List (List Nat × List Nat) := (true, [([], []), ([], []), ([0, 1], [0, 1]), ([2], [2]), ([3], [3]), ([3], [3]), ([3], [3]), ([5, 6, 3], [3, 5, 6]), ([7, 3], [3, 7]), ([3], [3]), ([3], [3]), ([10, 3], [3, 10]), ([9, 11, 3], [3, 9, 11]), ([12, 3], [3, 12]), ([4, 8, 13, 3, 3], [3, 4, 8, 13]), ([14, 3], [3, 14]), ([3, 15], [3, 15])])
def api_GrMatrix_85.B4 : List Nat := [0, 0, 3, 7, 15, 15, 15, 111, 239, 15, 15, 1039, 3599, 7695, 16383, 32767, 65535]
theorem api_GrMatrix_85.tab4 : rtab .any (opsOf Try.f85 4) = api_GrMatrix_85.T4 := by kernel_rfl
theorem api_GrMatrix_85.bits4 : waitsOk api_GrMatrix_85.T4.2 api_GrMatrix_85.B4 = true := by kernel_rfl
def api_GrMatrix_85.T6 : Bool × List (List Nat × List Nat) := (true, [([], []), ([], []), ([], []), ([], []), ([3], [3]), ([], []), ([], []), ([6], [6]), ([5, 7], [5, 7]), ([8], [8]), ([], []), ([], []), ([10, 11], [10, 11]), ([12], [12]), ([0, 1, 0, 1, 5, 6, 7, 8, 9, 13], [0, 1]), ([14, 9, 0, 1, 5, 6, 7, 8, 9, 13], [9, 14]), ([2, 4, 0, 1, 2, 3, 4, 5, 6, 7, 8, 9, 10, 11, 12, 13, 14, 15], [2, 4]), ([16, 13, 15, 0, 1, 2, 3, 4, 5, 6, 7, 8, 9, 10, 11, 12, 13, 14, 15], [13, 16])])
def api_GrMatrix_85.B6 : List Nat := [0, 0, 0, 0, 8, 0, 0, 64, 224, 480, 0, 0, 3072, 7168, 16355, 32739, 65535, 131071]
theorem api_GrMatrix_85.tab6 : rtab .any (opsOf Try.f85 6) = api_GrMatrix_85.T6 := by kernel_rfl
theorem api_GrMatrix_85.bits6 : waitsOk api_GrMatrix_85.T6.2 api_GrMatrix_85.B6 = true := by kernel_rfl
set_option maxHeartbeats 8000000 in
set_option maxRecDepth 100000 in
theorem api_GrMatrix_85.calls (k : Nat) (P0_ : Nat → Prop) (u9000_ : Value) (l0 : List (S25)) (a1 : Int) (a2 : Int)  (r : List (S25)) (w0 w : World) (hB : Below w0.heap.size w0 w) (ho0 : Kd.R k25 25 w w0.heap.size P0_ u9000_ l0) (h : api_GrMatrix_85.f k l0 a1 a2 = some r) :
    Calls Try.prog 85 #[u9000_, .int .i64 a1, .int .i64 a2, .func (.func 42) #[] #[]] w fun e w' => e = .returned (.tuple #[]) ∧ Kd.R k25 25 w' w0.heap.size (fun k_ => (P0_ k_ ∨ w.heap.size ≤ k_)) u9000_ r ∧ Below w0.heap.size w0 w' ∧ Kept w w' (fun k_ => P0_ k_) := by
  have hu25 := Try.underlying25
  have HO0 := Aside0.mk (show Kd.R k25 25 w w0.heap.size (fun k_ => (P0_ k_ ∨ w.heap.size ≤ k_)) u9000_ l0 from Kd.R_mono ho0 (fun k_ hk => (.inl hk)))
  have HK := Aside0.mk (Kept.refl w (fun k_ => P0_ k_))
  have HW0 := Aside0.mk hB.size
  have HB := Aside0.mk hB
  clear hB
  have H : ((some (wrap64 (a1 + 1))).bind fun z491 => (api_GrMatrix_85.l0 k l0 a1 a2 z491)) = some r := h
  clear h
  obtain ⟨z491, E50, H⟩ := oc H
  have E5w : (IntKind.i64.wrap (a1 + 1)) = z491 := (i64_w _).trans E50
  have H' := Aside0.mk H
  clear H
  go_enter Try.func85, Try.ntmps85
  go_wp2
  go_loopg [8] k (fun kq v8 w' => ∃ (x0_1 : List (S25)) (x8_1 : Int), v8 = .int .i64 x8_1 ∧ Aside0 (api_GrMatrix_85.l0 kq x0_1 a1 a2 x8_1 = some r) ∧ Aside0 (kq ≤ k) ∧ Aside0 (Kd.R k25 25 w' w0.heap.size (fun k_ => (P0_ k_ ∨ w.heap.size ≤ k_)) u9000_ x0_1) ∧ Aside0 (Kept w w' (fun k_ => P0_ k_)) ∧ Aside0 (Below w0.heap.size w0 w'))
  case atStart => exact ⟨(l0), (z491), (by first | rfl | (simp; done) | (simp [*]; done)), H', ⟨Nat.le_refl _⟩, ⟨by (with_reducible repeat (first | apply Kd.R_alloc | apply Kd.R_drewN | apply Kd.R_drew)); exact HO0.out⟩, ⟨by repeat (first | (with_reducible first | exact HK.out | apply Kept.alloc | apply Kept.drewN | apply Kept.drew) | exact HK.out)⟩, ⟨bnow HB⟩⟩
  case round =>
    clear H'
    try clear p2
    obtain ⟨x0_1, x8_1, rfl, HA, HK1, HO_0, HK, HB⟩ := hrel
    cases gk with
    | zero => exact absurd HA.out (by simp [api_GrMatrix_85.l0])
    | succ k1 =>
      have H := HA.out
      clear HA
      simp only [api_GrMatrix_85.l0] at H
      by_cases c6 : x8_1 < a2
      · rw [if_pos c6] at H
        have c6b0 : decide (x8_1 < a2) = true := decide_eq_true c6
        clear c6
        have H' := Aside0.mk H
        clear H
        go_wp2
        go_loopg [9] k1 (fun kq v9 w' => ∃ (x0_2 : List (S25)) (x9_2 : Int), v9 = .int .i64 x9_2 ∧ Aside0 (api_GrMatrix_85.l1 kq x0_2 a1 a2 x8_1 x9_2 = some r) ∧ Aside0 (kq ≤ k1) ∧ Aside0 (Kd.R k25 25 w' w0.heap.size (fun k_ => (P0_ k_ ∨ w.heap.size ≤ k_)) u9000_ x0_2) ∧ Aside0 (Kept w w' (fun k_ => P0_ k_)) ∧ Aside0 (Below w0.heap.size w0 w'))
        case atStart => exact ⟨(x0_1), (x8_1), (by first | rfl | (simp; done) | (simp [*]; done)), H', ⟨Nat.le_refl _⟩, ⟨by (with_reducible repeat (first | apply Kd.R_alloc | apply Kd.R_drewN | apply Kd.R_drew)); exact HO_0.out⟩, ⟨by repeat (first | (with_reducible first | exact HK.out | apply Kept.alloc | apply Kept.drewN | apply Kept.drew) | exact HK.out)⟩, ⟨bnow HB⟩⟩
        case round =>
          clear H'
          try clear p2; try clear c6; try clear c6b0; try clear p6; try clear p2
          obtain ⟨x0_2, x9_2, rfl, HA, HK2, HO_0, HK, HB⟩ := hrel
          cases gk with
          | zero => exact absurd HA.out (by simp [api_GrMatrix_85.l1])
          | succ k2 =>
            have H := HA.out
            clear HA
            simp only [api_GrMatrix_85.l1] at H
            by_cases c7 : x9_2 > a1
            · rw [if_pos c7] at H
              have c7b0 : decide (a1 < x9_2) = true := decide_eq_true c7
              clear c7
              by_cases c8 : 0 ≤ x9_2
              · rw [if_pos c8] at H
                have c8b0 : decide (0 ≤ x9_2) = true := decide_eq_true c8
                clear c8
                by_cases c9 : x9_2 < (x0_2.length : Int)
                · rw [if_pos c9] at H
                  have c9b0 : decide (x9_2 < (x0_2.length : Int)) = true := decide_eq_true c9
                  clear c9
                  obtain ⟨z493, E100, H⟩ := oc H
                  have E10w : (IntKind.i64.wrap (x9_2 - 1)) = z493 := (i64_w _).trans E100
                  by_cases c11 : 0 ≤ z493
                  · rw [if_pos c11] at H
                    have c11b0 : decide (0 ≤ z493) = true := decide_eq_true c11
                    clear c11
                    by_cases c12 : z493 < (x0_2.length : Int)
                    · rw [if_pos c12] at H
                      have c12b0 : decide (z493 < (x0_2.length : Int)) = true := decide_eq_true c12
                      clear c12
                      obtain ⟨t495, A13, H⟩ := ob H
                      by_cases c14 : t495 < 0
                      · rw [if_pos c14] at H
                        have c14b0 : decide (t495 < 0) = true := decide_eq_true c14
                        clear c14
                        obtain ⟨y498, hy498⟩ : ∃ y_ : List (S25), y_ = (x0_2.set (x9_2 : Int).toNat (⟨(rd_T25 x0_2 z493).f0, (rd_T25 x0_2 z493).f1, (rd_T25 x0_2 z493).f2, (rd_T25 x0_2 z493).f3⟩ : S25)) := ⟨_, rfl⟩
                        replace H : (api_GrMatrix_85.l1 k2 (y498.set (z493 : Int).toNat (⟨(rd_T25 x0_2 x9_2).f0, (rd_T25 x0_2 x9_2).f1, (rd_T25 x0_2 x9_2).f2, (rd_T25 x0_2 x9_2).f3⟩ : S25)) a1 a2 x8_1 z493) = some r := by first | (rw [hy498]; with_reducible exact H) | (have H2_ := (Option.bind_some _ _).symm.trans H; rw [hy498]; with_reducible exact H2_) | (have H2_ := (Option.bind_some _ _).symm.trans H; with_reducible exact H2_) | with_reducible exact H | (rw [hy498]; exact H) | exact H
                        have Ny498 := Aside0.mk hy498
                        clear hy498
                        obtain ⟨y499, hy499⟩ : ∃ y_ : List (S25), y_ = (y498.set (z493 : Int).toNat (⟨(rd_T25 x0_2 x9_2).f0, (rd_T25 x0_2 x9_2).f1, (rd_T25 x0_2 x9_2).f2, (rd_T25 x0_2 x9_2).f3⟩ : S25)) := ⟨_, rfl⟩
                        replace H : (api_GrMatrix_85.l1 k2 y499 a1 a2 x8_1 z493) = some r := by first | (rw [hy499]; with_reducible exact H) | (have H2_ := (Option.bind_some _ _).symm.trans H; rw [hy499]; with_reducible exact H2_) | (have H2_ := (Option.bind_some _ _).symm.trans H; with_reducible exact H2_) | with_reducible exact H | (rw [hy499]; exact H) | exact H
                        have Ny499 := Aside0.mk hy499
                        clear hy499
                        have H' := Aside0.mk H
                        clear H
                        (try have hpz493 : z493.toNat < x9_2.toNat := wrap_pred E100 (of_decide_eq_true (by assumption)) (of_decide_eq_true (by assumption)))
                        try go_wp2
                        replace HO_0 := Aside0.mk (Kd.R_drew HO_0.out)
                        replace HK := Aside0.mk (Kept.drew HK.out)
                        replace HB := bdn HB
                        obtain ⟨Ao18, co18, eo18⟩ := Kd.R_slice HO_0.out
                        (first | subst eo18 | (injection eo18 with f1_ f2_ f3_; have f4_ := f1_.symm; have f5_ := f3_.symm; clear f1_ f2_ f3_; subst f4_; subst f5_))
                        have p492 : 0 ≤ (x9_2 : Int) := of_decide_eq_true (by first | (with_reducible assumption) | assumption)
                        have q492 : x9_2 < (x0_2.length : Int) := of_decide_eq_true (by first | (with_reducible assumption) | assumption)
                        obtain ⟨ad492, e492, hx492_0, hx492_1, hx492_2, hx492_3⟩ := at_T25 (Kd.R_reads' HO_0.out).2.2 x9_2 p492 q492
                        cases e492
                        replace p492 := eq_true p492
                        replace q492 := eq_true q492
                        have p494 : 0 ≤ (z493 : Int) := of_decide_eq_true (by first | (with_reducible assumption) | assumption)
                        have q494 : z493 < (x0_2.length : Int) := of_decide_eq_true (by first | (with_reducible assumption) | assumption)
                        obtain ⟨ad494, e494, hx494_0, hx494_1, hx494_2, hx494_3⟩ := at_T25 (Kd.R_reads' HO_0.out).2.2 z493 p494 q494
                        obtain rfl : ad492 = ad494 := (by injection e494)
                        replace p494 := eq_true p494
                        replace q494 := eq_true q494
                        refine start_ (n := 17) (S := fun w' => w'.cell? (ad492.add ((x9_2).toNat * 4)) = some (.int .i64 ((rd_T25 x0_2 x9_2).f0)) ∧ w'.cell? ⟨(ad492.add ((x9_2).toNat * 4)).block, (ad492.add ((x9_2).toNat * 4)).off + 1, none⟩ = some (.int .i64 ((rd_T25 x0_2 x9_2).f1)) ∧ w'.cell? ⟨(ad492.add ((x9_2).toNat * 4)).block, (ad492.add ((x9_2).toNat * 4)).off + 2, none⟩ = some (.int .i64 ((rd_T25 x0_2 x9_2).f2)) ∧ w'.cell? ⟨(ad492.add ((x9_2).toNat * 4)).block, (ad492.add ((x9_2).toNat * 4)).off + 3, none⟩ = some (.int .i64 ((rd_T25 x0_2 x9_2).f3)) ∧ w'.cell? (ad492.add ((z493).toNat * 4)) = some (.int .i64 ((rd_T25 x0_2 z493).f0)) ∧ w'.cell? ⟨(ad492.add ((z493).toNat * 4)).block, (ad492.add ((z493).toNat * 4)).off + 1, none⟩ = some (.int .i64 ((rd_T25 x0_2 z493).f1)) ∧ w'.cell? ⟨(ad492.add ((z493).toNat * 4)).block, (ad492.add ((z493).toNat * 4)).off + 2, none⟩ = some (.int .i64 ((rd_T25 x0_2 z493).f2)) ∧ w'.cell? ⟨(ad492.add ((z493).toNat * 4)).block, (ad492.add ((z493).toNat * 4)).off + 3, none⟩ = some (.int .i64 ((rd_T25 x0_2 z493).f3))) (ds := []) #[false, false, false, false, false, false, false, false, false, false, false, false, false, false, false, false, false] (by kernel_rfl) rfl rfl ⟨hx492_0, hx492_1, hx492_2, hx492_3, hx494_0, hx494_1, hx494_2, hx494_3⟩ (fun hHeld => ?_); refine with_tabW api_GrMatrix_85.tab4 api_GrMatrix_85.bits4 (fun HT_ HW_ => ?_)
                        generalize wr.drew = w17 at HO_0 HK HB hx492_0 hx492_1 hx492_2 hx492_3 hx494_0 hx494_1 hx494_2 hx494_3 hHeld ⊢
                        refine pz 0 18 HT_ ?_
                        refine pz 1 19 HT_ ?_
                        refine pz 2 20 HT_ ?_
                        refine pz 3 21 HT_ ?_
                        refine pz 4 22 HT_ ?_
                        refine pz 5 23 HT_ ?_
                        refine pz 6 24 HT_ ?_
                        refine pz 7 25 HT_ ?_
                        refine pz 9 27 HT_ ?_
                        refine pz 10 28 HT_ ?_
                        refine pz 11 29 HT_ ?_
                        refine pz 12 30 HT_ ?_
                        refine tz 8 26 HT_ HW_ hHeld ?_
                        refine tz 13 31 HT_ HW_ hHeld ?_
                        refine one_ (i := 14) (N := some 32) #[true, true, true, true, true, true, true, true, true, true, true, true, true, true, true, false, false] rfl rfl (one_of HT_.out (by kernel_rfl)) (by decide) (fun K hK => ?_)
                        refine goesV_ Try.func42 (by kernel_rfl) rfl #[.agg #[.int .i64 ((rd_T25 x0_2 x9_2).f0), .int .i64 ((rd_T25 x0_2 x9_2).f1), .int .i64 ((rd_T25 x0_2 x9_2).f2), .int .i64 ((rd_T25 x0_2 x9_2).f3)], .agg #[.int .i64 ((rd_T25 x0_2 z493).f0), .int .i64 ((rd_T25 x0_2 z493).f1), .int .i64 ((rd_T25 x0_2 z493).f2), .int .i64 ((rd_T25 x0_2 z493).f3)]] (by rfl) rfl rfl (by rfl) am ?_
                        with_reducible refine (grids_order.calls k2 ((rd_T25 x0_2 x9_2).f0) ((rd_T25 x0_2 x9_2).f1) ((rd_T25 x0_2 x9_2).f2) ((rd_T25 x0_2 x9_2).f3) ((rd_T25 x0_2 z493).f0) ((rd_T25 x0_2 z493).f1) ((rd_T25 x0_2 z493).f2) ((rd_T25 x0_2 z493).f3) t495 _ A13.out).mono ?_
                        rintro e w19 ⟨rfl, hb⟩
                        have HS0_ := (hb.cell (World.block_lt_of_cell? _ _ (hHeld.1))).trans (hHeld.1)
                        have HS1_ := (hb.cell (World.block_lt_of_cell? _ _ (hHeld.2.1))).trans (hHeld.2.1)
                        have HS2_ := (hb.cell (World.block_lt_of_cell? _ _ (hHeld.2.2.1))).trans (hHeld.2.2.1)
                        have HS3_ := (hb.cell (World.block_lt_of_cell? _ _ (hHeld.2.2.2.1))).trans (hHeld.2.2.2.1)
                        have HS4_ := (hb.cell (World.block_lt_of_cell? _ _ (hHeld.2.2.2.2.1))).trans (hHeld.2.2.2.2.1)
                        have HS5_ := (hb.cell (World.block_lt_of_cell? _ _ (hHeld.2.2.2.2.2.1))).trans (hHeld.2.2.2.2.2.1)
                        have HS6_ := (hb.cell (World.block_lt_of_cell? _ _ (hHeld.2.2.2.2.2.2.1))).trans (hHeld.2.2.2.2.2.2.1)
                        have HS7_ := (hb.cell (World.block_lt_of_cell? _ _ (hHeld.2.2.2.2.2.2.2))).trans (hHeld.2.2.2.2.2.2.2)
                        refine ⟨_, rfl, ?_⟩
                        have n0_ := Aside0.mk (Kd.R_below (by (with_reducible repeat (first | apply Kd.R_alloc | apply Kd.R_drewN | apply Kd.R_drew)); exact HO_0.out) hb)
                        have n1_ := Aside0.mk (Kept.below (S := (fun k_ => P0_ k_)) (by repeat (first | (with_reducible first | exact HK.out | apply Kept.alloc | apply Kept.drewN | apply Kept.drew) | exact HK.out)) hb)
                        have n2_ := bst HB hb
                        clear HO_0
                        clear HK
                        clear HB
                        have HO_0 := n0_
                        have HK := n1_
                        have HB := n2_
                        clear n0_ n1_ n2_
                        (try clear hb)
                        (try clear hb2)
                        (try clear hk)
                        (try clear hi)
                        refine hK.out _ _ ⟨HS0_, HS1_, HS2_, HS3_, HS4_, HS5_, HS6_, HS7_⟩ (fun hHeld => ?_)
                        clear hK K
                        refine norm_ (a' := ?_) ?_ ?_
                        rotate_left
                        · show Act.put _ (some 32) _ = _
                          simp only [Act.put, List.setIfInBounds_toArray, List.set_cons_zero, List.set_cons_succ, i64_w, i32_w]
                          rfl
                        refine pz 15 33 HT_ ?_
                        refine pz 16 34 HT_ ?_
                        refine done_ (done_of HT_.out (by kernel_rfl)) ?_
                        try go_wp2
                        replace HO_0 := Aside0.mk (Kd.R_drew HO_0.out)
                        replace HK := Aside0.mk (Kept.drew HK.out)
                        replace HB := bdn HB
                        have p496 : 0 ≤ (z493 : Int) := of_decide_eq_true (by first | (with_reducible assumption) | assumption)
                        have q496 : z493 < (x0_2.length : Int) := of_decide_eq_true (by first | (with_reducible assumption) | assumption)
                        obtain ⟨ad496, e496, hx496_0, hx496_1, hx496_2, hx496_3⟩ := at_T25 (Kd.R_reads' HO_0.out).2.2 z493 p496 q496
                        obtain rfl : ad492 = ad496 := (by injection e496)
                        replace p496 := eq_true p496
                        replace q496 := eq_true q496
                        have p497 : 0 ≤ (x9_2 : Int) := of_decide_eq_true (by first | (with_reducible assumption) | assumption)
                        have q497 : x9_2 < (x0_2.length : Int) := of_decide_eq_true (by first | (with_reducible assumption) | assumption)
                        obtain ⟨ad497, e497, hx497_0, hx497_1, hx497_2, hx497_3⟩ := at_T25 (Kd.R_reads' HO_0.out).2.2 x9_2 p497 q497
                        obtain rfl : ad492 = ad497 := (by injection e497)
                        replace p497 := eq_true p497
                        replace q497 := eq_true q497
                        have p15 : 0 ≤ (x9_2 : Int) := of_decide_eq_true (by first | (with_reducible assumption) | assumption)
                        have q15 : (x9_2 : Int) < ((x0_2.length : Int) : Int) := of_decide_eq_true (by first | (with_reducible assumption) | assumption)
                        obtain ⟨go15, co15, eo15, gb15, gl15, cl15, HG15⟩ := Kd.R_form HO_0.out (by omega)
                        (first | cases eo15 | (injection eo15 with ea_ en_ ec_; (first | subst ea_ | (injection ea_ with ea_; subst ea_)); subst ec_; clear en_))
                        have GB15 := Aside0.mk gb15
                        have GG15 := Aside0.mk HG15
                        clear gb15 gl15 HG15
                        have HMgo15 := Aside0.mk (show (P0_ go15 ∨ w.heap.size ≤ go15) from (HO_0.out.1 _ rfl))
                        (first | simp only [add_plain] at hx492_0 | skip)
                        (first | simp only [add_plain] at hx492_1 | skip)
                        (first | simp only [add_plain] at hx492_2 | skip)
                        (first | simp only [add_plain] at hx492_3 | skip)
                        (first | simp only [add_plain] at hx494_0 | skip)
                        (first | simp only [add_plain] at hx494_1 | skip)
                        (first | simp only [add_plain] at hx494_2 | skip)
                        (first | simp only [add_plain] at hx494_3 | skip)
                        (first | simp only [add_plain] at hx496_0 | skip)
                        (first | simp only [add_plain] at hx496_1 | skip)
                        (first | simp only [add_plain] at hx496_2 | skip)
                        (first | simp only [add_plain] at hx496_3 | skip)
                        (first | simp only [add_plain] at hx497_0 | skip)
                        (first | simp only [add_plain] at hx497_1 | skip)
                        (first | simp only [add_plain] at hx497_2 | skip)
                        (first | simp only [add_plain] at hx497_3 | skip)
                        obtain ⟨ce15, hcl15, hM15, hcc15, hfr15⟩ := Kd.R_elem HO_0.out z25 (x9_2 : Int) p15 q15
                        obtain rfl := k25_openM hM15
                        have hx15_0 : World.cell? _ ⟨go15, (x9_2 : Int).toNat * 4, none⟩ = some (.int .i64 ((rd_T25 x0_2 x9_2).f0)) := hcc15 0 _ rfl
                        have hx15_1 : World.cell? _ ⟨go15, (x9_2 : Int).toNat * 4 + 1, none⟩ = some (.int .i64 ((rd_T25 x0_2 x9_2).f1)) := hcc15 1 _ rfl
                        have hx15_2 : World.cell? _ ⟨go15, (x9_2 : Int).toNat * 4 + 2, none⟩ = some (.int .i64 ((rd_T25 x0_2 x9_2).f2)) := hcc15 2 _ rfl
                        have hx15_3 : World.cell? _ ⟨go15, (x9_2 : Int).toNat * 4 + 3, none⟩ = some (.int .i64 ((rd_T25 x0_2 x9_2).f3)) := hcc15 3 _ rfl
                        have hf15_0 : World.frozen? _ ⟨go15, (x9_2 : Int).toNat * 4, none⟩ = false := hfr15 0
                        have hf15_1 : World.frozen? _ ⟨go15, (x9_2 : Int).toNat * 4 + 1, none⟩ = false := hfr15 1
                        have hf15_2 : World.frozen? _ ⟨go15, (x9_2 : Int).toNat * 4 + 2, none⟩ = false := hfr15 2
                        have hf15_3 : World.frozen? _ ⟨go15, (x9_2 : Int).toNat * 4 + 3, none⟩ = false := hfr15 3
                        (try rw [World.frozen?_setCells] at hf15_0)
                        (try rw [World.frozen?_setCells] at hf15_1)
                        (try rw [World.frozen?_setCells] at hf15_2)
                        (try rw [World.frozen?_setCells] at hf15_3)
                        clear hcl15 hcc15 hfr15 hM15
                        replace p15 := eq_true p15
                        replace q15 := eq_true q15
                        obtain ⟨ce21, hcl21, hM21, hcc21, hfr21⟩ := Kd.R_elem HO_0.out z25 (x9_2 : Int) (of_decide_eq_true (by first | (with_reducible assumption) | assumption)) (by have h_ : (x9_2 : Int) < ((x0_2.length : Int) : Int) := of_decide_eq_true (by first | (with_reducible assumption) | assumption); first | exact h_ | (have e_ := (Kd.R_reads' HO_0.out).1; omega) | simpa using h_)
                        obtain rfl := k25_openM hM21
                        have HP21 := (Kd.R_seg HO_0.out (x9_2 : Int) (of_decide_eq_true (by first | (with_reducible assumption) | assumption)) (by have h_ : (x9_2 : Int) < ((x0_2.length : Int) : Int) := of_decide_eq_true (by first | (with_reducible assumption) | assumption); first | exact h_ | (have e_ := (Kd.R_reads' HO_0.out).1; omega) | simpa using h_) (seg := [.int .i64 ((rd_T25 x0_2 z493).f0), .int .i64 ((rd_T25 x0_2 z493).f1), .int .i64 ((rd_T25 x0_2 z493).f2), .int .i64 ((rd_T25 x0_2 z493).f3)]) (j := 0) hcl21 hcc21 (show 4 ≤ 4 from by decide) (x' := (⟨(rd_T25 x0_2 z493).f0, (rd_T25 x0_2 z493).f1, (rd_T25 x0_2 z493).f2, (rd_T25 x0_2 z493).f3⟩ : S25)) (k25_mkM _ _ _ (⟨(rd_T25 x0_2 z493).f0, (rd_T25 x0_2 z493).f1, (rd_T25 x0_2 z493).f2, (rd_T25 x0_2 z493).f3⟩ : S25) ) (fun _ hk => hk)).1
                        rw [← Ny498.out] at HP21
                        have HQ21 := Aside0.mk HP21
                        clear hcl21 hcc21 hfr21 hM21 HP21
                        have p16 : 0 ≤ (z493 : Int) := of_decide_eq_true (by first | (with_reducible assumption) | assumption)
                        have q16 : (z493 : Int) < ((x0_2.length : Int) : Int) := of_decide_eq_true (by first | (with_reducible assumption) | assumption)
                        obtain ⟨ce16, hcl16, hM16, hcc16, hfr16⟩ := Kd.R_elem HQ21.out z25 (z493 : Int) p16 q16
                        obtain rfl := k25_openM hM16
                        have hx16_0 : World.cell? _ ⟨go15, (z493 : Int).toNat * 4, none⟩ = some (.int .i64 ((rd_T25 y498 z493).f0)) := hcc16 0 _ rfl
                        have hx16_1 : World.cell? _ ⟨go15, (z493 : Int).toNat * 4 + 1, none⟩ = some (.int .i64 ((rd_T25 y498 z493).f1)) := hcc16 1 _ rfl
                        have hx16_2 : World.cell? _ ⟨go15, (z493 : Int).toNat * 4 + 2, none⟩ = some (.int .i64 ((rd_T25 y498 z493).f2)) := hcc16 2 _ rfl
                        have hx16_3 : World.cell? _ ⟨go15, (z493 : Int).toNat * 4 + 3, none⟩ = some (.int .i64 ((rd_T25 y498 z493).f3)) := hcc16 3 _ rfl
                        have hf16_0 : World.frozen? _ ⟨go15, (z493 : Int).toNat * 4, none⟩ = false := hfr16 0
                        have hf16_1 : World.frozen? _ ⟨go15, (z493 : Int).toNat * 4 + 1, none⟩ = false := hfr16 1
                        have hf16_2 : World.frozen? _ ⟨go15, (z493 : Int).toNat * 4 + 2, none⟩ = false := hfr16 2
                        have hf16_3 : World.frozen? _ ⟨go15, (z493 : Int).toNat * 4 + 3, none⟩ = false := hfr16 3
                        (try rw [World.frozen?_setCells] at hf16_0)
                        (try rw [World.frozen?_setCells] at hf16_1)
                        (try rw [World.frozen?_setCells] at hf16_2)
                        (try rw [World.frozen?_setCells] at hf16_3)
                        clear hcl16 hcc16 hfr16 hM16
                        replace p16 := eq_true p16
                        replace q16 := eq_true q16
                        obtain ⟨ce22, hcl22, hM22, hcc22, hfr22⟩ := Kd.R_elem HQ21.out z25 (z493 : Int) (of_decide_eq_true (by first | (with_reducible assumption) | assumption)) (by have h_ : (z493 : Int) < ((x0_2.length : Int) : Int) := of_decide_eq_true (by first | (with_reducible assumption) | assumption); first | exact h_ | (have e_ := (Kd.R_reads' HO_0.out).1; omega) | simpa using h_)
                        obtain rfl := k25_openM hM22
                        have HP22 := (Kd.R_seg HQ21.out (z493 : Int) (of_decide_eq_true (by first | (with_reducible assumption) | assumption)) (by have h_ : (z493 : Int) < ((x0_2.length : Int) : Int) := of_decide_eq_true (by first | (with_reducible assumption) | assumption); first | exact h_ | (have e_ := (Kd.R_reads' HO_0.out).1; omega) | simpa using h_) (seg := [.int .i64 ((rd_T25 x0_2 x9_2).f0), .int .i64 ((rd_T25 x0_2 x9_2).f1), .int .i64 ((rd_T25 x0_2 x9_2).f2), .int .i64 ((rd_T25 x0_2 x9_2).f3)]) (j := 0) hcl22 hcc22 (show 4 ≤ 4 from by decide) (x' := (⟨(rd_T25 x0_2 x9_2).f0, (rd_T25 x0_2 x9_2).f1, (rd_T25 x0_2 x9_2).f2, (rd_T25 x0_2 x9_2).f3⟩ : S25)) (k25_mkM _ _ _ (⟨(rd_T25 x0_2 x9_2).f0, (rd_T25 x0_2 x9_2).f1, (rd_T25 x0_2 x9_2).f2, (rd_T25 x0_2 x9_2).f3⟩ : S25) ) (fun _ hk => hk)).1
                        rw [← Ny499.out] at HP22
                        have HQ22 := Aside0.mk HP22
                        clear hcl22 hcc22 hfr22 hM22 HP22
                        refine start_ (n := 18) (S := fun w' => w'.cell? ⟨go15, ((z493).toNat * 4), none⟩ = some (.int .i64 ((rd_T25 x0_2 z493).f0)) ∧ w'.cell? ⟨go15, ((z493).toNat * 4) + 1, none⟩ = some (.int .i64 ((rd_T25 x0_2 z493).f1)) ∧ w'.cell? ⟨go15, ((z493).toNat * 4) + 2, none⟩ = some (.int .i64 ((rd_T25 x0_2 z493).f2)) ∧ w'.cell? ⟨go15, ((z493).toNat * 4) + 3, none⟩ = some (.int .i64 ((rd_T25 x0_2 z493).f3)) ∧ w'.cell? ⟨go15, ((x9_2).toNat * 4), none⟩ = some (.int .i64 ((rd_T25 x0_2 x9_2).f0)) ∧ w'.cell? ⟨go15, ((x9_2).toNat * 4) + 1, none⟩ = some (.int .i64 ((rd_T25 x0_2 x9_2).f1)) ∧ w'.cell? ⟨go15, ((x9_2).toNat * 4) + 2, none⟩ = some (.int .i64 ((rd_T25 x0_2 x9_2).f2)) ∧ w'.cell? ⟨go15, ((x9_2).toNat * 4) + 3, none⟩ = some (.int .i64 ((rd_T25 x0_2 x9_2).f3))) (ds := [15, 17]) #[false, false, false, false, false, false, false, false, false, false, false, false, false, false, false, false, false, false] (by kernel_rfl) rfl rfl ⟨hx496_0, hx496_1, hx496_2, hx496_3, hx497_0, hx497_1, hx497_2, hx497_3⟩ (fun hHeld => ?_); refine with_tabW api_GrMatrix_85.tab6 api_GrMatrix_85.bits6 (fun HT_ HW_ => ?_)
                        generalize w19.drew = w20 at HO_0 HK HB GG15 HQ21 HQ22 hf15_0 hf15_1 hf15_2 hf15_3 hf16_0 hf16_1 hf16_2 hf16_3 hx15_0 hx15_1 hx15_2 hx15_3 hx16_0 hx16_1 hx16_2 hx16_3 hx492_0 hx492_1 hx492_2 hx492_3 hx494_0 hx494_1 hx494_2 hx494_3 hx496_0 hx496_1 hx496_2 hx496_3 hx497_0 hx497_1 hx497_2 hx497_3 hHeld ⊢
                        refine pz 0 37 HT_ ?_
                        refine pz 1 38 HT_ ?_
                        refine pz 2 39 HT_ ?_
                        refine pz 3 40 HT_ ?_
                        refine pz 4 41 HT_ ?_
                        refine pz 5 42 HT_ ?_
                        refine pz 6 43 HT_ ?_
                        refine pz 7 44 HT_ ?_
                        refine pz 8 45 HT_ ?_
                        refine pz 10 47 HT_ ?_
                        refine pz 11 48 HT_ ?_
                        refine pz 12 49 HT_ ?_
                        refine tz 9 46 HT_ HW_ hHeld ?_
                        refine tz 13 50 HT_ HW_ hHeld ?_
                        refine pz 14 51 HT_ ?_
                        refine last_ (i := 15) (N := none) #[true, true, true, true, true, true, true, true, true, true, true, true, true, true, true, true, false, false] rfl rfl (one_of HT_.out (by kernel_rfl)) (by decide) (fun K hK => ?_)
                        refine skip_ (w1 := ?_) (by rfl) rfl ?_ ?_
                        rotate_left
                        · go_simp
                          rfl
                        refine hK.out _ _ ?_
                        clear hK K
                        refine pz 16 52 HT_ ?_
                        refine last_ (i := 17) (N := none) #[true, true, true, true, true, true, true, true, true, true, true, true, true, true, true, true, true, true] rfl rfl (one_of HT_.out (by kernel_rfl)) (by decide) (fun K hK => ?_)
                        refine skip_ (w1 := ?_) (by rfl) rfl ?_ ?_
                        rotate_left
                        · go_simp
                          rfl
                        refine hK.out _ _ ?_
                        clear hK K
                        refine done_ (done_of HT_.out (by kernel_rfl)) ?_
                        try go_wp2
                        go_roundg k2
                        case measure => have := HK1.out; have := HK2.out; omega
                        case rel => exact ⟨(y499), (z493), (by first | rfl | (simp; done) | (simp [*]; done)), H', ⟨by have := HK1.out; have := HK2.out; omega⟩, ⟨by (with_reducible repeat (first | apply Kd.R_alloc | apply Kd.R_drewN | apply Kd.R_drew)); exact HQ22.out⟩, ⟨by repeat (first | (with_reducible first | exact HK.out | apply Kept.alloc | apply Kept.drewN | apply Kept.drew | refine Kept.setCell ?_ HMgo15.out _ | refine Kept.setCell ?_ HMgo15.out _ | refine Kept.setCell ?_ HMgo15.out _ | refine Kept.setCell ?_ HMgo15.out _ | refine Kept.setCell ?_ HMgo15.out _ | refine Kept.setCell ?_ HMgo15.out _ | refine Kept.setCell ?_ HMgo15.out _ | refine Kept.setCell ?_ HMgo15.out _) | exact HK.out)⟩, ⟨by repeat (first | (with_reducible first | exact HB.out | apply below_alloc | apply pw_below_drewN | apply below_drew1 | refine below_set ?_ GB15.out | refine below_set ?_ GB15.out | refine below_set ?_ GB15.out | refine below_set ?_ GB15.out | refine below_set ?_ GB15.out | refine below_set ?_ GB15.out | refine below_set ?_ GB15.out | refine below_set ?_ GB15.out) | exact HB.out)⟩⟩
                      · rw [if_neg c14] at H
                        have c14b0 : decide (t495 < 0) = false := decide_eq_false c14
                        clear c14
                        obtain ⟨z500, E230, H⟩ := oc H
                        have E23w : (IntKind.i64.wrap (x8_1 + 1)) = z500 := (i64_w _).trans E230
                        have H' := Aside0.mk H
                        clear H
                        (try have hpz493 : z493.toNat < x9_2.toNat := wrap_pred E100 (of_decide_eq_true (by assumption)) (of_decide_eq_true (by assumption)))
                        try go_wp2
                        replace HO_0 := Aside0.mk (Kd.R_drew HO_0.out)
                        replace HK := Aside0.mk (Kept.drew HK.out)
                        replace HB := bdn HB
                        obtain ⟨Ao25, co25, eo25⟩ := Kd.R_slice HO_0.out
                        (first | subst eo25 | (injection eo25 with f1_ f2_ f3_; have f4_ := f1_.symm; have f5_ := f3_.symm; clear f1_ f2_ f3_; subst f4_; subst f5_))
                        have p492 : 0 ≤ (x9_2 : Int) := of_decide_eq_true (by first | (with_reducible assumption) | assumption)
                        have q492 : x9_2 < (x0_2.length : Int) := of_decide_eq_true (by first | (with_reducible assumption) | assumption)
                        obtain ⟨ad492, e492, hx492_0, hx492_1, hx492_2, hx492_3⟩ := at_T25 (Kd.R_reads' HO_0.out).2.2 x9_2 p492 q492
                        cases e492
                        replace p492 := eq_true p492
                        replace q492 := eq_true q492
                        have p494 : 0 ≤ (z493 : Int) := of_decide_eq_true (by first | (with_reducible assumption) | assumption)
                        have q494 : z493 < (x0_2.length : Int) := of_decide_eq_true (by first | (with_reducible assumption) | assumption)
                        obtain ⟨ad494, e494, hx494_0, hx494_1, hx494_2, hx494_3⟩ := at_T25 (Kd.R_reads' HO_0.out).2.2 z493 p494 q494
                        obtain rfl : ad492 = ad494 := (by injection e494)
                        replace p494 := eq_true p494
                        replace q494 := eq_true q494
                        refine start_ (n := 17) (S := fun w' => w'.cell? (ad492.add ((x9_2).toNat * 4)) = some (.int .i64 ((rd_T25 x0_2 x9_2).f0)) ∧ w'.cell? ⟨(ad492.add ((x9_2).toNat * 4)).block, (ad492.add ((x9_2).toNat * 4)).off + 1, none⟩ = some (.int .i64 ((rd_T25 x0_2 x9_2).f1)) ∧ w'.cell? ⟨(ad492.add ((x9_2).toNat * 4)).block, (ad492.add ((x9_2).toNat * 4)).off + 2, none⟩ = some (.int .i64 ((rd_T25 x0_2 x9_2).f2)) ∧ w'.cell? ⟨(ad492.add ((x9_2).toNat * 4)).block, (ad492.add ((x9_2).toNat * 4)).off + 3, none⟩ = some (.int .i64 ((rd_T25 x0_2 x9_2).f3)) ∧ w'.cell? (ad492.add ((z493).toNat * 4)) = some (.int .i64 ((rd_T25 x0_2 z493).f0)) ∧ w'.cell? ⟨(ad492.add ((z493).toNat * 4)).block, (ad492.add ((z493).toNat * 4)).off + 1, none⟩ = some (.int .i64 ((rd_T25 x0_2 z493).f1)) ∧ w'.cell? ⟨(ad492.add ((z493).toNat * 4)).block, (ad492.add ((z493).toNat * 4)).off + 2, none⟩ = some (.int .i64 ((rd_T25 x0_2 z493).f2)) ∧ w'.cell? ⟨(ad492.add ((z493).toNat * 4)).block, (ad492.add ((z493).toNat * 4)).off + 3, none⟩ = some (.int .i64 ((rd_T25 x0_2 z493).f3))) (ds := []) #[false, false, false, false, false, false, false, false, false, false, false, false, false, false, false, false, false] (by kernel_rfl) rfl rfl ⟨hx492_0, hx492_1, hx492_2, hx492_3, hx494_0, hx494_1, hx494_2, hx494_3⟩ (fun hHeld => ?_); refine with_tabW api_GrMatrix_85.tab4 api_GrMatrix_85.bits4 (fun HT_ HW_ => ?_)
                        generalize wr.drew = w24 at HO_0 HK HB hx492_0 hx492_1 hx492_2 hx492_3 hx494_0 hx494_1 hx494_2 hx494_3 hHeld ⊢
                        refine pz 0 18 HT_ ?_
                        refine pz 1 19 HT_ ?_
                        refine pz 2 20 HT_ ?_
                        refine pz 3 21 HT_ ?_
                        refine pz 4 22 HT_ ?_
                        refine pz 5 23 HT_ ?_
                        refine pz 6 24 HT_ ?_
                        refine pz 7 25 HT_ ?_
                        refine pz 9 27 HT_ ?_
                        refine pz 10 28 HT_ ?_
                        refine pz 11 29 HT_ ?_
                        refine pz 12 30 HT_ ?_
                        refine tz 8 26 HT_ HW_ hHeld ?_
                        refine tz 13 31 HT_ HW_ hHeld ?_
                        refine one_ (i := 14) (N := some 32) #[true, true, true, true, true, true, true, true, true, true, true, true, true, true, true, false, false] rfl rfl (one_of HT_.out (by kernel_rfl)) (by decide) (fun K hK => ?_)
                        refine goesV_ Try.func42 (by kernel_rfl) rfl #[.agg #[.int .i64 ((rd_T25 x0_2 x9_2).f0), .int .i64 ((rd_T25 x0_2 x9_2).f1), .int .i64 ((rd_T25 x0_2 x9_2).f2), .int .i64 ((rd_T25 x0_2 x9_2).f3)], .agg #[.int .i64 ((rd_T25 x0_2 z493).f0), .int .i64 ((rd_T25 x0_2 z493).f1), .int .i64 ((rd_T25 x0_2 z493).f2), .int .i64 ((rd_T25 x0_2 z493).f3)]] (by rfl) rfl rfl (by rfl) am ?_
                        with_reducible refine (grids_order.calls k2 ((rd_T25 x0_2 x9_2).f0) ((rd_T25 x0_2 x9_2).f1) ((rd_T25 x0_2 x9_2).f2) ((rd_T25 x0_2 x9_2).f3) ((rd_T25 x0_2 z493).f0) ((rd_T25 x0_2 z493).f1) ((rd_T25 x0_2 z493).f2) ((rd_T25 x0_2 z493).f3) t495 _ A13.out).mono ?_
                        rintro e w26 ⟨rfl, hb⟩
                        have HS0_ := (hb.cell (World.block_lt_of_cell? _ _ (hHeld.1))).trans (hHeld.1)
                        have HS1_ := (hb.cell (World.block_lt_of_cell? _ _ (hHeld.2.1))).trans (hHeld.2.1)
                        have HS2_ := (hb.cell (World.block_lt_of_cell? _ _ (hHeld.2.2.1))).trans (hHeld.2.2.1)
                        have HS3_ := (hb.cell (World.block_lt_of_cell? _ _ (hHeld.2.2.2.1))).trans (hHeld.2.2.2.1)
                        have HS4_ := (hb.cell (World.block_lt_of_cell? _ _ (hHeld.2.2.2.2.1))).trans (hHeld.2.2.2.2.1)
                        have HS5_ := (hb.cell (World.block_lt_of_cell? _ _ (hHeld.2.2.2.2.2.1))).trans (hHeld.2.2.2.2.2.1)
                        have HS6_ := (hb.cell (World.block_lt_of_cell? _ _ (hHeld.2.2.2.2.2.2.1))).trans (hHeld.2.2.2.2.2.2.1)
                        have HS7_ := (hb.cell (World.block_lt_of_cell? _ _ (hHeld.2.2.2.2.2.2.2))).trans (hHeld.2.2.2.2.2.2.2)
                        refine ⟨_, rfl, ?_⟩
                        have n0_ := Aside0.mk (Kd.R_below (by (with_reducible repeat (first | apply Kd.R_alloc | apply Kd.R_drewN | apply Kd.R_drew)); exact HO_0.out) hb)
                        have n1_ := Aside0.mk (Kept.below (S := (fun k_ => P0_ k_)) (by repeat (first | (with_reducible first | exact HK.out | apply Kept.alloc | apply Kept.drewN | apply Kept.drew) | exact HK.out)) hb)
                        have n2_ := bst HB hb
                        clear HO_0
                        clear HK
                        clear HB
                        have HO_0 := n0_
                        have HK := n1_
                        have HB := n2_
                        clear n0_ n1_ n2_
                        (try clear hb)
                        (try clear hb2)
                        (try clear hk)
                        (try clear hi)
                        refine hK.out _ _ ⟨HS0_, HS1_, HS2_, HS3_, HS4_, HS5_, HS6_, HS7_⟩ (fun hHeld => ?_)
                        clear hK K
                        refine norm_ (a' := ?_) ?_ ?_
                        rotate_left
                        · show Act.put _ (some 32) _ = _
                          simp only [Act.put, List.setIfInBounds_toArray, List.set_cons_zero, List.set_cons_succ, i64_w, i32_w]
                          rfl
                        refine pz 15 33 HT_ ?_
                        refine pz 16 34 HT_ ?_
                        refine done_ (done_of HT_.out (by kernel_rfl)) ?_
                        try go_wp2
                        go_roundg k2
                        case measure => have := HK1.out; have := HK2.out; omega
                        case rel => exact ⟨(x0_2), (z500), (by first | rfl | (simp; done) | (simp [*]; done)), H', ⟨by have := HK1.out; have := HK2.out; omega⟩, ⟨by (with_reducible repeat (first | apply Kd.R_alloc | apply Kd.R_drewN | apply Kd.R_drew)); exact HO_0.out⟩, ⟨by repeat (first | (with_reducible first | exact HK.out | apply Kept.alloc | apply Kept.drewN | apply Kept.drew) | exact HK.out)⟩, ⟨bnow HB⟩⟩
                    · rw [if_neg c12] at H
                      exact absurd H (by simp)
                  · rw [if_neg c11] at H
                    exact absurd H (by simp)
                · rw [if_neg c9] at H
                  exact absurd H (by simp)
              · rw [if_neg c8] at H
                exact absurd H (by simp)
            · rw [if_neg c7] at H
              have c7b0 : decide (a1 < x9_2) = false := decide_eq_false c7
              clear c7
              obtain ⟨z501, E270, H⟩ := oc H
              have E27w : (IntKind.i64.wrap (x8_1 + 1)) = z501 := (i64_w _).trans E270
              have H' := Aside0.mk H
              clear H
              try go_wp2
              replace HO_0 := Aside0.mk (Kd.R_drew HO_0.out)
              replace HK := Aside0.mk (Kept.drew HK.out)
              replace HB := bdn HB
              refine start_ (n := 17) (S := fun w' => True) (ds := []) #[false, false, false, false, false, false, false, false, false, false, false, false, false, false, false, false, false] (by kernel_rfl) rfl rfl trivial (fun hHeld => ?_); refine with_tabW api_GrMatrix_85.tab4 api_GrMatrix_85.bits4 (fun HT_ HW_ => ?_)
              generalize wr.drew = w28 at HO_0 HK HB hHeld ⊢
              refine pz 0 18 HT_ ?_
              refine pz 1 19 HT_ ?_
              refine pz 2 20 HT_ ?_
              refine pz 3 21 HT_ ?_
              refine pu 4 22 HT_ ?_
              refine pu 5 23 HT_ ?_
              refine pu 6 24 HT_ ?_
              refine pu 7 25 HT_ ?_
              refine pu 8 26 HT_ ?_
              refine pu 9 27 HT_ ?_
              refine pu 10 28 HT_ ?_
              refine pu 11 29 HT_ ?_
              refine pu 12 30 HT_ ?_
              refine pu 13 31 HT_ ?_
              refine pu 14 32 HT_ ?_
              refine pu 15 33 HT_ ?_
              refine pz 16 34 HT_ ?_
              refine done_ (done_of HT_.out (by kernel_rfl)) ?_
              try go_wp2
              go_roundg k2
              case measure => have := HK1.out; have := HK2.out; omega
              case rel => exact ⟨(x0_2), (z501), (by first | rfl | (simp; done) | (simp [*]; done)), H', ⟨by have := HK1.out; have := HK2.out; omega⟩, ⟨by (with_reducible repeat (first | apply Kd.R_alloc | apply Kd.R_drewN | apply Kd.R_drew)); exact HO_0.out⟩, ⟨by repeat (first | (with_reducible first | exact HK.out | apply Kept.alloc | apply Kept.drewN | apply Kept.drew) | exact HK.out)⟩, ⟨bnow HB⟩⟩
      · rw [if_neg c6] at H
        have c6b0 : decide (x8_1 < a2) = false := decide_eq_false c6
        clear c6
        obtain rfl := Option.some.inj H
        go_wp2
        first | go_end0 | ((try simp only [Exit.inBlock, Exit.then]); refine bodyPost_ret (results_none rfl _ _ _) rfl ?_)
        exact ⟨by first | rfl | (simp [errW_none, errW_some] <;> rfl) | (simp [*, errW_none, errW_some] <;> rfl), by (with_reducible repeat (first | apply Kd.R_alloc | apply Kd.R_drewN | apply Kd.R_drew)); exact HO_0.out, by repeat (first | (with_reducible first | exact HB.out | apply below_alloc | apply pw_below_drewN | apply below_drew1) | exact HB.out), by repeat (first | (with_reducible first | exact HK.out | apply Kept.alloc | apply Kept.drewN | apply Kept.drew) | exact HK.out)⟩
end
section
/-! ### api_GrMatrix_81: function 81 -/
mutual
def api_GrMatrix_81.l0 : Nat → List (S25) → Int → Int → Int → Bool → Option ((List (S25)))
  | 0, _, _, _, _, _ => none
  | k + 1, x0, x1, x2, x3, x10 => (some (wrap64 (x2 - x1))).bind fun z502 => (if z502 ≤ 12 then ((api_GrMatrix_85.f k x0 x1 x2).bind fun t503 => (some t503)) else (if x3 = 0 then (none) else (if x10 = true then (none) else (none))))
def api_GrMatrix_81.f : Nat → List (S25) → Int → Int → Int → Option ((List (S25)))
  | 0, _, _, _, _ => none
  | k + 1, l0, a1, a2, a3 => api_GrMatrix_81.l0 k l0 a1 a2 a3 true
end
theorem api_GrMatrix_81.mono_l : ∀ k, (∀ y0 y1 y2 y3, LeO (api_GrMatrix_81.f k y0 y1 y2 y3) (api_GrMatrix_81.f (k + 1) y0 y1 y2 y3)) ∧ (∀ y0 y1 y2 y3 y4, LeO (api_GrMatrix_81.l0 k y0 y1 y2 y3 y4) (api_GrMatrix_81.l0 (k + 1) y0 y1 y2 y3 y4))
  | 0 => ⟨fun _ _ _ _ r h => by simp [api_GrMatrix_81.f] at h, fun _ _ _ _ _ r h => by simp [api_GrMatrix_81.l0] at h⟩
  | k + 1 => by
    obtain ⟨ih0, ih1⟩ := api_GrMatrix_81.mono_l k
    refine ⟨?_, ?_⟩
    · intro y0 y1 y2 y3
      unfold api_GrMatrix_81.f
      repeat' first
      | (with_reducible exact ih0 _ _ _ _)
      | (with_reducible exact ih1 _ _ _ _ _)
      | (with_reducible exact api_GrMatrix_85.mono _ _ _ _)
      | (with_reducible exact LeO.refl _)
      | (with_reducible exact LeO.none _)
      | (with_reducible refine LeO.ite ?_ ?_)
      | (with_reducible refine LeO.bind ?_ (fun _ => ?_))
      | exact ih0 _ _ _ _
      | exact ih1 _ _ _ _ _
      | exact api_GrMatrix_85.mono _ _ _ _
      | exact LeO.none _
      | refine LeO.ite ?_ ?_
      | refine LeO.bind ?_ (fun _ => ?_)
    · intro y0 y1 y2 y3 y4
      unfold api_GrMatrix_81.l0
      repeat' first
      | (with_reducible exact ih0 _ _ _ _)
      | (with_reducible exact ih1 _ _ _ _ _)
      | (with_reducible exact api_GrMatrix_85.mono _ _ _ _)
      | (with_reducible exact LeO.refl _)
      | (with_reducible exact LeO.none _)
      | (with_reducible refine LeO.ite ?_ ?_)
      | (with_reducible refine LeO.bind ?_ (fun _ => ?_))
      | exact ih0 _ _ _ _
      | exact ih1 _ _ _ _ _
      | exact api_GrMatrix_85.mono _ _ _ _
      | exact LeO.none _
      | refine LeO.ite ?_ ?_
      | refine LeO.bind ?_ (fun _ => ?_)
theorem api_GrMatrix_81.mono : ∀ a0 a1 a2 a3 k, LeO (api_GrMatrix_81.f k a0 a1 a2 a3) (api_GrMatrix_81.f (k + 1) a0 a1 a2 a3) := by
  intro a0 a1 a2 a3 k
  obtain ⟨ih0, ih1⟩ := api_GrMatrix_81.mono_l k
  exact ih0 a0 a1 a2 a3
set_option maxHeartbeats 8000000 in
set_option maxRecDepth 100000 in
theorem api_GrMatrix_81.calls (k : Nat) : ∀ (P0_ : Nat → Prop) (u9000_ : Value) (l0 : List (S25)) (a1 : Int) (a2 : Int) (a3 : Int)  (r : List (S25)) (w0 w : World) (hB : Below w0.heap.size w0 w) (ho0 : Kd.R k25 25 w w0.heap.size P0_ u9000_ l0) (h : api_GrMatrix_81.f k l0 a1 a2 a3 = some r),
    Calls Try.prog 81 #[u9000_, .int .i64 a1, .int .i64 a2, .int .i64 a3, .func (.func 42) #[] #[]] w fun e w' => e = .returned (.tuple #[]) ∧ Kd.R k25 25 w' w0.heap.size (fun k_ => (P0_ k_ ∨ w.heap.size ≤ k_)) u9000_ r ∧ Below w0.heap.size w0 w' ∧ Kept w w' (fun k_ => P0_ k_) := by
  induction k using Nat.strongRecOn with
  | _ k ih =>
  intro P0_ u9000_ l0 a1 a2 a3 r w0 w hB ho0 h
  cases k with
  | zero => exact absurd h (by simp [api_GrMatrix_81.f])
  | succ k =>
  simp only [api_GrMatrix_81.f] at h
  have hu25 := Try.underlying25
  have HO0 := Aside0.mk (show Kd.R k25 25 w w0.heap.size (fun k_ => (P0_ k_ ∨ w.heap.size ≤ k_)) u9000_ l0 from Kd.R_mono ho0 (fun k_ hk => (.inl hk)))
  have HK := Aside0.mk (Kept.refl w (fun k_ => P0_ k_))
  have HW0 := Aside0.mk hB.size
  have HB := Aside0.mk hB
  clear hB
  have H : (api_GrMatrix_81.l0 k l0 a1 a2 a3 true) = some r := h
  clear h
  have H' := Aside0.mk H
  clear H
  go_enter Try.func81, Try.ntmps81
  go_wp2
  go_loopg [1, 2, 3, 10] k (fun kq v1 v2 v3 v10 w' => ∃ (x0_1 : List (S25)) (x1_1 : Int) (x2_1 : Int) (x3_1 : Int) (x10_1 : Bool), v1 = .int .i64 x1_1 ∧ v2 = .int .i64 x2_1 ∧ v3 = .int .i64 x3_1 ∧ v10 = .bool x10_1 ∧ Aside0 (api_GrMatrix_81.l0 kq x0_1 x1_1 x2_1 x3_1 x10_1 = some r) ∧ Aside0 (kq ≤ k) ∧ Aside0 (Kd.R k25 25 w' w0.heap.size (fun k_ => (P0_ k_ ∨ w.heap.size ≤ k_)) u9000_ x0_1) ∧ Aside0 (Kept w w' (fun k_ => P0_ k_)) ∧ Aside0 (Below w0.heap.size w0 w'))
  case atStart => exact ⟨(l0), (a1), (a2), (a3), (true), (by first | rfl | (simp; done) | (simp [*]; done)), (by first | rfl | (simp; done) | (simp [*]; done)), (by first | rfl | (simp; done) | (simp [*]; done)), (by first | rfl | (simp; done) | (simp [*]; done)), H', ⟨Nat.le_refl _⟩, ⟨by (with_reducible repeat (first | apply Kd.R_alloc | apply Kd.R_drewN | apply Kd.R_drew)); exact HO0.out⟩, ⟨by repeat (first | (with_reducible first | exact HK.out | apply Kept.alloc | apply Kept.drewN | apply Kept.drew) | exact HK.out)⟩, ⟨bnow HB⟩⟩
  case round =>
    clear H'
    try clear p2
    obtain ⟨x0_1, x1_1, x2_1, x3_1, x10_1, rfl, rfl, rfl, rfl, HA, HK1, HO_0, HK, HB⟩ := hrel
    cases gk with
    | zero => exact absurd HA.out (by simp [api_GrMatrix_81.l0])
    | succ k1 =>
      have H := HA.out
      clear HA
      simp only [api_GrMatrix_81.l0] at H
      obtain ⟨z502, E60, H⟩ := oc H
      have E6w : (IntKind.i64.wrap (x2_1 - x1_1)) = z502 := (i64_w _).trans E60
      by_cases c7 : z502 ≤ 12
      · rw [if_pos c7] at H
        have c7b0 : decide (z502 ≤ 12) = true := decide_eq_true c7
        clear c7
        obtain ⟨t503, A8, H⟩ := ob H
        obtain rfl := Option.some.inj H
        obtain ⟨Ao9, co9, eo9⟩ := Kd.R_slice HO_0.out
        subst eo9
        go_wp2_with (first | ((with_reducible refine gate_callee (f := 85) rfl ?_); refine goesL_ (some 30) rfl rfl Try.func85 (by kernel_rfl) rfl #[.slice Ao9 x0_1.length co9, .int .i64 x1_1, .int .i64 x2_1, .func (.func 42) #[] #[]] rfl am ?_; (with_reducible refine (api_GrMatrix_85.calls k1 (fun k_ => some k_ = (.slice Ao9 x0_1.length co9 : Value).ownBlock) (.slice Ao9 x0_1.length co9) x0_1 x1_1 x2_1  t503 w0 _ ?side1 ?side2 A8.out).mono ?_); (case side1 => repeat (first | (with_reducible first | exact HB.out | apply below_alloc | apply pw_below_drewN | apply below_drew1) | exact HB.out)); (case side2 => exact Kd.R_tight rfl HO_0.out); rintro e w10 ⟨rfl, hy0, hb, hkp⟩; refine ⟨_, rfl, ?_⟩; have n0_ := Aside0.mk (Kd.R_reok rfl hy0 (fun k_ e_ => HO_0.out.1 k_ e_)); have n1_ := Aside0.mk (Kept.then_ (S := (fun k_ => P0_ k_)) (by repeat (first | (with_reducible first | exact HK.out | apply Kept.alloc | apply Kept.drewN | apply Kept.drew) | exact HK.out)) hkp (fun k_ hs_ => (fun e_ => (HO_0.out.1 k_ e_.symm)) hs_)); have n2_ := Aside0.mk (hb); clear HO_0; clear HK; clear HB; have HO_0 := n0_; have HK := n1_; have HB := n2_; clear n0_ n1_ n2_; (try clear hb); (try clear hkp); (try clear hy0)))
        first | go_end0 | ((try simp only [Exit.inBlock, Exit.then]); refine bodyPost_ret (results_none rfl _ _ _) rfl ?_)
        exact ⟨by first | rfl | (simp [errW_none, errW_some] <;> rfl) | (simp [*, errW_none, errW_some] <;> rfl), by (with_reducible repeat (first | apply Kd.R_alloc | apply Kd.R_drewN | apply Kd.R_drew)); exact HO_0.out, by repeat (first | (with_reducible first | exact HB.out | apply below_alloc | apply pw_below_drewN | apply below_drew1) | exact HB.out), by repeat (first | (with_reducible first | exact HK.out | apply Kept.alloc | apply Kept.drewN | apply Kept.drew) | exact HK.out)⟩
      · rw [if_neg c7] at H
        have c7b0 : decide (z502 ≤ 12) = false := decide_eq_false c7
        clear c7
        by_cases c11 : x3_1 = 0
        · rw [if_pos c11] at H
          exact absurd H (by simp)
        · rw [if_neg c11] at H
          have c11b0 : (x3_1 == 0) = false := beq_eq_false_iff_ne.mpr c11
          have c11b1 : (x3_1 != 0) = true := bne_iff_ne.mpr c11
          by_cases c12 : x10_1 = true
          · subst c12
            have H1 : (none) = some r := by rw [if_pos rfl] at H; exact H
            clear H
            have H := H1
            clear H1
            exact absurd H (by simp)
          · replace c12 := Bool.eq_false_iff.mpr c12
            subst c12
            have H1 : (none) = some r := by rw [if_neg (show ¬ (false = true) by decide)] at H; exact H
            clear H
            have H := H1
            clear H1
            exact absurd H (by simp)
end
section
/-! ### api_GrMatrix_58: function 58 -/
def api_GrMatrix_58.f (k : Nat) (l0 : List (S25))  : Option ((List (S25))) := (bits_Len.f (IntKind.u64.wrap ((l0.length : Int)))).bind fun t504 => ((api_GrMatrix_81.f k l0 0 (l0.length : Int) t504).bind fun t505 => (some t505))
theorem api_GrMatrix_58.mono : ∀ a0 k, LeO (api_GrMatrix_58.f k a0) (api_GrMatrix_58.f (k + 1) a0) := by
  intro a0 k
  unfold api_GrMatrix_58.f
  repeat' first
      | (with_reducible exact api_GrMatrix_81.mono _ _ _ _ _)
      | (with_reducible exact LeO.refl _)
      | (with_reducible exact LeO.none _)
      | (with_reducible refine LeO.ite ?_ ?_)
      | (with_reducible refine LeO.bind ?_ (fun _ => ?_))
      | exact api_GrMatrix_81.mono _ _ _ _ _
      | exact LeO.none _
      | refine LeO.ite ?_ ?_
      | refine LeO.bind ?_ (fun _ => ?_)
set_option maxHeartbeats 8000000 in
set_option maxRecDepth 100000 in
theorem api_GrMatrix_58.calls (k : Nat) (P0_ : Nat → Prop) (u9000_ : Value) (l0 : List (S25))  (r : List (S25)) (w0 w : World) (hB : Below w0.heap.size w0 w) (ho0 : Kd.R k25 25 w w0.heap.size P0_ u9000_ l0) (h : api_GrMatrix_58.f k l0 = some r) :
    Calls Try.prog 58 #[u9000_, .func (.func 42) #[] #[]] w fun e w' => e = .returned (.tuple #[]) ∧ Kd.R k25 25 w' w0.heap.size (fun k_ => (P0_ k_ ∨ w.heap.size ≤ k_)) u9000_ r ∧ Below w0.heap.size w0 w' ∧ Kept w w' (fun k_ => P0_ k_) := by
  have HO0 := Aside0.mk (show Kd.R k25 25 w w0.heap.size (fun k_ => (P0_ k_ ∨ w.heap.size ≤ k_)) u9000_ l0 from Kd.R_mono ho0 (fun k_ hk => (.inl hk)))
  have HK := Aside0.mk (Kept.refl w (fun k_ => P0_ k_))
  have HW0 := Aside0.mk hB.size
  have HB := Aside0.mk hB
  clear hB
  have H : ((bits_Len.f (IntKind.u64.wrap ((l0.length : Int)))).bind fun t504 => ((api_GrMatrix_81.f k l0 0 (l0.length : Int) t504).bind fun t505 => (some t505))) = some r := h
  clear h
  obtain ⟨t504, A3, H⟩ := ob H
  obtain ⟨t505, A4, H⟩ := ob H
  obtain rfl := Option.some.inj H
  obtain ⟨Ao5, co5, eo5⟩ := Kd.R_slice HO0.out
  subst eo5
  go_enter Try.func58, Try.ntmps58
  go_wp2_with (first | ((with_reducible refine gate_callee (f := 82) rfl ?_); refine goesL_ (some 11) rfl rfl Try.func82 (by kernel_rfl) rfl #[.int .u64 (IntKind.u64.wrap ((l0.length : Int)))] rfl am ?_; (with_reducible refine (bits_Len.calls (IntKind.u64.wrap ((l0.length : Int))) t504 _ A3.out).mono ?_); rintro e w' ⟨rfl, ⟨nd, rfl⟩⟩; refine ⟨_, rfl, ?_⟩) | ((with_reducible refine gate_callee (f := 81) rfl ?_); refine goesL_ (some 13) rfl rfl Try.func81 (by kernel_rfl) rfl #[.slice Ao5 l0.length co5, .int .i64 0, .int .i64 (l0.length : Int), .int .i64 t504, .func (.func 42) #[] #[]] rfl am ?_; (with_reducible refine (api_GrMatrix_81.calls k (fun k_ => some k_ = (.slice Ao5 l0.length co5 : Value).ownBlock) (.slice Ao5 l0.length co5) l0 0 (l0.length : Int) t504  t505 w0 _ ?side1 ?side2 A4.out).mono ?_); (case side1 => repeat (first | (with_reducible first | exact HB.out | apply below_alloc | apply pw_below_drewN | apply below_drew1) | exact HB.out)); (case side2 => exact Kd.R_tight rfl HO0.out); rintro e w6 ⟨rfl, hy0, hb, hkp⟩; refine ⟨_, rfl, ?_⟩; have n0_ := Aside0.mk (Kd.R_reok rfl hy0 (fun k_ e_ => HO0.out.1 k_ e_)); have n1_ := Aside0.mk (Kept.then_ (S := (fun k_ => P0_ k_)) (by repeat (first | (with_reducible first | exact HK.out | apply Kept.alloc | apply Kept.drewN | apply Kept.drew) | exact HK.out)) hkp (fun k_ hs_ => (fun e_ => (HO0.out.1 k_ e_.symm)) hs_)); have n2_ := Aside0.mk (hb); clear HO0; clear HK; clear HB; have HO0 := n0_; have HK := n1_; have HB := n2_; clear n0_ n1_ n2_; (try clear hb); (try clear hkp); (try clear hy0)))
  first | go_end0 | ((try simp only [Exit.inBlock, Exit.then]); refine bodyPost_ret (results_none rfl _ _ _) rfl ?_)
  exact ⟨by first | rfl | (simp [errW_none, errW_some] <;> rfl) | (simp [*, errW_none, errW_some] <;> rfl), by (with_reducible repeat (first | apply Kd.R_alloc | apply Kd.R_drewN | apply Kd.R_drew)); exact HO0.out, by repeat (first | (with_reducible first | exact HB.out | apply below_alloc | apply pw_below_drewN | apply below_drew1) | exact HB.out), by repeat (first | (with_reducible first | exact HK.out | apply Kept.alloc | apply Kept.drewN | apply Kept.drew) | exact HK.out)⟩
end
section
/-! ### grids_Group: function 22 -/
def grids_Group.l0 : Nat → List (S25) → Int → Int → Int → Int → Int → Int → Option ((List (S25)) × Int)
  | 0, _, _, _, _, _, _, _ => none
  | k + 1, x7, x22, x23, x517000, x517001, x517002, x517003 => if x23 < x22 then (if 0 ≤ x23 then (if x23 < (x7.length : Int) then ((grids_times.f x517000 x517001 x517002 x517003 ((rd_T25 x7 x23).f0) ((rd_T25 x7 x23).f1) ((rd_T25 x7 x23).f2) ((rd_T25 x7 x23).f3)).bind fun bt521 => ((grids_inverse.f x517000 x517001 x517002 x517003).bind fun bt525 => ((grids_times.f bt521.1 bt521.2.1 bt521.2.2.1 bt521.2.2.2 bt525.1 bt525.2.1 bt525.2.2.1 bt525.2.2.2).bind fun bt529 => ((some (wrap64 (x23 + 1))).bind fun z534 => (grids_Group.l0 k (x7.set (x23 : Int).toNat (⟨bt529.1, bt529.2.1, bt529.2.2.1, bt529.2.2.2⟩ : S25)) x22 z534 x517000 x517001 x517002 x517003))))) else (none)) else (none)) else ((api_GrMatrix_58.f k x7).bind fun t535 => (some (t535, 0)))
def grids_Group.f (k : Nat) (a0_0 : Int) (a0_1 : Int) (a0_2 : Int) : Option ((List (S25)) × Int) := (grids_Check.f k a0_0 a0_1 a0_2).bind fun t507 => (if t507 = 0 then ((grids_reduce.f k a0_0 a0_1 a0_2).bind fun bt508 => ((grids_group.f k bt508.1 bt508.2.1 bt508.2.2.1).bind fun t517 => (grids_Group.l0 k t517 (t517.length : Int) 0 bt508.2.2.2.1 bt508.2.2.2.2.1 bt508.2.2.2.2.2.1 bt508.2.2.2.2.2.2))) else (some (([] : List (S25)), t507)))
theorem grids_Group.mono_l : ∀ k, (∀ y0 y1 y2 y3 y4 y5 y6, LeO (grids_Group.l0 k y0 y1 y2 y3 y4 y5 y6) (grids_Group.l0 (k + 1) y0 y1 y2 y3 y4 y5 y6))
  | 0 => fun _ _ _ _ _ _ _ r h => by simp [grids_Group.l0] at h
  | k + 1 => by
    have ih0 := grids_Group.mono_l k
    · intro y0 y1 y2 y3 y4 y5 y6
      unfold grids_Group.l0
      repeat' first
      | (with_reducible exact ih0 _ _ _ _ _ _ _)
      | (with_reducible exact api_GrMatrix_58.mono _ _)
      | (with_reducible exact grids_Check.mono _ _ _ _)
      | (with_reducible exact grids_group.mono _ _ _ _)
      | (with_reducible exact grids_reduce.mono _ _ _ _)
      | (with_reducible exact LeO.refl _)
      | (with_reducible exact LeO.none _)
      | (with_reducible refine LeO.ite ?_ ?_)
      | (with_reducible refine LeO.bind ?_ (fun _ => ?_))
      | exact ih0 _ _ _ _ _ _ _
      | exact api_GrMatrix_58.mono _ _
      | exact grids_Check.mono _ _ _ _
      | exact grids_group.mono _ _ _ _
      | exact grids_reduce.mono _ _ _ _
      | exact LeO.none _
      | refine LeO.ite ?_ ?_
      | refine LeO.bind ?_ (fun _ => ?_)
theorem grids_Group.mono : ∀ a0 a1 a2 k, LeO (grids_Group.f k a0 a1 a2) (grids_Group.f (k + 1) a0 a1 a2) := by
  intro a0 a1 a2 k
  have ih0 := grids_Group.mono_l k
  unfold grids_Group.f
  repeat' first
      | (with_reducible exact ih0 _ _ _ _ _ _ _)
      | (with_reducible exact api_GrMatrix_58.mono _ _)
      | (with_reducible exact grids_Check.mono _ _ _ _)
      | (with_reducible exact grids_group.mono _ _ _ _)
      | (with_reducible exact grids_reduce.mono _ _ _ _)
      | (with_reducible exact LeO.refl _)
      | (with_reducible exact LeO.none _)
      | (with_reducible refine LeO.ite ?_ ?_)
      | (with_reducible refine LeO.bind ?_ (fun _ => ?_))
      | exact ih0 _ _ _ _ _ _ _
      | exact api_GrMatrix_58.mono _ _
      | exact grids_Check.mono _ _ _ _
      | exact grids_group.mono _ _ _ _
      | exact grids_reduce.mono _ _ _ _
      | exact LeO.none _
      | refine LeO.ite ?_ ?_
      | refine LeO.bind ?_ (fun _ => ?_)
def grids_Group.T9 : Bool × List (List Nat × List Nat) := (true, [([], []), ([], []), ([], []), ([], []), ([], []), ([3, 4], [3, 4]), ([5], [5]), ([2, 6], [2, 6]), ([], []), ([8, 7], [8]), ([7, 9, 9], [7, 9]), ([0, 1, 0, 1, 2, 3, 4, 5, 6, 7, 8, 9, 10], [0, 1]), ([11, 10, 10, 0, 1, 2, 3, 4, 5, 6, 7, 8, 9, 10], [10, 11])])
def grids_Group.B9 : List Nat := [0, 0, 0, 0, 0, 24, 56, 124, 0, 508, 1020, 2047, 4095]
theorem grids_Group.tab9 : rtab .any (opsOf Try.f22 9) = grids_Group.T9 := by kernel_rfl
theorem grids_Group.bits9 : waitsOk grids_Group.T9.2 grids_Group.B9 = true := by kernel_rfl
set_option maxHeartbeats 8000000 in
set_option maxRecDepth 100000 in
theorem grids_Group.calls (k : Nat) (a0_0 : Int) (a0_1 : Int) (a0_2 : Int) (r1 : List (S25)) (r2 : Int) (w : World) (h : grids_Group.f k a0_0 a0_1 a0_2 = some (r1, r2)) :
    Calls Try.prog 22 #[.agg #[.int .i64 a0_0, .int .i64 a0_1, .int .i64 a0_2]] w fun e w' => ∃ v0_ : Value, e = .returned (.tuple #[v0_, .int .i64 r2]) ∧ Kd.R k25 25 w' w.heap.size (fun _ => True) v0_ r1 ∧ Below w.heap.size w w' := by
  have hu23 := Try.underlying23
  have hu25 := Try.underlying25
  have HB := Aside0.mk (Below.refl w.heap.size w)
  have H : ((grids_Check.f k a0_0 a0_1 a0_2).bind fun t507 => (if t507 = 0 then ((grids_reduce.f k a0_0 a0_1 a0_2).bind fun bt508 => ((grids_group.f k bt508.1 bt508.2.1 bt508.2.2.1).bind fun t517 => (grids_Group.l0 k t517 (t517.length : Int) 0 bt508.2.2.2.1 bt508.2.2.2.2.1 bt508.2.2.2.2.2.1 bt508.2.2.2.2.2.2))) else (some (([] : List (S25)), t507)))) = some (r1, r2) := h
  clear h
  obtain ⟨t507, A2, H⟩ := ob H
  by_cases c3 : t507 = 0
  · rw [if_pos c3] at H
    have c3b0 : (t507 == 0) = true := beq_iff_eq.mpr c3
    have c3b1 : (t507 != 0) = false := bne_eq_false_iff_eq.mpr c3
    clear c3
    obtain ⟨⟨t508, t509, t510, t511, t512, t513, t514⟩, A4, H⟩ := ob H
    obtain ⟨t517, A5, H⟩ := ob H
    have H' := Aside0.mk H
    clear H
    go_enter Try.func22, Try.ntmps22
    go_wp2_with (first | ((with_reducible refine gate_dst (N := 1) rfl ?_); refine bx 1 #[.int .i64 a0_0, .int .i64 a0_1, .int .i64 a0_2] 23 fun gb506 hg w6 BK506 hb => ?_; have GW506 := gw hg HB; have GE506 := gw hg HB; replace HB := bst HB hb; clear hb hg; have ⟨hcz7_0, hcz7_1, hcz7_2, hfz7_0, hfz7_1, hfz7_2⟩ := cf3 BK506) | ((with_reducible refine gate_callee (f := 14) rfl ?_); refine gl 10 Try.func14 (grids_Check.calls k a0_0 a0_1 a0_2 t507 _ A2.out) ?_; rintro e w8 ⟨rfl, hb⟩; refine ⟨_, rfl, ?_⟩; replace BK506 := bb BK506 hb; replace HB := bst HB hb; clear hb; have ⟨hcz9_0, hcz9_1, hcz9_2, hfz9_0, hfz9_1, hfz9_2⟩ := cf3 BK506) | ((with_reducible refine gate_callee (f := 38) rfl ?_); refine gl 16 Try.func38 (grids_reduce.calls k a0_0 a0_1 a0_2 t508 t509 t510 t511 t512 t513 t514 _ A4.out) ?_; rintro e w10 ⟨rfl, hb⟩; refine ⟨_, rfl, ?_⟩; replace BK506 := bb BK506 hb; replace HB := bst HB hb; clear hb) | ((with_reducible refine gate_dst (N := 5) rfl ?_); refine bx 5 #[.int .i64 0, .int .i64 0, .int .i64 0] 23 fun gb515 hg w11 BK515 hb => ?_; have GW515 := gw hg HB; have GE515 := gw hg HB; have NB506_515 := nlt hg BK506; have NB515_506 := ngt hg BK506; replace BK506 := bb BK506 hb; replace HB := bst HB hb; clear hb hg) | ((with_reducible refine gate_dst (N := 6) rfl ?_); refine bx 6 #[.int .i64 0, .int .i64 0, .int .i64 0, .int .i64 0] 25 fun gb516 hg w12 BK516 hb => ?_; have GW516 := gw hg HB; have GE516 := gw hg HB; have NB506_516 := nlt hg BK506; have NB516_506 := ngt hg BK506; have NB515_516 := nlt hg BK515; have NB516_515 := ngt hg BK515; replace BK506 := bb BK506 hb; replace BK515 := bb BK515 hb; replace HB := bst HB hb; clear hb hg; have hnb13 := NB515_506.out; have hnc13 := NB506_515.out; have hnb14 := NB515_516.out; have hnc14 := NB516_515.out; have ⟨hcz15_0, hcz15_1, hcz15_2, hfz15_0, hfz15_1, hfz15_2⟩ := cf3 BK515) | ((with_reducible refine gate_store (t := 23) (p := 5) rfl ?_); refine sx 23 5 ((((w12.setCell ⟨gb515, 0, none⟩ (.int .i64 t508)).setCell ⟨gb515, 1, none⟩ (.int .i64 t509)).setCell ⟨gb515, 2, none⟩ (.int .i64 t510))) fun w16 hw => ?_; replace BK506 := fw hw BK506; replace BK515 := pw3 hw BK515; replace BK516 := fw hw BK516; replace HB := bw hw HB; clear hw; have hnb17 := NB516_506.out; have hnc17 := NB506_516.out; have ⟨hcz18_0, hcz18_1, hcz18_2, hcz18_3, hfz18_0, hfz18_1, hfz18_2, hfz18_3⟩ := cf4 BK516) | ((with_reducible refine gate_store (t := 25) (p := 6) rfl ?_); refine sx 25 6 (((((w16.setCell ⟨gb516, 0, none⟩ (.int .i64 t511)).setCell ⟨gb516, 1, none⟩ (.int .i64 t512)).setCell ⟨gb516, 2, none⟩ (.int .i64 t513)).setCell ⟨gb516, 3, none⟩ (.int .i64 t514))) fun w19 hw => ?_; replace BK506 := fw hw BK506; replace BK515 := fw hw BK515; replace BK516 := pw4 hw BK516; replace HB := bw hw HB; clear hw; have ⟨hcz20_0, hcz20_1, hcz20_2, hfz20_0, hfz20_1, hfz20_2⟩ := cf3 BK515) | ((with_reducible refine gate_callee (f := 39) rfl ?_); refine goesL_ (some 20) rfl rfl Try.func39 (by kernel_rfl) rfl #[.agg #[.int .i64 t508, .int .i64 t509, .int .i64 t510]] rfl am ?_; (with_reducible refine (grids_group.calls k t508 t509 t510 t517 _ A5.out).mono ?_); rintro e w21 ⟨v518, rfl, ho0, hb⟩; refine ⟨_, rfl, ?_⟩; have HO519 := Aside0.mk (Kd.R_lower (Kd.R_newB ho0 (g := gb516) (o := .cells #[.int .i64 t511, .int .i64 t512, .int .i64 t513, .int .i64 t514] 25 (0, 0)) (pk BK516)) (below_size (bnow HB))); replace BK506 := bb BK506 hb; replace BK515 := bb BK515 hb; replace BK516 := bb BK516 hb; replace HB := bst HB hb; (try clear hb); (try clear hb2); (try clear hk); (try clear hi); (try clear ho0); obtain ⟨Ao22, co22, eo22⟩ := Kd.R_slice HO519.out; subst eo22))
    (try simp only [Act.put, List.setIfInBounds_toArray, List.set_cons_zero, List.set_cons_succ])
    go_loopg [23] k (fun kq v23 w' => ∃ (x7_1 : List (S25)) (x23_1 : Int) (x517000_1 : Int) (x517001_1 : Int) (x517002_1 : Int) (x517003_1 : Int), v23 = .int .i64 x23_1 ∧ Aside0 (grids_Group.l0 kq x7_1 (t517.length : Int) x23_1 x517000_1 x517001_1 x517002_1 x517003_1 = some (r1, r2)) ∧ Aside0 (kq ≤ k) ∧ Aside0 (Kd.R k25 25 w' w.heap.size (fun k_ => k_ ≠ gb516) (.slice Ao22 t517.length co22) x7_1) ∧ Aside0 (w'.heap[gb506]? = some (.cells #[.int .i64 a0_0, .int .i64 a0_1, .int .i64 a0_2] 23 (0, 0))) ∧ Aside0 (w'.heap[gb515]? = some (.cells #[.int .i64 t508, .int .i64 t509, .int .i64 t510] 23 (0, 0))) ∧ Aside0 (w'.heap[gb516]? = some (.cells #[.int .i64 x517000_1, .int .i64 x517001_1, .int .i64 x517002_1, .int .i64 x517003_1] 25 (0, 0))) ∧ Aside0 (Below w.heap.size w w'))
    case atStart => exact ⟨(t517), (0), (t511), (t512), (t513), (t514), (by first | rfl | (simp; done) | (simp [*]; done)), H', ⟨Nat.le_refl _⟩, ⟨by (with_reducible repeat (first | apply Kd.R_alloc | apply Kd.R_drewN | apply Kd.R_drew)); exact Kd.R_mono HO519.out (fun _ hk => hk.2)⟩, ⟨pk BK506⟩, ⟨pk BK515⟩, ⟨pk BK516⟩, ⟨bnow HB⟩⟩
    case round =>
      clear H'
      try clear c1; try clear c2; try clear p2; try clear c3; try clear c3b0; try clear c3b1; try clear c13; try clear c14; try clear c17; try clear c22; try clear hcz15_0; try clear hcz15_1; try clear hcz15_2; try clear hcz18_0; try clear hcz18_1; try clear hcz18_2; try clear hcz18_3; try clear hcz20_0; try clear hcz20_1; try clear hcz20_2; try clear hcz7_0; try clear hcz7_1; try clear hcz7_2; try clear hcz9_0; try clear hcz9_1; try clear hcz9_2; try clear hfz15_0; try clear hfz15_1; try clear hfz15_2; try clear hfz18_0; try clear hfz18_1; try clear hfz18_2; try clear hfz18_3; try clear hfz20_0; try clear hfz20_1; try clear hfz20_2; try clear hfz7_0; try clear hfz7_1; try clear hfz7_2; try clear hfz9_0; try clear hfz9_1; try clear hfz9_2
      obtain ⟨x7_1, x23_1, x517000_1, x517001_1, x517002_1, x517003_1, rfl, HA, HK1, HO_7, BK506, BK515, BK516, HB⟩ := hrel
      have hl7_1 := (Kd.R_reads' HO_7.out).1
      rw [hl7_1] at HO_7
      (try simp only [hl7_1])
      (try simp only [hl7_1] at BK506)
      (try simp only [hl7_1] at BK515)
      (try simp only [hl7_1] at BK516)
      cases gk with
      | zero => exact absurd HA.out (by simp [grids_Group.l0])
      | succ k1 =>
        have H := HA.out
        clear HA
        simp only [grids_Group.l0] at H
        by_cases c23 : x23_1 < (t517.length : Int)
        · rw [if_pos c23] at H
          have c23b0 : decide (x23_1 < (t517.length : Int)) = true := decide_eq_true c23
          (try (have c23h0 := c23b0; simp only [hl7_1] at c23h0))
          clear c23
          by_cases c24 : 0 ≤ x23_1
          · rw [if_pos c24] at H
            have c24b0 : decide (0 ≤ x23_1) = true := decide_eq_true c24
            clear c24
            by_cases c25 : x23_1 < (x7_1.length : Int)
            · rw [if_pos c25] at H
              have c25b0 : decide (x23_1 < (x7_1.length : Int)) = true := decide_eq_true c25
              (try (have c25h0 := c25b0; simp only [hl7_1] at c25h0))
              clear c25
              obtain ⟨⟨t521, t522, t523, t524⟩, A26, H⟩ := ob H
              obtain ⟨⟨t525, t526, t527, t528⟩, A27, H⟩ := ob H
              obtain ⟨⟨t529, t530, t531, t532⟩, A28, H⟩ := ob H
              obtain ⟨y533, hy533⟩ : ∃ y_ : List (S25), y_ = (x7_1.set (x23_1 : Int).toNat (⟨t529, t530, t531, t532⟩ : S25)) := ⟨_, rfl⟩
              replace H : ((some (wrap64 (x23_1 + 1))).bind fun z534 => (grids_Group.l0 k1 y533 (t517.length : Int) z534 x517000_1 x517001_1 x517002_1 x517003_1)) = some (r1, r2) := by first | (rw [hy533]; with_reducible exact H) | (have H2_ := (Option.bind_some _ _).symm.trans H; rw [hy533]; with_reducible exact H2_) | (have H2_ := (Option.bind_some _ _).symm.trans H; with_reducible exact H2_) | with_reducible exact H | (rw [hy533]; exact H) | exact H
              have Ny533 := Aside0.mk hy533
              clear hy533
              obtain ⟨z534, E300, H⟩ := oc H
              have E30w : (IntKind.i64.wrap (x23_1 + 1)) = z534 := (i64_w _).trans E300
              have H' := Aside0.mk H
              clear H
              try go_wp2
              replace HO_7 := Aside0.mk (Kd.R_drew HO_7.out)
              replace BK506 := bd BK506
              replace BK515 := bd BK515
              replace BK516 := bd BK516
              replace HB := bdn HB
              have p520 : 0 ≤ (x23_1 : Int) := of_decide_eq_true (by first | (with_reducible assumption) | assumption)
              have q520 : x23_1 < (x7_1.length : Int) := of_decide_eq_true (by first | (with_reducible assumption) | assumption)
              obtain ⟨ad520, e520, hx520_0, hx520_1, hx520_2, hx520_3⟩ := at_T25 (Kd.R_reads' HO_7.out).2.2 x23_1 p520 q520
              cases e520
              replace p520 := eq_true p520
              replace q520 := eq_true q520
              refine start_ (n := 13) (S := fun w' => w'.cell? ⟨gb516, 0, none⟩ = some (.int .i64 x517000_1) ∧ w'.cell? ⟨gb516, 1, none⟩ = some (.int .i64 x517001_1) ∧ w'.cell? ⟨gb516, 2, none⟩ = some (.int .i64 x517002_1) ∧ w'.cell? ⟨gb516, 3, none⟩ = some (.int .i64 x517003_1) ∧ w'.cell? (ad520.add ((x23_1).toNat * 4)) = some (.int .i64 ((rd_T25 x7_1 x23_1).f0)) ∧ w'.cell? ⟨(ad520.add ((x23_1).toNat * 4)).block, (ad520.add ((x23_1).toNat * 4)).off + 1, none⟩ = some (.int .i64 ((rd_T25 x7_1 x23_1).f1)) ∧ w'.cell? ⟨(ad520.add ((x23_1).toNat * 4)).block, (ad520.add ((x23_1).toNat * 4)).off + 2, none⟩ = some (.int .i64 ((rd_T25 x7_1 x23_1).f2)) ∧ w'.cell? ⟨(ad520.add ((x23_1).toNat * 4)).block, (ad520.add ((x23_1).toNat * 4)).off + 3, none⟩ = some (.int .i64 ((rd_T25 x7_1 x23_1).f3))) (ds := [12]) #[false, false, false, false, false, false, false, false, false, false, false, false, false] (by kernel_rfl) rfl rfl ⟨(blk_cell BK516.out 0).trans rfl, (blk_cell BK516.out 1).trans rfl, (blk_cell BK516.out 2).trans rfl, (blk_cell BK516.out 3).trans rfl, hx520_0, hx520_1, hx520_2, hx520_3⟩ (fun hHeld => ?_); refine with_tabW grids_Group.tab9 grids_Group.bits9 (fun HT_ HW_ => ?_)
              generalize wr.drew = w31 at HO_7 BK506 BK515 BK516 HB hx520_0 hx520_1 hx520_2 hx520_3 hHeld ⊢
              refine pz 0 26 HT_ ?_
              refine pz 1 27 HT_ ?_
              refine pz 3 29 HT_ ?_
              refine pz 4 30 HT_ ?_
              refine pz 5 31 HT_ ?_
              refine tz 2 28 HT_ HW_ hHeld ?_
              refine tz 6 32 HT_ HW_ hHeld ?_
              refine tz 8 34 HT_ HW_ hHeld ?_
              refine one_ (i := 7) (N := some 33) #[true, true, true, true, true, true, true, true, true, false, false, false, false] rfl rfl (one_of HT_.out (by kernel_rfl)) (by decide) (fun K hK => ?_)
              refine gs _ Try.func40 (grids_times.calls x517000_1 x517001_1 x517002_1 x517003_1 ((rd_T25 x7_1 x23_1).f0) ((rd_T25 x7_1 x23_1).f1) ((rd_T25 x7_1 x23_1).f2) ((rd_T25 x7_1 x23_1).f3) t521 t522 t523 t524 _ A26.out) ?_
              rintro e w32 ⟨rfl, hb⟩
              have HS4_ := (hb.cell (World.block_lt_of_cell? _ _ (hHeld.2.2.2.2.1))).trans (hHeld.2.2.2.2.1)
              have HS5_ := (hb.cell (World.block_lt_of_cell? _ _ (hHeld.2.2.2.2.2.1))).trans (hHeld.2.2.2.2.2.1)
              have HS6_ := (hb.cell (World.block_lt_of_cell? _ _ (hHeld.2.2.2.2.2.2.1))).trans (hHeld.2.2.2.2.2.2.1)
              have HS7_ := (hb.cell (World.block_lt_of_cell? _ _ (hHeld.2.2.2.2.2.2.2))).trans (hHeld.2.2.2.2.2.2.2)
              refine ⟨_, rfl, ?_⟩
              have n0_ := Aside0.mk (Kd.R_below (by (with_reducible repeat (first | apply Kd.R_alloc | apply Kd.R_drewN | apply Kd.R_drew)); exact HO_7.out) hb)
              have n1_ := bb BK506 hb
              have n2_ := bb BK515 hb
              have n3_ := bb BK516 hb
              have n4_ := bst HB hb
              clear HO_7
              clear BK506
              clear BK515
              clear BK516
              clear HB
              have HO_7 := n0_
              have BK506 := n1_
              have BK515 := n2_
              have BK516 := n3_
              have HB := n4_
              clear n0_ n1_ n2_ n3_ n4_
              (try clear hb)
              (try clear hb2)
              (try clear hk)
              (try clear hi)
              refine hK.out _ _ ⟨(blk_cell BK516.out 0).trans rfl, (blk_cell BK516.out 1).trans rfl, (blk_cell BK516.out 2).trans rfl, (blk_cell BK516.out 3).trans rfl, HS4_, HS5_, HS6_, HS7_⟩ (fun hHeld => ?_)
              clear hK K
              refine norm_ (a' := ?_) ?_ ?_
              rotate_left
              · show Act.put _ (some 33) _ = _
                simp only [Act.put, List.setIfInBounds_toArray, List.set_cons_zero, List.set_cons_succ, i64_w, i32_w]
                rfl
              refine one_ (i := 9) (N := some 35) #[true, true, true, true, true, true, true, true, true, true, false, false, false] rfl rfl (one_of HT_.out (by kernel_rfl)) (by decide) (fun K hK => ?_)
              refine gs _ Try.func57 (grids_inverse.calls x517000_1 x517001_1 x517002_1 x517003_1 t525 t526 t527 t528 _ A27.out) ?_
              rintro e w33 ⟨rfl, hb⟩
              have HS4_ := (hb.cell (World.block_lt_of_cell? _ _ (hHeld.2.2.2.2.1))).trans (hHeld.2.2.2.2.1)
              have HS5_ := (hb.cell (World.block_lt_of_cell? _ _ (hHeld.2.2.2.2.2.1))).trans (hHeld.2.2.2.2.2.1)
              have HS6_ := (hb.cell (World.block_lt_of_cell? _ _ (hHeld.2.2.2.2.2.2.1))).trans (hHeld.2.2.2.2.2.2.1)
              have HS7_ := (hb.cell (World.block_lt_of_cell? _ _ (hHeld.2.2.2.2.2.2.2))).trans (hHeld.2.2.2.2.2.2.2)
              refine ⟨_, rfl, ?_⟩
              have n0_ := Aside0.mk (Kd.R_below (by (with_reducible repeat (first | apply Kd.R_alloc | apply Kd.R_drewN | apply Kd.R_drew)); exact HO_7.out) hb)
              have n1_ := bb BK506 hb
              have n2_ := bb BK515 hb
              have n3_ := bb BK516 hb
              have n4_ := bst HB hb
              clear HO_7
              clear BK506
              clear BK515
              clear BK516
              clear HB
              have HO_7 := n0_
              have BK506 := n1_
              have BK515 := n2_
              have BK516 := n3_
              have HB := n4_
              clear n0_ n1_ n2_ n3_ n4_
              (try clear hb)
              (try clear hb2)
              (try clear hk)
              (try clear hi)
              refine hK.out _ _ ⟨(blk_cell BK516.out 0).trans rfl, (blk_cell BK516.out 1).trans rfl, (blk_cell BK516.out 2).trans rfl, (blk_cell BK516.out 3).trans rfl, HS4_, HS5_, HS6_, HS7_⟩ (fun hHeld => ?_)
              clear hK K
              refine norm_ (a' := ?_) ?_ ?_
              rotate_left
              · show Act.put _ (some 35) _ = _
                simp only [Act.put, List.setIfInBounds_toArray, List.set_cons_zero, List.set_cons_succ, i64_w, i32_w]
                rfl
              refine one_ (i := 10) (N := some 36) #[true, true, true, true, true, true, true, true, true, true, true, false, false] rfl rfl (one_of HT_.out (by kernel_rfl)) (by decide) (fun K hK => ?_)
              refine gs _ Try.func40 (grids_times.calls t521 t522 t523 t524 t525 t526 t527 t528 t529 t530 t531 t532 _ A28.out) ?_
              rintro e w34 ⟨rfl, hb⟩
              have HS4_ := (hb.cell (World.block_lt_of_cell? _ _ (hHeld.2.2.2.2.1))).trans (hHeld.2.2.2.2.1)
              have HS5_ := (hb.cell (World.block_lt_of_cell? _ _ (hHeld.2.2.2.2.2.1))).trans (hHeld.2.2.2.2.2.1)
              have HS6_ := (hb.cell (World.block_lt_of_cell? _ _ (hHeld.2.2.2.2.2.2.1))).trans (hHeld.2.2.2.2.2.2.1)
              have HS7_ := (hb.cell (World.block_lt_of_cell? _ _ (hHeld.2.2.2.2.2.2.2))).trans (hHeld.2.2.2.2.2.2.2)
              refine ⟨_, rfl, ?_⟩
              have n0_ := Aside0.mk (Kd.R_below (by (with_reducible repeat (first | apply Kd.R_alloc | apply Kd.R_drewN | apply Kd.R_drew)); exact HO_7.out) hb)
              have n1_ := bb BK506 hb
              have n2_ := bb BK515 hb
              have n3_ := bb BK516 hb
              have n4_ := bst HB hb
              clear HO_7
              clear BK506
              clear BK515
              clear BK516
              clear HB
              have HO_7 := n0_
              have BK506 := n1_
              have BK515 := n2_
              have BK516 := n3_
              have HB := n4_
              clear n0_ n1_ n2_ n3_ n4_
              (try clear hb)
              (try clear hb2)
              (try clear hk)
              (try clear hi)
              have p29 : 0 ≤ (x23_1 : Int) := of_decide_eq_true (by first | (with_reducible assumption) | assumption)
              have q29 : (x23_1 : Int) < ((x7_1.length : Int) : Int) := of_decide_eq_true (by first | (with_reducible assumption) | assumption)
              obtain ⟨go29, co29, eo29, gb29, gl29, cl29, HG29⟩ := Kd.R_form HO_7.out (by omega)
              (first | cases eo29 | (injection eo29 with ea_ en_ ec_; (first | subst ea_ | (injection ea_ with ea_; subst ea_)); subst ec_; clear en_))
              have GB29 := Aside0.mk gb29
              have GG29 := Aside0.mk HG29
              clear gb29 gl29 HG29
              (first | simp only [add_plain] at hx520_0 | skip)
              (first | simp only [add_plain] at hx520_1 | skip)
              (first | simp only [add_plain] at hx520_2 | skip)
              (first | simp only [add_plain] at hx520_3 | skip)
              obtain ⟨ce29, hcl29, hM29, hcc29, hfr29⟩ := Kd.R_elem HO_7.out z25 (x23_1 : Int) p29 q29
              obtain rfl := k25_openM hM29
              have hx29_0 : World.cell? _ ⟨go29, (x23_1 : Int).toNat * 4, none⟩ = some (.int .i64 ((rd_T25 x7_1 x23_1).f0)) := hcc29 0 _ rfl
              have hx29_1 : World.cell? _ ⟨go29, (x23_1 : Int).toNat * 4 + 1, none⟩ = some (.int .i64 ((rd_T25 x7_1 x23_1).f1)) := hcc29 1 _ rfl
              have hx29_2 : World.cell? _ ⟨go29, (x23_1 : Int).toNat * 4 + 2, none⟩ = some (.int .i64 ((rd_T25 x7_1 x23_1).f2)) := hcc29 2 _ rfl
              have hx29_3 : World.cell? _ ⟨go29, (x23_1 : Int).toNat * 4 + 3, none⟩ = some (.int .i64 ((rd_T25 x7_1 x23_1).f3)) := hcc29 3 _ rfl
              have hf29_0 : World.frozen? _ ⟨go29, (x23_1 : Int).toNat * 4, none⟩ = false := hfr29 0
              have hf29_1 : World.frozen? _ ⟨go29, (x23_1 : Int).toNat * 4 + 1, none⟩ = false := hfr29 1
              have hf29_2 : World.frozen? _ ⟨go29, (x23_1 : Int).toNat * 4 + 2, none⟩ = false := hfr29 2
              have hf29_3 : World.frozen? _ ⟨go29, (x23_1 : Int).toNat * 4 + 3, none⟩ = false := hfr29 3
              (try rw [World.frozen?_setCells] at hf29_0)
              (try rw [World.frozen?_setCells] at hf29_1)
              (try rw [World.frozen?_setCells] at hf29_2)
              (try rw [World.frozen?_setCells] at hf29_3)
              clear hcl29 hcc29 hfr29 hM29
              replace p29 := eq_true p29
              replace q29 := eq_true q29
              obtain ⟨ce35, hcl35, hM35, hcc35, hfr35⟩ := Kd.R_elem HO_7.out z25 (x23_1 : Int) (of_decide_eq_true (by first | (with_reducible assumption) | assumption)) (by have h_ : (x23_1 : Int) < ((x7_1.length : Int) : Int) := of_decide_eq_true (by first | (with_reducible assumption) | assumption); first | exact h_ | (have e_ := (Kd.R_reads' HO_7.out).1; omega) | simpa using h_)
              obtain rfl := k25_openM hM35
              have HP35 := (Kd.R_seg HO_7.out (x23_1 : Int) (of_decide_eq_true (by first | (with_reducible assumption) | assumption)) (by have h_ : (x23_1 : Int) < ((x7_1.length : Int) : Int) := of_decide_eq_true (by first | (with_reducible assumption) | assumption); first | exact h_ | (have e_ := (Kd.R_reads' HO_7.out).1; omega) | simpa using h_) (seg := [.int .i64 t529, .int .i64 t530, .int .i64 t531, .int .i64 t532]) (j := 0) hcl35 hcc35 (show 4 ≤ 4 from by decide) (x' := (⟨t529, t530, t531, t532⟩ : S25)) (k25_mkM _ _ _ (⟨t529, t530, t531, t532⟩ : S25) ) (fun _ hk => hk)).1
              rw [← Ny533.out] at HP35
              have HQ35 := Aside0.mk HP35
              clear hcl35 hcc35 hfr35 hM35 HP35
              refine hK.out _ _ ⟨(blk_cell BK516.out 0).trans rfl, (blk_cell BK516.out 1).trans rfl, (blk_cell BK516.out 2).trans rfl, (blk_cell BK516.out 3).trans rfl, HS4_, HS5_, HS6_, HS7_⟩ (fun hHeld => ?_)
              clear hK K
              refine norm_ (a' := ?_) ?_ ?_
              rotate_left
              · show Act.put _ (some 36) _ = _
                simp only [Act.put, List.setIfInBounds_toArray, List.set_cons_zero, List.set_cons_succ, i64_w, i32_w]
                rfl
              refine pz 11 37 HT_ ?_
              refine last_ (i := 12) (N := none) #[true, true, true, true, true, true, true, true, true, true, true, true, true] rfl rfl (one_of HT_.out (by kernel_rfl)) (by decide) (fun K hK => ?_)
              refine skip_ (w1 := ?_) (by rfl) rfl ?_ ?_
              rotate_left
              · go_simp
                rfl
              refine hK.out _ _ ?_
              clear hK K
              refine done_ (done_of HT_.out (by kernel_rfl)) ?_
              try go_wp2
              (try simp only [← hl7_1])
              go_roundg k1
              case measure => have := HK1.out; omega
              case rel => exact ⟨(y533), (z534), (x517000_1), (x517001_1), (x517002_1), (x517003_1), (by first | rfl | (simp; done) | (simp [*]; done)), H', ⟨by have := HK1.out; omega⟩, ⟨by (try simp only [hl7_1]); (with_reducible repeat (first | apply Kd.R_alloc | apply Kd.R_drewN | apply Kd.R_drew)); exact HQ35.out⟩, ⟨by (try simp only [hl7_1]); (with_reducible repeat (first | refine blk_drewN ?_ _ | refine blk_drew ?_ | refine blk_alloc ?_ _)); refine blk_far ?_ (by have h_ := Kd.R_ne HO_7.out BK506.out (by decide); intro e_; exact h_ (by rw [e_]; rfl)) _; (with_reducible repeat (first | refine blk_drewN ?_ _ | refine blk_drew ?_ | refine blk_alloc ?_ _)); refine blk_far ?_ (by have h_ := Kd.R_ne HO_7.out BK506.out (by decide); intro e_; exact h_ (by rw [e_]; rfl)) _; (with_reducible repeat (first | refine blk_drewN ?_ _ | refine blk_drew ?_ | refine blk_alloc ?_ _)); refine blk_far ?_ (by have h_ := Kd.R_ne HO_7.out BK506.out (by decide); intro e_; exact h_ (by rw [e_]; rfl)) _; (with_reducible repeat (first | refine blk_drewN ?_ _ | refine blk_drew ?_ | refine blk_alloc ?_ _)); refine blk_far ?_ (by have h_ := Kd.R_ne HO_7.out BK506.out (by decide); intro e_; exact h_ (by rw [e_]; rfl)) _; (with_reducible repeat (first | refine blk_drewN ?_ _ | refine blk_drew ?_ | refine blk_alloc ?_ _)); exact BK506.out⟩, ⟨by (try simp only [hl7_1]); (with_reducible repeat (first | refine blk_drewN ?_ _ | refine blk_drew ?_ | refine blk_alloc ?_ _)); refine blk_far ?_ (by have h_ := Kd.R_ne HO_7.out BK515.out (by decide); intro e_; exact h_ (by rw [e_]; rfl)) _; (with_reducible repeat (first | refine blk_drewN ?_ _ | refine blk_drew ?_ | refine blk_alloc ?_ _)); refine blk_far ?_ (by have h_ := Kd.R_ne HO_7.out BK515.out (by decide); intro e_; exact h_ (by rw [e_]; rfl)) _; (with_reducible repeat (first | refine blk_drewN ?_ _ | refine blk_drew ?_ | refine blk_alloc ?_ _)); refine blk_far ?_ (by have h_ := Kd.R_ne HO_7.out BK515.out (by decide); intro e_; exact h_ (by rw [e_]; rfl)) _; (with_reducible repeat (first | refine blk_drewN ?_ _ | refine blk_drew ?_ | refine blk_alloc ?_ _)); refine blk_far ?_ (by have h_ := Kd.R_ne HO_7.out BK515.out (by decide); intro e_; exact h_ (by rw [e_]; rfl)) _; (with_reducible repeat (first | refine blk_drewN ?_ _ | refine blk_drew ?_ | refine blk_alloc ?_ _)); exact BK515.out⟩, ⟨by (try simp only [hl7_1]); (with_reducible repeat (first | refine blk_drewN ?_ _ | refine blk_drew ?_ | refine blk_alloc ?_ _)); refine blk_far ?_ (by have h_ := Kd.R_away HO_7.out (fun _ hk => hk); intro e_; exact h_ (by rw [e_]; rfl)) _; (with_reducible repeat (first | refine blk_drewN ?_ _ | refine blk_drew ?_ | refine blk_alloc ?_ _)); refine blk_far ?_ (by have h_ := Kd.R_away HO_7.out (fun _ hk => hk); intro e_; exact h_ (by rw [e_]; rfl)) _; (with_reducible repeat (first | refine blk_drewN ?_ _ | refine blk_drew ?_ | refine blk_alloc ?_ _)); refine blk_far ?_ (by have h_ := Kd.R_away HO_7.out (fun _ hk => hk); intro e_; exact h_ (by rw [e_]; rfl)) _; (with_reducible repeat (first | refine blk_drewN ?_ _ | refine blk_drew ?_ | refine blk_alloc ?_ _)); refine blk_far ?_ (by have h_ := Kd.R_away HO_7.out (fun _ hk => hk); intro e_; exact h_ (by rw [e_]; rfl)) _; (with_reducible repeat (first | refine blk_drewN ?_ _ | refine blk_drew ?_ | refine blk_alloc ?_ _)); exact BK516.out⟩, ⟨by repeat (first | (with_reducible first | exact HB.out | apply below_alloc | apply pw_below_drewN | apply below_drew1 | refine below_set ?_ GB29.out | refine below_set ?_ GB29.out | refine below_set ?_ GB29.out | refine below_set ?_ GB29.out | refine below_set ?_ GE506.out | refine below_set ?_ GE515.out | refine below_set ?_ GE516.out) | exact HB.out)⟩⟩
            · rw [if_neg c25] at H
              exact absurd H (by simp)
          · rw [if_neg c24] at H
            exact absurd H (by simp)
        · rw [if_neg c23] at H
          have c23b0 : decide (x23_1 < (t517.length : Int)) = false := decide_eq_false c23
          (try (have c23h0 := c23b0; simp only [hl7_1] at c23h0))
          clear c23
          obtain ⟨t535, A36, H⟩ := ob H
          simp only [Option.some.injEq, Prod.mk.injEq] at H
          obtain ⟨rfl, rfl⟩ := H
          go_wp2_with (first | ((with_reducible refine gate_callee (f := 58) rfl ?_); refine goesL_ (some 40) rfl rfl Try.func58 (by kernel_rfl) rfl #[.slice Ao22 x7_1.length co22, .func (.func 42) #[] #[]] rfl am ?_; (with_reducible refine (api_GrMatrix_58.calls k1 (fun k_ => some k_ = (.slice Ao22 x7_1.length co22 : Value).ownBlock) (.slice Ao22 x7_1.length co22) x7_1  t535 w _ ?side1 ?side2 A36.out).mono ?_); (case side1 => repeat (first | (with_reducible first | exact HB.out | apply below_alloc | apply pw_below_drewN | apply below_drew1 | refine below_set ?_ GE506.out | refine below_set ?_ GE515.out | refine below_set ?_ GE516.out) | exact HB.out)); (case side2 => exact Kd.R_tight rfl HO_7.out); rintro e w37 ⟨rfl, hy0, hb, hkp⟩; refine ⟨_, rfl, ?_⟩; have n0_ := Aside0.mk (Kd.R_reok rfl hy0 (fun k_ e_ => HO_7.out.1 k_ e_)); have n1_ := Aside0.mk (blk_kept (pk BK506) hkp (fun hs_ => (fun e_ => (Kd.R_ne HO_7.out BK506.out (by decide)) e_) hs_)); have n2_ := Aside0.mk (blk_kept (pk BK515) hkp (fun hs_ => (fun e_ => (Kd.R_ne HO_7.out BK515.out (by decide)) e_) hs_)); have n3_ := Aside0.mk (blk_kept (pk BK516) hkp (fun hs_ => (fun e_ => (Kd.R_away HO_7.out (fun _ hk => hk)) e_) hs_)); have n4_ := Aside0.mk (hb); clear HO_7; clear BK506; clear BK515; clear BK516; clear HB; have HO_7 := n0_; have BK506 := n1_; have BK515 := n2_; have BK516 := n3_; have HB := n4_; clear n0_ n1_ n2_ n3_ n4_; (try clear hb); (try clear hkp); (try clear hy0)))
          go_ret2
          exact ⟨_, by first | rfl | (simp [errW_none, errW_some] <;> rfl) | (simp [*, errW_none, errW_some] <;> rfl), by (with_reducible repeat (first | apply Kd.R_alloc | apply Kd.R_drewN | apply Kd.R_drew)); exact Kd.R_mono HO_7.out (fun _ hk => trivial), by repeat (first | (with_reducible first | exact HB.out | apply below_alloc | apply pw_below_drewN | apply below_drew1 | refine below_set ?_ GE506.out | refine below_set ?_ GE515.out | refine below_set ?_ GE516.out) | exact HB.out)⟩
  · rw [if_neg c3] at H
    have c3b0 : (t507 == 0) = false := beq_eq_false_iff_ne.mpr c3
    have c3b1 : (t507 != 0) = true := bne_iff_ne.mpr c3
    simp only [Option.some.injEq, Prod.mk.injEq] at H
    obtain ⟨rfl, rfl⟩ := H
    go_enter Try.func22, Try.ntmps22
    go_wp2_with (first | ((with_reducible refine gate_dst (N := 1) rfl ?_); refine bx 1 #[.int .i64 a0_0, .int .i64 a0_1, .int .i64 a0_2] 23 fun gb506 hg w38 BK506 hb => ?_; have GW506 := gw hg HB; have GE506 := gw hg HB; replace HB := bst HB hb; clear hb hg; have ⟨hcz39_0, hcz39_1, hcz39_2, hfz39_0, hfz39_1, hfz39_2⟩ := cf3 BK506) | ((with_reducible refine gate_callee (f := 14) rfl ?_); refine gl 10 Try.func14 (grids_Check.calls k a0_0 a0_1 a0_2 t507 _ A2.out) ?_; rintro e w40 ⟨rfl, hb⟩; refine ⟨_, rfl, ?_⟩; replace BK506 := bb BK506 hb; replace HB := bst HB hb; clear hb))
    go_ret2
    exact ⟨_, by first | rfl | (simp [errW_none, errW_some] <;> rfl) | (simp [*, errW_none, errW_some] <;> rfl), by first | exact Kd.R_nil _ _ _ _ _ | exact Kd.N_nil _ _ _ _ _ | exact Kd.V_nil _ _ _ _ _ | exact Kd.Q_nil _ _ _ _ _ | exact Kd.S_nil _ _ _ _ _, by repeat (first | (with_reducible first | exact HB.out | apply below_alloc | apply pw_below_drewN | apply below_drew1 | refine below_set ?_ GE506.out) | exact HB.out)⟩
end
section
attribute [local go_sem high] eqA23 eqA25 eqA37
/-! ### torchonlaw06_awake: function 13 -/
def torchonlaw06_awake.j0 : Nat → Int → Int → Int → List (S25) → Int → Bool → Int → Int → Int → Int → Int → Int → Int → Int → Int → Option (Bool)
  | 0, _, _, _, _, _, _, _, _, _, _, _, _, _, _, _ => none
  | k + 1, x2, x4, x6, x8, x12, x89, x623000, x623001, x638000, x638001, x638002, x639000, x639001, x639002, x639003 => if x89 = true then (none) else (if x2 = 6 then (if x4 = 1 then (if x6 = 1 then (if (x8.length : Int) = 12 then ((torchonlaw06_pt.f 1 5).bind fun bt639 => (if (x623000 == bt639.1 && (x623001 == bt639.2)) = true then (if x12 = 6 then (if (x638000 == 1 && (x638001 == 0 && (x638002 == 1))) = true then ((torchonlaw06_mat.f (-3) (-1) 2 1).bind fun bt641 => (some (x639000 == bt641.1 && (x639001 == bt641.2.1 && (x639002 == bt641.2.2.1 && (x639003 == bt641.2.2.2)))))) else (none)) else (none)) else (none))) else (none)) else (none)) else (none)) else (none))
def torchonlaw06_awake.f (k : Nat)  : Option (Bool) := (torchonlaw06_pt.f 0 0).bind fun bt583 => ((torchonlaw06_pt.f 1 1).bind fun bt585 => ((grids_Square.f k 2 1 2 bt583.1 bt583.2 bt585.1 bt585.2).bind fun bt587 => ((torchonlaw06_pt.f 0 0).bind fun bt589 => ((torchonlaw06_pt.f 1 0).bind fun bt591 => ((torchonlaw06_pt.f 0 1).bind fun bt593 => ((grids_Side.f k bt589.1 bt589.2 bt591.1 bt591.2 bt593.1 bt593.2).bind fun bt595 => ((torchonlaw06_pt.f 0 0).bind fun bt597 => ((torchonlaw06_pt.f 1 0).bind fun bt599 => ((torchonlaw06_pt.f 1 (-1)).bind fun bt601 => ((torchonlaw06_pt.f 0 1).bind fun bt603 => ((grids_Turn.f k bt597.1 bt597.2 bt599.1 bt599.2 bt601.1 bt601.2 bt603.1 bt603.2).bind fun bt605 => ((grids_Group.f k 2 1 2).bind fun bt607 => ((torchonlaw06_mat.f 0 (-1) 1 0).bind fun bt611 => ((torchonlaw06_pt.f 3 4).bind fun bt615 => ((torchonlaw06_pt.f 1 2).bind fun bt617 => ((grids_Apply.f k bt611.1 bt611.2.1 bt611.2.2.1 bt611.2.2.2 bt615.1 bt615.2 bt617.1 bt617.2).bind fun bt619 => ((torchonlaw06_mat.f 1 (-1) 1 0).bind fun bt623 => ((grids_Order.f k bt623.1 bt623.2.1 bt623.2.2.1 bt623.2.2.2).bind fun bt627 => ((grids_Reduce.f k 5 7 10).bind fun bt629 => (if bt587.2 = 0 then (if bt595.2 = 0 then (if bt605.2 = 0 then (if bt607.2 = 0 then (if bt619.2.2 = 0 then (if bt627.2 = 0 then (torchonlaw06_awake.j0 k bt587.1 bt595.1 bt605.1 bt607.1 bt627.1 (bt629.2.2.2.2.2.2.2 != 0) bt619.1 bt619.2.1 bt629.1 bt629.2.1 bt629.2.2.1 bt629.2.2.2.1 bt629.2.2.2.2.1 bt629.2.2.2.2.2.1 bt629.2.2.2.2.2.2.1) else (torchonlaw06_awake.j0 k bt587.1 bt595.1 bt605.1 bt607.1 bt627.1 true bt619.1 bt619.2.1 bt629.1 bt629.2.1 bt629.2.2.1 bt629.2.2.2.1 bt629.2.2.2.2.1 bt629.2.2.2.2.2.1 bt629.2.2.2.2.2.2.1)) else (torchonlaw06_awake.j0 k bt587.1 bt595.1 bt605.1 bt607.1 bt627.1 true bt619.1 bt619.2.1 bt629.1 bt629.2.1 bt629.2.2.1 bt629.2.2.2.1 bt629.2.2.2.2.1 bt629.2.2.2.2.2.1 bt629.2.2.2.2.2.2.1)) else (torchonlaw06_awake.j0 k bt587.1 bt595.1 bt605.1 bt607.1 bt627.1 true bt619.1 bt619.2.1 bt629.1 bt629.2.1 bt629.2.2.1 bt629.2.2.2.1 bt629.2.2.2.2.1 bt629.2.2.2.2.2.1 bt629.2.2.2.2.2.2.1)) else (torchonlaw06_awake.j0 k bt587.1 bt595.1 bt605.1 bt607.1 bt627.1 true bt619.1 bt619.2.1 bt629.1 bt629.2.1 bt629.2.2.1 bt629.2.2.2.1 bt629.2.2.2.2.1 bt629.2.2.2.2.2.1 bt629.2.2.2.2.2.2.1)) else (torchonlaw06_awake.j0 k bt587.1 bt595.1 bt605.1 bt607.1 bt627.1 true bt619.1 bt619.2.1 bt629.1 bt629.2.1 bt629.2.2.1 bt629.2.2.2.1 bt629.2.2.2.2.1 bt629.2.2.2.2.2.1 bt629.2.2.2.2.2.2.1)) else (torchonlaw06_awake.j0 k bt587.1 bt595.1 bt605.1 bt607.1 bt627.1 true bt619.1 bt619.2.1 bt629.1 bt629.2.1 bt629.2.2.1 bt629.2.2.2.1 bt629.2.2.2.2.1 bt629.2.2.2.2.2.1 bt629.2.2.2.2.2.2.1)))))))))))))))))))))
theorem torchonlaw06_awake.mono_l : ∀ k, (∀ y0 y1 y2 y3 y4 y5 y6 y7 y8 y9 y10 y11 y12 y13 y14, LeO (torchonlaw06_awake.j0 k y0 y1 y2 y3 y4 y5 y6 y7 y8 y9 y10 y11 y12 y13 y14) (torchonlaw06_awake.j0 (k + 1) y0 y1 y2 y3 y4 y5 y6 y7 y8 y9 y10 y11 y12 y13 y14))
  | 0 => fun _ _ _ _ _ _ _ _ _ _ _ _ _ _ _ r h => by simp [torchonlaw06_awake.j0] at h
  | k + 1 => by
    have ih0 := torchonlaw06_awake.mono_l k
    · intro y0 y1 y2 y3 y4 y5 y6 y7 y8 y9 y10 y11 y12 y13 y14
      unfold torchonlaw06_awake.j0
      repeat' first
      | (with_reducible exact ih0 _ _ _ _ _ _ _ _ _ _ _ _ _ _ _)
      | (with_reducible exact grids_Apply.mono _ _ _ _ _ _ _ _ _)
      | (with_reducible exact grids_Group.mono _ _ _ _)
      | (with_reducible exact grids_Order.mono _ _ _ _ _)
      | (with_reducible exact grids_Reduce.mono _ _ _ _)
      | (with_reducible exact grids_Side.mono _ _ _ _ _ _ _)
      | (with_reducible exact grids_Square.mono _ _ _ _ _ _ _ _)
      | (with_reducible exact grids_Turn.mono _ _ _ _ _ _ _ _ _)
      | (with_reducible exact LeO.refl _)
      | (with_reducible exact LeO.none _)
      | (with_reducible refine LeO.ite ?_ ?_)
      | (with_reducible refine LeO.bind ?_ (fun _ => ?_))
      | exact ih0 _ _ _ _ _ _ _ _ _ _ _ _ _ _ _
      | exact grids_Apply.mono _ _ _ _ _ _ _ _ _
      | exact grids_Group.mono _ _ _ _
      | exact grids_Order.mono _ _ _ _ _
      | exact grids_Reduce.mono _ _ _ _
      | exact grids_Side.mono _ _ _ _ _ _ _
      | exact grids_Square.mono _ _ _ _ _ _ _ _
      | exact grids_Turn.mono _ _ _ _ _ _ _ _ _
      | exact LeO.none _
      | refine LeO.ite ?_ ?_
      | refine LeO.bind ?_ (fun _ => ?_)
theorem torchonlaw06_awake.mono : ∀ k, LeO (torchonlaw06_awake.f k ) (torchonlaw06_awake.f (k + 1) ) := by
  intro  k
  have ih0 := torchonlaw06_awake.mono_l k
  unfold torchonlaw06_awake.f
  repeat' first
      | (with_reducible exact ih0 _ _ _ _ _ _ _ _ _ _ _ _ _ _ _)
      | (with_reducible exact grids_Apply.mono _ _ _ _ _ _ _ _ _)
      | (with_reducible exact grids_Group.mono _ _ _ _)
      | (with_reducible exact grids_Order.mono _ _ _ _ _)
      | (with_reducible exact grids_Reduce.mono _ _ _ _)
      | (with_reducible exact grids_Side.mono _ _ _ _ _ _ _)
      | (with_reducible exact grids_Square.mono _ _ _ _ _ _ _ _)
      | (with_reducible exact grids_Turn.mono _ _ _ _ _ _ _ _ _)
      | (with_reducible exact LeO.refl _)
      | (with_reducible exact LeO.none _)
      | (with_reducible refine LeO.ite ?_ ?_)
      | (with_reducible refine LeO.bind ?_ (fun _ => ?_))
      | exact ih0 _ _ _ _ _ _ _ _ _ _ _ _ _ _ _
      | exact grids_Apply.mono _ _ _ _ _ _ _ _ _
      | exact grids_Group.mono _ _ _ _
      | exact grids_Order.mono _ _ _ _ _
      | exact grids_Reduce.mono _ _ _ _
      | exact grids_Side.mono _ _ _ _ _ _ _
      | exact grids_Square.mono _ _ _ _ _ _ _ _
      | exact grids_Turn.mono _ _ _ _ _ _ _ _ _
      | exact LeO.none _
      | refine LeO.ite ?_ ?_
      | refine LeO.bind ?_ (fun _ => ?_)
def torchonlaw06_awake.T2 : Bool × List (List Nat × List Nat) := (true, [([], []), ([], []), ([1], []), ([0, 1, 2, 2], [0, 1, 2]), ([3], [3]), ([4], [4]), ([4], [4]), ([5, 3, 0, 1, 2, 3, 4, 5], [5]), ([6, 7, 0, 1, 2, 3, 4, 5, 6, 7], [6])])
def torchonlaw06_awake.B2 : List Nat := [0, 0, 2, 7, 15, 31, 31, 63, 255]
theorem torchonlaw06_awake.tab2 : rtab .any (opsOf Try.f13 2) = torchonlaw06_awake.T2 := by kernel_rfl
theorem torchonlaw06_awake.bits2 : waitsOk torchonlaw06_awake.T2.2 torchonlaw06_awake.B2 = true := by kernel_rfl
def torchonlaw06_awake.T11 : Bool × List (List Nat × List Nat) := (true, [([], []), ([0], [0]), ([1], [1]), ([2], [2]), ([3, 2], [2, 3]), ([2, 4], [2, 4]), ([5, 2], [5]), ([6], [6]), ([7, 6], [6, 7]), ([6, 8], [6, 8]), ([9, 6], [9]), ([10], [10]), ([11, 10], [10, 11]), ([12, 10], [10, 12]), ([10, 13], [10, 13]), ([14, 10], [14]), ([15], [15]), ([15, 15], [15]), ([16, 17, 15], [15, 16, 17]), ([15, 18], [15, 18]), ([19, 17], [19]), ([20], [20]), ([21, 20], [20, 21]), ([20, 22], [20, 22]), ([23, 20], [23]), ([24], [24]), ([24], [24]), ([25, 26, 24], [24, 25, 26]), ([24, 27], [24, 27]), ([28, 24], [28]), ([29], [29]), ([29, 29], [29]), ([30, 31, 29], [29, 30, 31]), ([29, 32], [29, 32]), ([33, 31, 0, 1, 2, 3, 4, 5, 6, 7, 8, 9, 10, 11, 12, 13, 14, 15, 16, 17, 18, 19, 20, 21, 22, 23, 24, 25, 26, 27, 28, 29, 30, 31, 32, 33], [33])])
def torchonlaw06_awake.B11 : List Nat := [0, 1, 3, 7, 15, 31, 63, 127, 255, 511, 1023, 2047, 4095, 8191, 16383, 32767, 65535, 65535, 262143, 524287, 1048575, 2097151, 4194303, 8388607, 16777215, 33554431, 33554431, 134217727, 268435455, 536870911, 1073741823, 1073741823, 4294967295, 8589934591, 17179869183]
theorem torchonlaw06_awake.tab11 : rtab .any (opsOf Try.f13 11) = torchonlaw06_awake.T11 := by kernel_rfl
theorem torchonlaw06_awake.bits11 : waitsOk torchonlaw06_awake.T11.2 torchonlaw06_awake.B11 = true := by kernel_rfl
set_option maxHeartbeats 8000000 in
set_option maxRecDepth 100000 in
theorem torchonlaw06_awake.calls (k : Nat)  (r : Bool) (w : World) (h : torchonlaw06_awake.f k  = some r) :
    Calls Try.prog 13 #[] w fun e w' => e = .returned (.bool r) ∧ Below w.heap.size w w' := by
  have hu23 := Try.underlying23
  have hu55 := Try.underlying55
  have hu37 := Try.underlying37
  have hu25 := Try.underlying25
  have HB := Aside0.mk (Below.refl w.heap.size w)
  have H : ((torchonlaw06_pt.f 0 0).bind fun bt583 => ((torchonlaw06_pt.f 1 1).bind fun bt585 => ((grids_Square.f k 2 1 2 bt583.1 bt583.2 bt585.1 bt585.2).bind fun bt587 => ((torchonlaw06_pt.f 0 0).bind fun bt589 => ((torchonlaw06_pt.f 1 0).bind fun bt591 => ((torchonlaw06_pt.f 0 1).bind fun bt593 => ((grids_Side.f k bt589.1 bt589.2 bt591.1 bt591.2 bt593.1 bt593.2).bind fun bt595 => ((torchonlaw06_pt.f 0 0).bind fun bt597 => ((torchonlaw06_pt.f 1 0).bind fun bt599 => ((torchonlaw06_pt.f 1 (-1)).bind fun bt601 => ((torchonlaw06_pt.f 0 1).bind fun bt603 => ((grids_Turn.f k bt597.1 bt597.2 bt599.1 bt599.2 bt601.1 bt601.2 bt603.1 bt603.2).bind fun bt605 => ((grids_Group.f k 2 1 2).bind fun bt607 => ((torchonlaw06_mat.f 0 (-1) 1 0).bind fun bt611 => ((torchonlaw06_pt.f 3 4).bind fun bt615 => ((torchonlaw06_pt.f 1 2).bind fun bt617 => ((grids_Apply.f k bt611.1 bt611.2.1 bt611.2.2.1 bt611.2.2.2 bt615.1 bt615.2 bt617.1 bt617.2).bind fun bt619 => ((torchonlaw06_mat.f 1 (-1) 1 0).bind fun bt623 => ((grids_Order.f k bt623.1 bt623.2.1 bt623.2.2.1 bt623.2.2.2).bind fun bt627 => ((grids_Reduce.f k 5 7 10).bind fun bt629 => (if bt587.2 = 0 then (if bt595.2 = 0 then (if bt605.2 = 0 then (if bt607.2 = 0 then (if bt619.2.2 = 0 then (if bt627.2 = 0 then (torchonlaw06_awake.j0 k bt587.1 bt595.1 bt605.1 bt607.1 bt627.1 (bt629.2.2.2.2.2.2.2 != 0) bt619.1 bt619.2.1 bt629.1 bt629.2.1 bt629.2.2.1 bt629.2.2.2.1 bt629.2.2.2.2.1 bt629.2.2.2.2.2.1 bt629.2.2.2.2.2.2.1) else (torchonlaw06_awake.j0 k bt587.1 bt595.1 bt605.1 bt607.1 bt627.1 true bt619.1 bt619.2.1 bt629.1 bt629.2.1 bt629.2.2.1 bt629.2.2.2.1 bt629.2.2.2.2.1 bt629.2.2.2.2.2.1 bt629.2.2.2.2.2.2.1)) else (torchonlaw06_awake.j0 k bt587.1 bt595.1 bt605.1 bt607.1 bt627.1 true bt619.1 bt619.2.1 bt629.1 bt629.2.1 bt629.2.2.1 bt629.2.2.2.1 bt629.2.2.2.2.1 bt629.2.2.2.2.2.1 bt629.2.2.2.2.2.2.1)) else (torchonlaw06_awake.j0 k bt587.1 bt595.1 bt605.1 bt607.1 bt627.1 true bt619.1 bt619.2.1 bt629.1 bt629.2.1 bt629.2.2.1 bt629.2.2.2.1 bt629.2.2.2.2.1 bt629.2.2.2.2.2.1 bt629.2.2.2.2.2.2.1)) else (torchonlaw06_awake.j0 k bt587.1 bt595.1 bt605.1 bt607.1 bt627.1 true bt619.1 bt619.2.1 bt629.1 bt629.2.1 bt629.2.2.1 bt629.2.2.2.1 bt629.2.2.2.2.1 bt629.2.2.2.2.2.1 bt629.2.2.2.2.2.2.1)) else (torchonlaw06_awake.j0 k bt587.1 bt595.1 bt605.1 bt607.1 bt627.1 true bt619.1 bt619.2.1 bt629.1 bt629.2.1 bt629.2.2.1 bt629.2.2.2.1 bt629.2.2.2.2.1 bt629.2.2.2.2.2.1 bt629.2.2.2.2.2.2.1)) else (torchonlaw06_awake.j0 k bt587.1 bt595.1 bt605.1 bt607.1 bt627.1 true bt619.1 bt619.2.1 bt629.1 bt629.2.1 bt629.2.2.1 bt629.2.2.2.1 bt629.2.2.2.2.1 bt629.2.2.2.2.2.1 bt629.2.2.2.2.2.2.1)))))))))))))))))))))) = some r := h
  clear h
  obtain ⟨⟨t583, t584⟩, A1, H⟩ := ob H
  obtain ⟨⟨t585, t586⟩, A2, H⟩ := ob H
  obtain ⟨⟨t587, t588⟩, A3, H⟩ := ob H
  obtain ⟨⟨t589, t590⟩, A4, H⟩ := ob H
  obtain ⟨⟨t591, t592⟩, A5, H⟩ := ob H
  obtain ⟨⟨t593, t594⟩, A6, H⟩ := ob H
  obtain ⟨⟨t595, t596⟩, A7, H⟩ := ob H
  obtain ⟨⟨t597, t598⟩, A8, H⟩ := ob H
  obtain ⟨⟨t599, t600⟩, A9, H⟩ := ob H
  obtain ⟨⟨t601, t602⟩, A10, H⟩ := ob H
  obtain ⟨⟨t603, t604⟩, A11, H⟩ := ob H
  obtain ⟨⟨t605, t606⟩, A12, H⟩ := ob H
  obtain ⟨⟨t607, t610⟩, A13, H⟩ := ob H
  obtain ⟨⟨t611, t612, t613, t614⟩, A14, H⟩ := ob H
  obtain ⟨⟨t615, t616⟩, A15, H⟩ := ob H
  obtain ⟨⟨t617, t618⟩, A16, H⟩ := ob H
  obtain ⟨⟨t619, t620, t621⟩, A17, H⟩ := ob H
  obtain ⟨⟨t623, t624, t625, t626⟩, A18, H⟩ := ob H
  obtain ⟨⟨t627, t628⟩, A19, H⟩ := ob H
  obtain ⟨⟨t629, t630, t631, t632, t633, t634, t635, t636⟩, A20, H⟩ := ob H
  have HC21 := Aside0.mk H
  clear H
  go_enter Try.func13, Try.ntmps13
  try go_wp2_with (first | ((with_reducible refine gate_dst (N := 1) rfl ?_); (try (refine gate_guard (by rfl) ?_; dsimp only)); refine bx 1 #[.int .i64 0, .int .i64 0, .int .i64 0] 23 fun gb582 hg w22 BK582 hb => ?_; have GW582 := gw hg HB; have GE582 := gw hg HB; replace HB := bst HB hb; clear hb hg; have ⟨hcz23_0, hcz23_1, hcz23_2, hfz23_0, hfz23_1, hfz23_2⟩ := cf3 BK582) | ((with_reducible refine gate_store (t := 23) (p := 1) rfl ?_); refine sx 23 1 ((((w22.setCell ⟨gb582, 0, none⟩ (.int .i64 2)).setCell ⟨gb582, 1, none⟩ (.int .i64 1)).setCell ⟨gb582, 2, none⟩ (.int .i64 2))) fun w24 hw => ?_; replace BK582 := pw3 hw BK582; replace HB := bw hw HB; clear hw))
  replace BK582 := bd BK582
  replace HB := bdn HB
  refine start_ (n := 9) (S := fun w' => w'.cell? ⟨gb582, 0, none⟩ = some (.int .i64 2) ∧ w'.cell? ⟨gb582, 1, none⟩ = some (.int .i64 1) ∧ w'.cell? ⟨gb582, 2, none⟩ = some (.int .i64 2)) (ds := []) #[false, false, false, false, false, false, false, false, false] (by kernel_rfl) rfl rfl ⟨(blk_cell BK582.out 0).trans rfl, (blk_cell BK582.out 1).trans rfl, (blk_cell BK582.out 2).trans rfl⟩ (fun hHeld => ?_); refine with_tabW torchonlaw06_awake.tab2 torchonlaw06_awake.bits2 (fun HT_ HW_ => ?_)
  generalize w24.drew = w25 at BK582 HB hHeld ⊢
  refine tz 0 19 HT_ HW_ hHeld ?_
  refine one_ (i := 1) (N := some 20) #[true, true, false, false, false, false, false, false, false] rfl rfl (one_of HT_.out (by kernel_rfl)) (by decide) (fun K hK => ?_)
  refine gs _ Try.func19 (torchonlaw06_pt.calls 0 0 t583 t584 _ A1.out) ?_
  rintro e w26 ⟨rfl, hb⟩
  refine ⟨_, rfl, ?_⟩
  replace BK582 := bb BK582 hb
  replace HB := bst HB hb
  (try clear hb)
  (try clear hb2)
  (try clear hk)
  (try clear hi)
  refine hK.out _ _ ⟨(blk_cell BK582.out 0).trans rfl, (blk_cell BK582.out 1).trans rfl, (blk_cell BK582.out 2).trans rfl⟩ (fun hHeld => ?_)
  clear hK K
  refine norm_ (a' := ?_) ?_ ?_
  rotate_left
  · show Act.put _ (some 20) _ = _
    simp only [Act.put, List.setIfInBounds_toArray, List.set_cons_zero, List.set_cons_succ, i64_w, i32_w]
    rfl
  refine one_ (i := 2) (N := some 21) #[true, true, true, false, false, false, false, false, false] rfl rfl (one_of HT_.out (by kernel_rfl)) (by decide) (fun K hK => ?_)
  refine gs _ Try.func19 (torchonlaw06_pt.calls 1 1 t585 t586 _ A2.out) ?_
  rintro e w27 ⟨rfl, hb⟩
  refine ⟨_, rfl, ?_⟩
  replace BK582 := bb BK582 hb
  replace HB := bst HB hb
  (try clear hb)
  (try clear hb2)
  (try clear hk)
  (try clear hi)
  refine hK.out _ _ ⟨(blk_cell BK582.out 0).trans rfl, (blk_cell BK582.out 1).trans rfl, (blk_cell BK582.out 2).trans rfl⟩ (fun hHeld => ?_)
  clear hK K
  refine norm_ (a' := ?_) ?_ ?_
  rotate_left
  · show Act.put _ (some 21) _ = _
    simp only [Act.put, List.setIfInBounds_toArray, List.set_cons_zero, List.set_cons_succ, i64_w, i32_w]
    rfl
  refine one_ (i := 3) (N := some 22) #[true, true, true, true, false, false, false, false, false] rfl rfl (one_of HT_.out (by kernel_rfl)) (by decide) (fun K hK => ?_)
  refine gs _ Try.func20 (grids_Square.calls k 2 1 2 t583 t584 t585 t586 t587 t588 _ A3.out) ?_
  rintro e w28 ⟨rfl, hb⟩
  refine ⟨_, rfl, ?_⟩
  replace BK582 := bb BK582 hb
  replace HB := bst HB hb
  (try clear hb)
  (try clear hb2)
  (try clear hk)
  (try clear hi)
  refine hK.out _ _ ⟨(blk_cell BK582.out 0).trans rfl, (blk_cell BK582.out 1).trans rfl, (blk_cell BK582.out 2).trans rfl⟩ (fun hHeld => ?_)
  clear hK K
  refine norm_ (a' := ?_) ?_ ?_
  rotate_left
  · show Act.put _ (some 22) _ = _
    simp only [Act.put, List.setIfInBounds_toArray, List.set_cons_zero, List.set_cons_succ, i64_w, i32_w]
    rfl
  refine pz 4 18 HT_ ?_
  refine pz 5 23 HT_ ?_
  refine pz 6 24 HT_ ?_
  refine pz 7 2 HT_ ?_
  refine pz 8 3 HT_ ?_
  refine done_ (done_of HT_.out (by kernel_rfl)) ?_
  go_upto_region 9 with (first | ((with_reducible refine gate_callee (f := 19) rfl ?_); refine gl 26 Try.func19 (torchonlaw06_pt.calls 0 0 t589 t590 _ A4.out) ?_; rintro e w29 ⟨rfl, hb⟩; refine ⟨_, rfl, ?_⟩; replace BK582 := bb BK582 hb; replace HB := bst HB hb; clear hb) | ((with_reducible refine gate_callee (f := 19) rfl ?_); refine gl 27 Try.func19 (torchonlaw06_pt.calls 1 0 t591 t592 _ A5.out) ?_; rintro e w30 ⟨rfl, hb⟩; refine ⟨_, rfl, ?_⟩; replace BK582 := bb BK582 hb; replace HB := bst HB hb; clear hb) | ((with_reducible refine gate_callee (f := 19) rfl ?_); refine gl 28 Try.func19 (torchonlaw06_pt.calls 0 1 t593 t594 _ A6.out) ?_; rintro e w31 ⟨rfl, hb⟩; refine ⟨_, rfl, ?_⟩; replace BK582 := bb BK582 hb; replace HB := bst HB hb; clear hb) | ((with_reducible refine gate_callee (f := 21) rfl ?_); refine gl 29 Try.func21 (grids_Side.calls k t589 t590 t591 t592 t593 t594 t595 t596 _ A7.out) ?_; rintro e w32 ⟨rfl, hb⟩; refine ⟨_, rfl, ?_⟩; replace BK582 := bb BK582 hb; replace HB := bst HB hb; clear hb) | ((with_reducible refine gate_callee (f := 19) rfl ?_); refine gl 33 Try.func19 (torchonlaw06_pt.calls 0 0 t597 t598 _ A8.out) ?_; rintro e w33 ⟨rfl, hb⟩; refine ⟨_, rfl, ?_⟩; replace BK582 := bb BK582 hb; replace HB := bst HB hb; clear hb) | ((with_reducible refine gate_callee (f := 19) rfl ?_); refine gl 34 Try.func19 (torchonlaw06_pt.calls 1 0 t599 t600 _ A9.out) ?_; rintro e w34 ⟨rfl, hb⟩; refine ⟨_, rfl, ?_⟩; replace BK582 := bb BK582 hb; replace HB := bst HB hb; clear hb) | ((with_reducible refine gate_callee (f := 19) rfl ?_); refine gl 35 Try.func19 (torchonlaw06_pt.calls 1 (-1) t601 t602 _ A10.out) ?_; rintro e w35 ⟨rfl, hb⟩; refine ⟨_, rfl, ?_⟩; replace BK582 := bb BK582 hb; replace HB := bst HB hb; clear hb) | ((with_reducible refine gate_callee (f := 19) rfl ?_); refine gl 36 Try.func19 (torchonlaw06_pt.calls 0 1 t603 t604 _ A11.out) ?_; rintro e w36 ⟨rfl, hb⟩; refine ⟨_, rfl, ?_⟩; replace BK582 := bb BK582 hb; replace HB := bst HB hb; clear hb) | ((with_reducible refine gate_callee (f := 18) rfl ?_); refine gl 37 Try.func18 (grids_Turn.calls k t597 t598 t599 t600 t601 t602 t603 t604 t605 t606 _ A12.out) ?_; rintro e w37 ⟨rfl, hb⟩; refine ⟨_, rfl, ?_⟩; replace BK582 := bb BK582 hb; replace HB := bst HB hb; clear hb; have ⟨hcz38_0, hcz38_1, hcz38_2, hfz38_0, hfz38_1, hfz38_2⟩ := cf3 BK582) | ((with_reducible refine gate_callee (f := 22) rfl ?_); refine goesL_ (some 42) rfl rfl Try.func22 (by kernel_rfl) rfl #[.agg #[.int .i64 2, .int .i64 1, .int .i64 2]] rfl am ?_; (with_reducible refine (grids_Group.calls k 2 1 2 t607 t610 _ A13.out).mono ?_); rintro e w39 ⟨v608, rfl, ho0, hb⟩; refine ⟨_, rfl, ?_⟩; have HO609 := Aside0.mk (Kd.R_lower ho0 (below_size (bnow HB))); replace BK582 := bb BK582 hb; replace HB := bst HB hb; (try clear hb); (try clear hb2); (try clear hk); (try clear hi); (try clear ho0)) | ((with_reducible refine gate_callee (f := 17) rfl ?_); refine gl 46 Try.func17 (torchonlaw06_mat.calls 0 (-1) 1 0 t611 t612 t613 t614 _ A14.out) ?_; rintro e w40 ⟨rfl, hb⟩; refine ⟨_, rfl, ?_⟩; replace HO609 := Aside0.mk (Kd.R_below (by (with_reducible repeat (first | apply Kd.R_alloc | apply Kd.R_drewN | apply Kd.R_drew)); exact HO609.out) hb); replace BK582 := bb BK582 hb; replace HB := bst HB hb; (try clear hb); (try clear hb2); (try clear hk); (try clear hi)) | ((with_reducible refine gate_callee (f := 19) rfl ?_); refine gl 47 Try.func19 (torchonlaw06_pt.calls 3 4 t615 t616 _ A15.out) ?_; rintro e w41 ⟨rfl, hb⟩; refine ⟨_, rfl, ?_⟩; replace HO609 := Aside0.mk (Kd.R_below (by (with_reducible repeat (first | apply Kd.R_alloc | apply Kd.R_drewN | apply Kd.R_drew)); exact HO609.out) hb); replace BK582 := bb BK582 hb; replace HB := bst HB hb; (try clear hb); (try clear hb2); (try clear hk); (try clear hi)) | ((with_reducible refine gate_callee (f := 19) rfl ?_); refine gl 49 Try.func19 (torchonlaw06_pt.calls 1 2 t617 t618 _ A16.out) ?_; rintro e w42 ⟨rfl, hb⟩; refine ⟨_, rfl, ?_⟩; replace HO609 := Aside0.mk (Kd.R_below (by (with_reducible repeat (first | apply Kd.R_alloc | apply Kd.R_drewN | apply Kd.R_drew)); exact HO609.out) hb); replace BK582 := bb BK582 hb; replace HB := bst HB hb; (try clear hb); (try clear hb2); (try clear hk); (try clear hi)) | ((with_reducible refine gate_callee (f := 27) rfl ?_); refine gl 50 Try.func27 (grids_Apply.calls k t611 t612 t613 t614 t615 t616 t617 t618 t619 t620 t621 _ A17.out) ?_; rintro e w43 ⟨rfl, hb⟩; refine ⟨_, rfl, ?_⟩; replace HO609 := Aside0.mk (Kd.R_below (by (with_reducible repeat (first | apply Kd.R_alloc | apply Kd.R_drewN | apply Kd.R_drew)); exact HO609.out) hb); replace BK582 := bb BK582 hb; replace HB := bst HB hb; (try clear hb); (try clear hb2); (try clear hk); (try clear hi)) | ((with_reducible refine gate_dst (N := 10) rfl ?_); (try (refine gate_guard (by rfl) ?_; dsimp only)); refine box_event ?hg (N := 10) ?hd (cs := #[.int .i64 0, .int .i64 0]) (t := 37) ?hr ?_; (case hd => rfl); (case hg => rfl); (case hr => first | (go_simp; done) | (go_simp; rfl)); intro gb622 hg w44 hbox hb; have BK622 := Aside0.mk (hbox); have GW622 := gw hg HB; have GE622 := gw hg HB; have NB582_622 := nlt hg BK582; have NB622_582 := ngt hg BK582; replace HO609 := Aside0.mk (Kd.R_below (by (with_reducible repeat (first | apply Kd.R_alloc | apply Kd.R_drewN | apply Kd.R_drew)); exact HO609.out) hb); replace BK582 := bb BK582 hb; replace HB := bst HB hb; clear hb hg; have hnb45 := NB622_582.out; have hnc45 := NB582_622.out; have ⟨hcz46_0, hcz46_1, hfz46_0, hfz46_1⟩ := cf2 BK622) | ((with_reducible refine gate_callee (f := 17) rfl ?_); refine gl 54 Try.func17 (torchonlaw06_mat.calls 1 (-1) 1 0 t623 t624 t625 t626 _ A18.out) ?_; rintro e w47 ⟨rfl, hb⟩; refine ⟨_, rfl, ?_⟩; have n0_ := Aside0.mk (Kd.R_below (by (with_reducible repeat (first | apply Kd.R_alloc | apply Kd.R_drewN | apply Kd.R_drew)); exact (Kd.R_mono (Kd.R_far (p := ⟨gb622, 1, none⟩) (Kd.R_far (p := ⟨gb622, 0, none⟩) (Kd.R_types HO609.out BK622.out (by decide)) (fun _ hk => hk.2) (.int .i64 t619)) (fun _ hk => hk.2) (.int .i64 t620)) (fun _ h_ => h_.1))) hb); have n1_ := Aside0.mk (blk_below (g := gb582) (o := .cells #[.int .i64 2, .int .i64 1, .int .i64 2] 23 (0, 0)) (by (with_reducible repeat (first | refine blk_drewN ?_ _ | refine blk_drew ?_ | refine blk_alloc ?_ _)); refine blk_far ?_ NB582_622.out _; (with_reducible repeat (first | refine blk_drewN ?_ _ | refine blk_drew ?_ | refine blk_alloc ?_ _)); refine blk_far ?_ NB582_622.out _; (with_reducible repeat (first | refine blk_drewN ?_ _ | refine blk_drew ?_ | refine blk_alloc ?_ _)); exact BK582.out) hb); have n2_ := Aside0.mk (blk_below (g := gb622) (o := .cells #[.int .i64 t619, .int .i64 t620] 37 (0, 0)) (by (with_reducible repeat (first | refine blk_drewN ?_ _ | refine blk_drew ?_ | refine blk_alloc ?_ _)); refine blk_put (cs := #[.int .i64 t619, .int .i64 0]) ?_ 1 _ rfl; (with_reducible repeat (first | refine blk_drewN ?_ _ | refine blk_drew ?_ | refine blk_alloc ?_ _)); refine blk_put (cs := #[.int .i64 0, .int .i64 0]) ?_ 0 _ rfl; (with_reducible repeat (first | refine blk_drewN ?_ _ | refine blk_drew ?_ | refine blk_alloc ?_ _)); exact BK622.out) hb); have n3_ := bst HB hb; clear HO609; clear BK582; clear BK622; clear HB; have HO609 := n0_; have BK582 := n1_; have BK622 := n2_; have HB := n3_; clear n0_ n1_ n2_ n3_; (try clear hb); (try clear hb2); (try clear hk); (try clear hi)) | ((with_reducible refine gate_callee (f := 33) rfl ?_); refine gl 55 Try.func33 (grids_Order.calls k t623 t624 t625 t626 t627 t628 _ A19.out) ?_; rintro e w48 ⟨rfl, hb⟩; refine ⟨_, rfl, ?_⟩; replace HO609 := Aside0.mk (Kd.R_below (by (with_reducible repeat (first | apply Kd.R_alloc | apply Kd.R_drewN | apply Kd.R_drew)); exact HO609.out) hb); replace BK582 := bb BK582 hb; replace BK622 := bb BK622 hb; replace HB := bst HB hb; (try clear hb); (try clear hb2); (try clear hk); (try clear hi)) | ((with_reducible refine gate_callee (f := 11) rfl ?_); refine gl 60 Try.func11 (grids_Reduce.calls k 5 7 10 t629 t630 t631 t632 t633 t634 t635 t636 _ A20.out) ?_; rintro e w49 ⟨rfl, hb⟩; refine ⟨_, rfl, ?_⟩; replace HO609 := Aside0.mk (Kd.R_below (by (with_reducible repeat (first | apply Kd.R_alloc | apply Kd.R_drewN | apply Kd.R_drew)); exact HO609.out) hb); replace BK582 := bb BK582 hb; replace BK622 := bb BK622 hb; replace HB := bst HB hb; (try clear hb); (try clear hb2); (try clear hk); (try clear hi)) | ((with_reducible refine gate_dst (N := 14) rfl ?_); (try (refine gate_guard (by rfl) ?_; dsimp only)); refine box_event ?hg (N := 14) ?hd (cs := #[.int .i64 0, .int .i64 0, .int .i64 0]) (t := 23) ?hr ?_; (case hd => rfl); (case hg => rfl); (case hr => first | (go_simp; done) | (go_simp; rfl)); intro gb637 hg w50 hbox hb; have BK637 := Aside0.mk (hbox); have GW637 := gw hg HB; have GE637 := gw hg HB; have NB582_637 := nlt hg BK582; have NB637_582 := ngt hg BK582; have NB622_637 := nlt hg BK622; have NB637_622 := ngt hg BK622; replace HO609 := Aside0.mk (Kd.R_below (by (with_reducible repeat (first | apply Kd.R_alloc | apply Kd.R_drewN | apply Kd.R_drew)); exact HO609.out) hb); replace BK582 := bb BK582 hb; replace BK622 := bb BK622 hb; replace HB := bst HB hb; clear hb hg) | ((with_reducible refine gate_dst (N := 15) rfl ?_); (try (refine gate_guard (by rfl) ?_; dsimp only)); refine box_event ?hg (N := 15) ?hd (cs := #[.int .i64 0, .int .i64 0, .int .i64 0, .int .i64 0]) (t := 25) ?hr ?_; (case hd => rfl); (case hg => rfl); (case hr => first | (go_simp; done) | (go_simp; rfl)); intro gb638 hg w51 hbox hb; have BK638 := Aside0.mk (hbox); have GW638 := gw hg HB; have GE638 := gw hg HB; have NB582_638 := nlt hg BK582; have NB638_582 := ngt hg BK582; have NB622_638 := nlt hg BK622; have NB638_622 := ngt hg BK622; have NB637_638 := nlt hg BK637; have NB638_637 := ngt hg BK637; replace HO609 := Aside0.mk (Kd.R_below (Kd.R_elderB (by (with_reducible repeat (first | apply Kd.R_alloc | apply Kd.R_drewN | apply Kd.R_drew)); exact HO609.out) gb638 (Nat.le_of_eq hg.symm)) hb); replace BK582 := bb BK582 hb; replace BK622 := bb BK622 hb; replace BK637 := bb BK637 hb; replace HB := bst HB hb; clear hb hg; have hnb52 := NB637_582.out; have hnc52 := NB582_637.out; have hnb53 := NB637_622.out; have hnc53 := NB622_637.out; have hnb54 := NB637_638.out; have hnc54 := NB638_637.out; have ⟨hcz55_0, hcz55_1, hcz55_2, hfz55_0, hfz55_1, hfz55_2⟩ := cf3 BK637) | ((with_reducible refine gate_store (t := 23) (p := 14) rfl ?_); refine sx 23 14 ((((w51.setCell ⟨gb637, 0, none⟩ (.int .i64 t629)).setCell ⟨gb637, 1, none⟩ (.int .i64 t630)).setCell ⟨gb637, 2, none⟩ (.int .i64 t631))) fun w56 hw => ?_; have n0_ : Aside0 (Kd.R k25 25 w56 w.heap.size (fun k_ => k_ ≠ gb638) v608 t607) := ⟨(by rw [hw]; exact (by (with_reducible repeat (first | apply Kd.R_alloc | apply Kd.R_drewN | apply Kd.R_drew)); exact Kd.R_mono (Kd.R_far (p := ⟨gb637, 2, none⟩) (Kd.R_far (p := ⟨gb637, 1, none⟩) (Kd.R_far (p := ⟨gb637, 0, none⟩) (Kd.R_types HO609.out BK637.out (by decide)) (fun _ hk => hk.2) (.int .i64 t629)) (fun _ hk => hk.2) (.int .i64 t630)) (fun _ hk => hk.2) (.int .i64 t631)) (fun _ hk => hk.1.2)))⟩; have n1_ := fw hw BK582; have n2_ := fw hw BK622; have n3_ := pw3 hw BK637; have n4_ := fw hw BK638; have n5_ := bw hw HB; clear hw; clear HO609; clear BK582; clear BK622; clear BK637; clear BK638; clear HB; have HO609 := n0_; have BK582 := n1_; have BK622 := n2_; have BK637 := n3_; have BK638 := n4_; have HB := n5_; clear n0_ n1_ n2_ n3_ n4_ n5_; have hnb57 := NB638_582.out; have hnc57 := NB582_638.out; have hnb58 := NB638_622.out; have hnc58 := NB622_638.out; have ⟨hcz59_0, hcz59_1, hcz59_2, hcz59_3, hfz59_0, hfz59_1, hfz59_2, hfz59_3⟩ := cf4 BK638) | ((with_reducible refine gate_store (t := 25) (p := 15) rfl ?_); refine sx 25 15 (((((w56.setCell ⟨gb638, 0, none⟩ (.int .i64 t632)).setCell ⟨gb638, 1, none⟩ (.int .i64 t633)).setCell ⟨gb638, 2, none⟩ (.int .i64 t634)).setCell ⟨gb638, 3, none⟩ (.int .i64 t635))) fun w60 hw => ?_; have n0_ : Aside0 (Kd.R k25 25 w60 w.heap.size (fun k_ => k_ ≠ gb638) v608 t607) := ⟨(by rw [hw]; exact (by (with_reducible repeat (first | apply Kd.R_alloc | apply Kd.R_drewN | apply Kd.R_drew)); exact Kd.R_mono (Kd.R_far (p := ⟨gb638, 3, none⟩) (Kd.R_far (p := ⟨gb638, 2, none⟩) (Kd.R_far (p := ⟨gb638, 1, none⟩) (Kd.R_far (p := ⟨gb638, 0, none⟩) (Kd.R_mono HO609.out (fun k_ hk => (⟨hk, hk⟩ : _ ∧ k_ ≠ gb638))) (fun _ hk => hk.2) (.int .i64 t632)) (fun _ hk => hk.2) (.int .i64 t633)) (fun _ hk => hk.2) (.int .i64 t634)) (fun _ hk => hk.2) (.int .i64 t635)) (fun _ hk => hk.1)))⟩; have n1_ := fw hw BK582; have n2_ := fw hw BK622; have n3_ := fw hw BK637; have n4_ := pw4 hw BK638; have n5_ := bw hw HB; clear hw; clear HO609; clear BK582; clear BK622; clear BK637; clear BK638; clear HB; have HO609 := n0_; have BK582 := n1_; have BK622 := n2_; have BK637 := n3_; have BK638 := n4_; have HB := n5_; clear n0_ n1_ n2_ n3_ n4_ n5_))
  (try simp only [Act.put, List.setIfInBounds_toArray, List.set_cons_zero, List.set_cons_succ])
  go_cut [89] (fun v89 wc => ∃ (kq : Nat) (x89_20 : Bool), v89 = .bool x89_20 ∧ Aside0 (torchonlaw06_awake.j0 kq t587 t595 t605 t607 t627 x89_20 t619 t620 t629 t630 t631 t632 t633 t634 t635 = some r) ∧ Aside0 (kq ≤ k) ∧ Aside0 (Kd.R k25 25 wc w.heap.size (fun k_ => k_ ≠ gb638) v608 t607) ∧ Aside0 (wc.heap[gb582]? = some (.cells #[.int .i64 2, .int .i64 1, .int .i64 2] 23 (0, 0))) ∧ Aside0 (wc.heap[gb622]? = some (.cells #[.int .i64 t619, .int .i64 t620] 37 (0, 0))) ∧ Aside0 (wc.heap[gb637]? = some (.cells #[.int .i64 t629, .int .i64 t630, .int .i64 t631] 23 (0, 0))) ∧ Aside0 (wc.heap[gb638]? = some (.cells #[.int .i64 t632, .int .i64 t633, .int .i64 t634, .int .i64 t635] 25 (0, 0))) ∧ Aside0 (Below w.heap.size w wc))
  case first =>
    have H := HC21.out
    clear HC21
    by_cases c61 : t588 = 0
    · rw [if_pos c61] at H
      have c61b0 : (t588 == 0) = true := beq_iff_eq.mpr c61
      have c61b1 : (t588 != 0) = false := bne_eq_false_iff_eq.mpr c61
      clear c61
      (first | rw [c61b0] | (simp only [i64_w, i32_w]; rw [c61b0]) | skip)
      by_cases c62 : t596 = 0
      · rw [if_pos c62] at H
        have c62b0 : (t596 == 0) = true := beq_iff_eq.mpr c62
        have c62b1 : (t596 != 0) = false := bne_eq_false_iff_eq.mpr c62
        clear c62
        by_cases c63 : t606 = 0
        · rw [if_pos c63] at H
          have c63b0 : (t606 == 0) = true := beq_iff_eq.mpr c63
          have c63b1 : (t606 != 0) = false := bne_eq_false_iff_eq.mpr c63
          clear c63
          by_cases c64 : t610 = 0
          · rw [if_pos c64] at H
            have c64b0 : (t610 == 0) = true := beq_iff_eq.mpr c64
            have c64b1 : (t610 != 0) = false := bne_eq_false_iff_eq.mpr c64
            clear c64
            by_cases c65 : t621 = 0
            · rw [if_pos c65] at H
              have c65b0 : (t621 == 0) = true := beq_iff_eq.mpr c65
              have c65b1 : (t621 != 0) = false := bne_eq_false_iff_eq.mpr c65
              clear c65
              by_cases c66 : t628 = 0
              · rw [if_pos c66] at H
                have c66b0 : (t628 == 0) = true := beq_iff_eq.mpr c66
                have c66b1 : (t628 != 0) = false := bne_eq_false_iff_eq.mpr c66
                clear c66
                have H' := Aside0.mk H
                clear H
                go_wp2
                go_meet
                case rel => exact ⟨_, ((t636 != 0)), (by first | rfl | (simp; done) | (simp [*]; done)), H', ⟨by first | omega | exact Nat.le_refl _⟩, ⟨by (with_reducible repeat (first | apply Kd.R_alloc | apply Kd.R_drewN | apply Kd.R_drew)); exact HO609.out⟩, ⟨pk BK582⟩, ⟨pk BK622⟩, ⟨pk BK637⟩, ⟨pk BK638⟩, ⟨bnow HB⟩⟩
              · rw [if_neg c66] at H
                have c66b0 : (t628 == 0) = false := beq_eq_false_iff_ne.mpr c66
                have c66b1 : (t628 != 0) = true := bne_iff_ne.mpr c66
                have H' := Aside0.mk H
                clear H
                go_wp2
                go_meet
                case rel => exact ⟨_, (true), (by first | rfl | (simp; done) | (simp [*]; done)), H', ⟨by first | omega | exact Nat.le_refl _⟩, ⟨by (with_reducible repeat (first | apply Kd.R_alloc | apply Kd.R_drewN | apply Kd.R_drew)); exact HO609.out⟩, ⟨pk BK582⟩, ⟨pk BK622⟩, ⟨pk BK637⟩, ⟨pk BK638⟩, ⟨bnow HB⟩⟩
            · rw [if_neg c65] at H
              have c65b0 : (t621 == 0) = false := beq_eq_false_iff_ne.mpr c65
              have c65b1 : (t621 != 0) = true := bne_iff_ne.mpr c65
              have H' := Aside0.mk H
              clear H
              go_wp2
              go_meet
              case rel => exact ⟨_, (true), (by first | rfl | (simp; done) | (simp [*]; done)), H', ⟨by first | omega | exact Nat.le_refl _⟩, ⟨by (with_reducible repeat (first | apply Kd.R_alloc | apply Kd.R_drewN | apply Kd.R_drew)); exact HO609.out⟩, ⟨pk BK582⟩, ⟨pk BK622⟩, ⟨pk BK637⟩, ⟨pk BK638⟩, ⟨bnow HB⟩⟩
          · rw [if_neg c64] at H
            have c64b0 : (t610 == 0) = false := beq_eq_false_iff_ne.mpr c64
            have c64b1 : (t610 != 0) = true := bne_iff_ne.mpr c64
            have H' := Aside0.mk H
            clear H
            go_wp2
            go_meet
            case rel => exact ⟨_, (true), (by first | rfl | (simp; done) | (simp [*]; done)), H', ⟨by first | omega | exact Nat.le_refl _⟩, ⟨by (with_reducible repeat (first | apply Kd.R_alloc | apply Kd.R_drewN | apply Kd.R_drew)); exact HO609.out⟩, ⟨pk BK582⟩, ⟨pk BK622⟩, ⟨pk BK637⟩, ⟨pk BK638⟩, ⟨bnow HB⟩⟩
        · rw [if_neg c63] at H
          have c63b0 : (t606 == 0) = false := beq_eq_false_iff_ne.mpr c63
          have c63b1 : (t606 != 0) = true := bne_iff_ne.mpr c63
          have H' := Aside0.mk H
          clear H
          go_wp2
          go_meet
          case rel => exact ⟨_, (true), (by first | rfl | (simp; done) | (simp [*]; done)), H', ⟨by first | omega | exact Nat.le_refl _⟩, ⟨by (with_reducible repeat (first | apply Kd.R_alloc | apply Kd.R_drewN | apply Kd.R_drew)); exact HO609.out⟩, ⟨pk BK582⟩, ⟨pk BK622⟩, ⟨pk BK637⟩, ⟨pk BK638⟩, ⟨bnow HB⟩⟩
      · rw [if_neg c62] at H
        have c62b0 : (t596 == 0) = false := beq_eq_false_iff_ne.mpr c62
        have c62b1 : (t596 != 0) = true := bne_iff_ne.mpr c62
        have H' := Aside0.mk H
        clear H
        go_wp2
        go_meet
        case rel => exact ⟨_, (true), (by first | rfl | (simp; done) | (simp [*]; done)), H', ⟨by first | omega | exact Nat.le_refl _⟩, ⟨by (with_reducible repeat (first | apply Kd.R_alloc | apply Kd.R_drewN | apply Kd.R_drew)); exact HO609.out⟩, ⟨pk BK582⟩, ⟨pk BK622⟩, ⟨pk BK637⟩, ⟨pk BK638⟩, ⟨bnow HB⟩⟩
    · rw [if_neg c61] at H
      have c61b0 : (t588 == 0) = false := beq_eq_false_iff_ne.mpr c61
      have c61b1 : (t588 != 0) = true := bne_iff_ne.mpr c61
      (first | rw [c61b0] | (simp only [i64_w, i32_w]; rw [c61b0]) | skip)
      have H' := Aside0.mk H
      clear H
      go_wp2
      go_meet
      case rel => exact ⟨_, (true), (by first | rfl | (simp; done) | (simp [*]; done)), H', ⟨by first | omega | exact Nat.le_refl _⟩, ⟨by (with_reducible repeat (first | apply Kd.R_alloc | apply Kd.R_drewN | apply Kd.R_drew)); exact HO609.out⟩, ⟨pk BK582⟩, ⟨pk BK622⟩, ⟨pk BK637⟩, ⟨pk BK638⟩, ⟨bnow HB⟩⟩
  case rest =>
    clear HC21
    try clear c1; try clear c2; try clear p2; try clear c3; try clear c4; try clear c5; try clear c6; try clear c11; try clear c13; try clear c17; try clear c18; try clear c19; try clear c20; try clear c21; try clear c22; try clear c27; try clear c33; try clear c45; try clear c52; try clear c53; try clear c54; try clear c57; try clear c58; try clear c61; try clear c61b0; try clear c61b1; try clear c62; try clear c62b0; try clear c62b1; try clear c63; try clear c63b0; try clear c63b1; try clear c64; try clear c64b0; try clear c64b1; try clear c65; try clear c65b0; try clear c65b1; try clear c66; try clear c66b0; try clear c66b1; try clear hcz23_0; try clear hcz23_1; try clear hcz23_2; try clear hcz38_0; try clear hcz38_1; try clear hcz38_2; try clear hcz46_0; try clear hcz46_1; try clear hcz55_0; try clear hcz55_1; try clear hcz55_2; try clear hcz59_0; try clear hcz59_1; try clear hcz59_2; try clear hcz59_3; try clear hfz23_0; try clear hfz23_1; try clear hfz23_2; try clear hfz38_0; try clear hfz38_1; try clear hfz38_2; try clear hfz46_0; try clear hfz46_1; try clear hfz55_0; try clear hfz55_1; try clear hfz55_2; try clear hfz59_0; try clear hfz59_1; try clear hfz59_2; try clear hfz59_3
    obtain ⟨kq, x89_20, rfl, HA, HJ20, HO_8, BK582, BK622, BK637, BK638, HB⟩ := hcut
    cases kq with
    | zero => exact absurd HA.out (by simp [torchonlaw06_awake.j0])
    | succ kj20 =>
      have H := HA.out
      clear HA
      simp only [torchonlaw06_awake.j0] at H
      by_cases c67 : x89_20 = true
      · subst c67
        have H1 : (none) = some r := by rw [if_pos rfl] at H; exact H
        clear H
        have H := H1
        clear H1
        exact absurd H (by simp)
      · replace c67 := Bool.eq_false_iff.mpr c67
        subst c67
        have H1 : (if t587 = 6 then (if t595 = 1 then (if t605 = 1 then (if (t607.length : Int) = 12 then ((torchonlaw06_pt.f 1 5).bind fun bt639 => (if (t619 == bt639.1 && (t620 == bt639.2)) = true then (if t627 = 6 then (if (t629 == 1 && (t630 == 0 && (t631 == 1))) = true then ((torchonlaw06_mat.f (-3) (-1) 2 1).bind fun bt641 => (some (t632 == bt641.1 && (t633 == bt641.2.1 && (t634 == bt641.2.2.1 && (t635 == bt641.2.2.2)))))) else (none)) else (none)) else (none))) else (none)) else (none)) else (none)) else (none)) = some r := by rw [if_neg (show ¬ (false = true) by decide)] at H; exact H
        clear H
        have H := H1
        clear H1
        by_cases c68 : t587 = 6
        · rw [if_pos c68] at H
          have c68b0 : (t587 == 6) = true := beq_iff_eq.mpr c68
          have c68b1 : (t587 != 6) = false := bne_eq_false_iff_eq.mpr c68
          clear c68
          by_cases c69 : t595 = 1
          · rw [if_pos c69] at H
            have c69b0 : (t595 == 1) = true := beq_iff_eq.mpr c69
            have c69b1 : (t595 != 1) = false := bne_eq_false_iff_eq.mpr c69
            clear c69
            by_cases c70 : t605 = 1
            · rw [if_pos c70] at H
              have c70b0 : (t605 == 1) = true := beq_iff_eq.mpr c70
              have c70b1 : (t605 != 1) = false := bne_eq_false_iff_eq.mpr c70
              clear c70
              by_cases c71 : (t607.length : Int) = 12
              · rw [if_pos c71] at H
                have c71b0 : ((t607.length : Int) == 12) = true := beq_iff_eq.mpr c71
                have c71b1 : ((t607.length : Int) != 12) = false := bne_eq_false_iff_eq.mpr c71
                clear c71
                obtain ⟨⟨t639, t640⟩, A72, H⟩ := ob H
                by_cases c73 : (t619 == t639 && (t620 == t640)) = true
                · rw [if_pos c73] at H
                  have c73b0 : (t619 == t639 && (t620 == t640)) = true := c73
                  (try (have c73b1 : decide (t619 = t639 && (t620 == t640)) = true := by simpa using c73))
                  (try (have c73b2 : (t619 == t639 && (t620 == t640)) = true := by simpa using c73))
                  clear c73
                  by_cases c74 : t627 = 6
                  · rw [if_pos c74] at H
                    have c74b0 : (t627 == 6) = true := beq_iff_eq.mpr c74
                    have c74b1 : (t627 != 6) = false := bne_eq_false_iff_eq.mpr c74
                    clear c74
                    by_cases c75 : (t629 == 1 && (t630 == 0 && (t631 == 1))) = true
                    · rw [if_pos c75] at H
                      have c75b0 : (t629 == 1 && (t630 == 0 && (t631 == 1))) = true := c75
                      (try (have c75b1 : decide (t629 = 1 && (t630 == 0 && (t631 == 1))) = true := by simpa using c75))
                      (try (have c75b2 : (t629 == 1 && (t630 == 0 && (t631 == 1))) = true := by simpa using c75))
                      clear c75
                      obtain ⟨⟨t641, t642, t643, t644⟩, A76, H⟩ := ob H
                      obtain rfl := Option.some.inj H
                      try go_wp2
                      replace HO_8 := Aside0.mk (Kd.R_drew HO_8.out)
                      replace BK582 := bd BK582
                      replace BK622 := bd BK622
                      replace BK637 := bd BK637
                      replace BK638 := bd BK638
                      replace HB := bdn HB
                      obtain ⟨Ao78, co78, eo78⟩ := Kd.R_slice HO_8.out
                      (first | subst eo78 | (injection eo78 with f1_ f2_ f3_; have f4_ := f1_.symm; have f5_ := f3_.symm; clear f1_ f2_ f3_; subst f4_; subst f5_))
                      refine start_ (n := 35) (S := fun w' => w'.cell? ⟨gb622, 0, none⟩ = some (.int .i64 t619) ∧ w'.cell? ⟨gb622, 1, none⟩ = some (.int .i64 t620) ∧ w'.cell? ⟨gb637, 0, none⟩ = some (.int .i64 t629) ∧ w'.cell? ⟨gb637, 1, none⟩ = some (.int .i64 t630) ∧ w'.cell? ⟨gb637, 2, none⟩ = some (.int .i64 t631) ∧ w'.cell? ⟨gb638, 0, none⟩ = some (.int .i64 t632) ∧ w'.cell? ⟨gb638, 1, none⟩ = some (.int .i64 t633) ∧ w'.cell? ⟨gb638, 2, none⟩ = some (.int .i64 t634) ∧ w'.cell? ⟨gb638, 3, none⟩ = some (.int .i64 t635)) (ds := []) #[false, false, false, false, false, false, false, false, false, false, false, false, false, false, false, false, false, false, false, false, false, false, false, false, false, false, false, false, false, false, false, false, false, false, false] (by kernel_rfl) rfl rfl ⟨(blk_cell BK622.out 0).trans rfl, (blk_cell BK622.out 1).trans rfl, (blk_cell BK637.out 0).trans rfl, (blk_cell BK637.out 1).trans rfl, (blk_cell BK637.out 2).trans rfl, (blk_cell BK638.out 0).trans rfl, (blk_cell BK638.out 1).trans rfl, (blk_cell BK638.out 2).trans rfl, (blk_cell BK638.out 3).trans rfl⟩ (fun hHeld => ?_); refine with_tabW torchonlaw06_awake.tab11 torchonlaw06_awake.bits11 (fun HT_ HW_ => ?_)
                      generalize wc.drew = w77 at HO_8 BK582 BK622 BK637 BK638 HB hHeld ⊢
                      refine pz 0 90 HT_ ?_
                      refine pz 1 91 HT_ ?_
                      refine pz 2 92 HT_ ?_
                      refine pz 3 93 HT_ ?_
                      refine pz 4 94 HT_ ?_
                      refine pz 5 95 HT_ ?_
                      refine pz 6 96 HT_ ?_
                      refine pz 7 97 HT_ ?_
                      refine pz 8 98 HT_ ?_
                      refine pz 9 99 HT_ ?_
                      refine pz 10 100 HT_ ?_
                      refine pz 11 101 HT_ ?_
                      refine pz 12 102 HT_ ?_
                      refine pz 13 103 HT_ ?_
                      refine pz 14 104 HT_ ?_
                      refine pz 15 105 HT_ ?_
                      refine tz 16 106 HT_ HW_ hHeld ?_
                      refine one_ (i := 17) (N := some 107) #[true, true, true, true, true, true, true, true, true, true, true, true, true, true, true, true, true, true, false, false, false, false, false, false, false, false, false, false, false, false, false, false, false, false, false] rfl rfl (one_of HT_.out (by kernel_rfl)) (by decide) (fun K hK => ?_)
                      refine gs _ Try.func19 (torchonlaw06_pt.calls 1 5 t639 t640 _ A72.out) ?_
                      rintro e w79 ⟨rfl, hb⟩
                      refine ⟨_, rfl, ?_⟩
                      have n0_ := Aside0.mk (Kd.R_below (by (with_reducible repeat (first | apply Kd.R_alloc | apply Kd.R_drewN | apply Kd.R_drew)); exact HO_8.out) hb)
                      have n1_ := bb BK582 hb
                      have n2_ := bb BK622 hb
                      have n3_ := bb BK637 hb
                      have n4_ := bb BK638 hb
                      have n5_ := bst HB hb
                      clear HO_8
                      clear BK582
                      clear BK622
                      clear BK637
                      clear BK638
                      clear HB
                      have HO_8 := n0_
                      have BK582 := n1_
                      have BK622 := n2_
                      have BK637 := n3_
                      have BK638 := n4_
                      have HB := n5_
                      clear n0_ n1_ n2_ n3_ n4_ n5_
                      (try clear hb)
                      (try clear hb2)
                      (try clear hk)
                      (try clear hi)
                      refine hK.out _ _ ⟨(blk_cell BK622.out 0).trans rfl, (blk_cell BK622.out 1).trans rfl, (blk_cell BK637.out 0).trans rfl, (blk_cell BK637.out 1).trans rfl, (blk_cell BK637.out 2).trans rfl, (blk_cell BK638.out 0).trans rfl, (blk_cell BK638.out 1).trans rfl, (blk_cell BK638.out 2).trans rfl, (blk_cell BK638.out 3).trans rfl⟩ (fun hHeld => ?_)
                      clear hK K
                      refine norm_ (a' := ?_) ?_ ?_
                      rotate_left
                      · show Act.put _ (some 107) _ = _
                        simp only [Act.put, List.setIfInBounds_toArray, List.set_cons_zero, List.set_cons_succ, i64_w, i32_w]
                        rfl
                      refine pz 18 108 HT_ ?_
                      refine pz 19 109 HT_ ?_
                      refine pz 20 110 HT_ ?_
                      refine pz 21 111 HT_ ?_
                      refine pz 22 112 HT_ ?_
                      refine pz 23 113 HT_ ?_
                      refine pz 24 114 HT_ ?_
                      refine pz 26 116 HT_ ?_
                      refine tz 25 115 HT_ HW_ hHeld ?_
                      refine pz 27 117 HT_ ?_
                      refine pz 28 118 HT_ ?_
                      refine pz 29 119 HT_ ?_
                      refine tz 30 120 HT_ HW_ hHeld ?_
                      refine one_ (i := 31) (N := some 121) #[true, true, true, true, true, true, true, true, true, true, true, true, true, true, true, true, true, true, true, true, true, true, true, true, true, true, true, true, true, true, true, true, false, false, false] rfl rfl (one_of HT_.out (by kernel_rfl)) (by decide) (fun K hK => ?_)
                      refine gs _ Try.func17 (torchonlaw06_mat.calls (-3) (-1) 2 1 t641 t642 t643 t644 _ A76.out) ?_
                      rintro e w80 ⟨rfl, hb⟩
                      refine ⟨_, rfl, ?_⟩
                      have n0_ := Aside0.mk (Kd.R_below (by (with_reducible repeat (first | apply Kd.R_alloc | apply Kd.R_drewN | apply Kd.R_drew)); exact HO_8.out) hb)
                      have n1_ := bb BK582 hb
                      have n2_ := bb BK622 hb
                      have n3_ := bb BK637 hb
                      have n4_ := bb BK638 hb
                      have n5_ := bst HB hb
                      clear HO_8
                      clear BK582
                      clear BK622
                      clear BK637
                      clear BK638
                      clear HB
                      have HO_8 := n0_
                      have BK582 := n1_
                      have BK622 := n2_
                      have BK637 := n3_
                      have BK638 := n4_
                      have HB := n5_
                      clear n0_ n1_ n2_ n3_ n4_ n5_
                      (try clear hb)
                      (try clear hb2)
                      (try clear hk)
                      (try clear hi)
                      refine hK.out _ _ ⟨(blk_cell BK622.out 0).trans rfl, (blk_cell BK622.out 1).trans rfl, (blk_cell BK637.out 0).trans rfl, (blk_cell BK637.out 1).trans rfl, (blk_cell BK637.out 2).trans rfl, (blk_cell BK638.out 0).trans rfl, (blk_cell BK638.out 1).trans rfl, (blk_cell BK638.out 2).trans rfl, (blk_cell BK638.out 3).trans rfl⟩ (fun hHeld => ?_)
                      clear hK K
                      refine norm_ (a' := ?_) ?_ ?_
                      rotate_left
                      · show Act.put _ (some 121) _ = _
                        simp only [Act.put, List.setIfInBounds_toArray, List.set_cons_zero, List.set_cons_succ, i64_w, i32_w]
                        rfl
                      refine pz 32 122 HT_ ?_
                      refine pz 33 123 HT_ ?_
                      refine pz 34 0 HT_ ?_
                      refine done_ (done_of HT_.out (by kernel_rfl)) ?_
                      try go_wp2
                      go_ret
                      exact rt HB
                    · rw [if_neg c75] at H
                      have c75b0 : (t629 == 1 && (t630 == 0 && (t631 == 1))) = false := by simpa using c75
                      (try (have c75b1 : decide (t629 = 1 && (t630 == 0 && (t631 == 1))) = false := by simpa using c75))
                      (try (have c75b2 : (t629 == 1 && (t630 == 0 && (t631 == 1))) = false := by simpa using c75))
                      (try (have c75b3 : ¬ (t629 = 1 && (t630 == 0 && (t631 == 1))) := by simpa using c75))
                      clear c75
                      exact absurd H (by simp)
                  · rw [if_neg c74] at H
                    have c74b0 : (t627 == 6) = false := beq_eq_false_iff_ne.mpr c74
                    have c74b1 : (t627 != 6) = true := bne_iff_ne.mpr c74
                    exact absurd H (by simp)
                · rw [if_neg c73] at H
                  have c73b0 : (t619 == t639 && (t620 == t640)) = false := by simpa using c73
                  (try (have c73b1 : decide (t619 = t639 && (t620 == t640)) = false := by simpa using c73))
                  (try (have c73b2 : (t619 == t639 && (t620 == t640)) = false := by simpa using c73))
                  (try (have c73b3 : ¬ (t619 = t639 && (t620 == t640)) := by simpa using c73))
                  clear c73
                  exact absurd H (by simp)
              · rw [if_neg c71] at H
                have c71b0 : ((t607.length : Int) == 12) = false := beq_eq_false_iff_ne.mpr c71
                have c71b1 : ((t607.length : Int) != 12) = true := bne_iff_ne.mpr c71
                exact absurd H (by simp)
            · rw [if_neg c70] at H
              have c70b0 : (t605 == 1) = false := beq_eq_false_iff_ne.mpr c70
              have c70b1 : (t605 != 1) = true := bne_iff_ne.mpr c70
              exact absurd H (by simp)
          · rw [if_neg c69] at H
            have c69b0 : (t595 == 1) = false := beq_eq_false_iff_ne.mpr c69
            have c69b1 : (t595 != 1) = true := bne_iff_ne.mpr c69
            exact absurd H (by simp)
        · rw [if_neg c68] at H
          have c68b0 : (t587 == 6) = false := beq_eq_false_iff_ne.mpr c68
          have c68b1 : (t587 != 6) = true := bne_iff_ne.mpr c68
          exact absurd H (by simp)
end
section
/-! ### torchonref06_from: function 47 -/
def torchonref06_from.f (a0 : Int) (a1 : Int) (a2 : Int) : Option (Bool) := if a0 ≥ a1 then (some (decide (a0 ≤ a2))) else (some false)
set_option maxHeartbeats 8000000 in
set_option maxRecDepth 100000 in
theorem torchonref06_from.calls (a0 : Int) (a1 : Int) (a2 : Int) (r : Bool) (w : World) (h : torchonref06_from.f a0 a1 a2 = some r) :
    Calls Try.prog 47 #[.int .i64 a0, .int .i64 a1, .int .i64 a2] w fun e w' => e = .returned (.bool r) ∧ Drawn0 w w' := by
  have H : (if a0 ≥ a1 then (some (decide (a0 ≤ a2))) else (some false)) = some r := h
  clear h
  by_cases c4 : a0 ≥ a1
  · rw [if_pos c4] at H
    have c4b0 : decide (a1 ≤ a0) = true := decide_eq_true c4
    clear c4
    obtain rfl := Option.some.inj H
    go_enter Try.func47, Try.ntmps47
    go_wp2
    go_ret
    exact ⟨by first | rfl | (simp; done) | (simp [*]; done), by repeat (first | exact Drawn0.refl _ | apply Drawn0.step)⟩
  · rw [if_neg c4] at H
    have c4b0 : decide (a1 ≤ a0) = false := decide_eq_false c4
    clear c4
    obtain rfl := Option.some.inj H
    go_enter Try.func47, Try.ntmps47
    go_wp2
    go_ret
    exact ⟨by first | rfl | (simp; done) | (simp [*]; done), by repeat (first | exact Drawn0.refl _ | apply Drawn0.step)⟩
end
section
/-! ### torchonref06_Point: function 65 -/
def torchonref06_Point.f (a0_0 : Int) (a0_1 : Int) : Option (Bool) := (torchonref06_from.f a0_0 (-1000000) 1000000).bind fun t848 => (if t848 = true then ((torchonref06_from.f a0_1 (-1000000) 1000000).bind fun t849 => (some t849)) else (some false))
set_option maxHeartbeats 8000000 in
set_option maxRecDepth 100000 in
theorem torchonref06_Point.calls (a0_0 : Int) (a0_1 : Int) (r : Bool) (w : World) (h : torchonref06_Point.f a0_0 a0_1 = some r) :
    Calls Try.prog 65 #[.agg #[.int .i64 a0_0, .int .i64 a0_1]] w fun e w' => e = .returned (.bool r) ∧ Below w.heap.size w w' := by
  have hu37 := Try.underlying37
  have HB := Aside0.mk (Below.refl w.heap.size w)
  have H : ((torchonref06_from.f a0_0 (-1000000) 1000000).bind fun t848 => (if t848 = true then ((torchonref06_from.f a0_1 (-1000000) 1000000).bind fun t849 => (some t849)) else (some false))) = some r := h
  clear h
  obtain ⟨t848, A2, H⟩ := ob H
  by_cases c3 : t848 = true
  · subst c3
    have H1 : ((torchonref06_from.f a0_1 (-1000000) 1000000).bind fun t849 => (some t849)) = some r := by rw [if_pos rfl] at H; exact H
    clear H
    have H := H1
    clear H1
    obtain ⟨t849, A4, H⟩ := ob H
    obtain rfl := Option.some.inj H
    go_enter Try.func65, Try.ntmps65
    go_wp2_with (first | ((with_reducible refine gate_dst (N := 1) rfl ?_); refine bx 1 #[.int .i64 a0_0, .int .i64 a0_1] 37 fun gb847 hg w5 BK847 hb => ?_; have GW847 := gw hg HB; have GE847 := gw hg HB; replace HB := bst HB hb; clear hb hg; have ⟨hcz6_0, hcz6_1, hfz6_0, hfz6_1⟩ := cf2 BK847) | ((with_reducible refine gate_callee (f := 47) rfl ?_); refine goesL_ (some 5) rfl rfl Try.func47 (by kernel_rfl) rfl #[.int .i64 a0_0, .int .i64 (-1000000), .int .i64 1000000] rfl am ?_; (with_reducible refine (torchonref06_from.calls a0_0 (-1000000) 1000000 true _ A2.out).mono ?_); rintro e w' ⟨rfl, ⟨nd, rfl⟩⟩; refine ⟨_, rfl, ?_⟩) | (go_at_call 47; (with_reducible refine (torchonref06_from.calls a0_1 (-1000000) 1000000 t849 _ A4.out).mono ?_); rintro e w' ⟨rfl, ⟨nd, rfl⟩⟩))
    go_ret
    exact rt HB
  · replace c3 := Bool.eq_false_iff.mpr c3
    subst c3
    have H1 : (some false) = some r := by rw [if_neg (show ¬ (false = true) by decide)] at H; exact H
    clear H
    have H := H1
    clear H1
    obtain rfl := Option.some.inj H
    go_enter Try.func65, Try.ntmps65
    go_wp2_with (first | ((with_reducible refine gate_dst (N := 1) rfl ?_); refine bx 1 #[.int .i64 a0_0, .int .i64 a0_1] 37 fun gb847 hg w7 BK847 hb => ?_; have GW847 := gw hg HB; have GE847 := gw hg HB; replace HB := bst HB hb; clear hb hg; have ⟨hcz8_0, hcz8_1, hfz8_0, hfz8_1⟩ := cf2 BK847) | ((with_reducible refine gate_callee (f := 47) rfl ?_); refine goesL_ (some 5) rfl rfl Try.func47 (by kernel_rfl) rfl #[.int .i64 a0_0, .int .i64 (-1000000), .int .i64 1000000] rfl am ?_; (with_reducible refine (torchonref06_from.calls a0_0 (-1000000) 1000000 false _ A2.out).mono ?_); rintro e w' ⟨rfl, ⟨nd, rfl⟩⟩; refine ⟨_, rfl, ?_⟩))
    go_ret
    exact rt HB
end
section
/-! ### torchonref06_Matrix: function 15 -/
def torchonref06_Matrix.f (a0_0 : Int) (a0_1 : Int) (a0_2 : Int) (a0_3 : Int) : Option (Bool) := (torchonref06_from.f a0_0 (-10000) 10000).bind fun t668 => (if t668 = true then ((torchonref06_from.f a0_1 (-10000) 10000).bind fun t669 => (if t669 = true then ((torchonref06_from.f a0_2 (-10000) 10000).bind fun t670 => (if t670 = true then ((torchonref06_from.f a0_3 (-10000) 10000).bind fun t671 => (some t671)) else (some false))) else (some false))) else (some false))
set_option maxHeartbeats 8000000 in
set_option maxRecDepth 100000 in
theorem torchonref06_Matrix.calls (a0_0 : Int) (a0_1 : Int) (a0_2 : Int) (a0_3 : Int) (r : Bool) (w : World) (h : torchonref06_Matrix.f a0_0 a0_1 a0_2 a0_3 = some r) :
    Calls Try.prog 15 #[.agg #[.int .i64 a0_0, .int .i64 a0_1, .int .i64 a0_2, .int .i64 a0_3]] w fun e w' => e = .returned (.bool r) ∧ Below w.heap.size w w' := by
  have hu25 := Try.underlying25
  have HB := Aside0.mk (Below.refl w.heap.size w)
  have H : ((torchonref06_from.f a0_0 (-10000) 10000).bind fun t668 => (if t668 = true then ((torchonref06_from.f a0_1 (-10000) 10000).bind fun t669 => (if t669 = true then ((torchonref06_from.f a0_2 (-10000) 10000).bind fun t670 => (if t670 = true then ((torchonref06_from.f a0_3 (-10000) 10000).bind fun t671 => (some t671)) else (some false))) else (some false))) else (some false))) = some r := h
  clear h
  obtain ⟨t668, A2, H⟩ := ob H
  by_cases c3 : t668 = true
  · subst c3
    have H1 : ((torchonref06_from.f a0_1 (-10000) 10000).bind fun t669 => (if t669 = true then ((torchonref06_from.f a0_2 (-10000) 10000).bind fun t670 => (if t670 = true then ((torchonref06_from.f a0_3 (-10000) 10000).bind fun t671 => (some t671)) else (some false))) else (some false))) = some r := by rw [if_pos rfl] at H; exact H
    clear H
    have H := H1
    clear H1
    obtain ⟨t669, A4, H⟩ := ob H
    by_cases c5 : t669 = true
    · subst c5
      have H1 : ((torchonref06_from.f a0_2 (-10000) 10000).bind fun t670 => (if t670 = true then ((torchonref06_from.f a0_3 (-10000) 10000).bind fun t671 => (some t671)) else (some false))) = some r := by rw [if_pos rfl] at H; exact H
      clear H
      have H := H1
      clear H1
      obtain ⟨t670, A6, H⟩ := ob H
      by_cases c7 : t670 = true
      · subst c7
        have H1 : ((torchonref06_from.f a0_3 (-10000) 10000).bind fun t671 => (some t671)) = some r := by rw [if_pos rfl] at H; exact H
        clear H
        have H := H1
        clear H1
        obtain ⟨t671, A8, H⟩ := ob H
        obtain rfl := Option.some.inj H
        go_enter Try.func15, Try.ntmps15
        go_wp2_with (first | ((with_reducible refine gate_dst (N := 1) rfl ?_); refine bx 1 #[.int .i64 a0_0, .int .i64 a0_1, .int .i64 a0_2, .int .i64 a0_3] 25 fun gb667 hg w9 BK667 hb => ?_; have GW667 := gw hg HB; have GE667 := gw hg HB; replace HB := bst HB hb; clear hb hg; have ⟨hcz10_0, hcz10_1, hcz10_2, hcz10_3, hfz10_0, hfz10_1, hfz10_2, hfz10_3⟩ := cf4 BK667) | ((with_reducible refine gate_callee (f := 47) rfl ?_); refine goesL_ (some 5) rfl rfl Try.func47 (by kernel_rfl) rfl #[.int .i64 a0_0, .int .i64 (-10000), .int .i64 10000] rfl am ?_; (with_reducible refine (torchonref06_from.calls a0_0 (-10000) 10000 true _ A2.out).mono ?_); rintro e w' ⟨rfl, ⟨nd, rfl⟩⟩; refine ⟨_, rfl, ?_⟩) | (go_at_call 47; (with_reducible refine (torchonref06_from.calls a0_1 (-10000) 10000 true _ A4.out).mono ?_); rintro e w' ⟨rfl, ⟨nd, rfl⟩⟩) | (go_at_call 47; (with_reducible refine (torchonref06_from.calls a0_2 (-10000) 10000 true _ A6.out).mono ?_); rintro e w' ⟨rfl, ⟨nd, rfl⟩⟩) | (go_at_call 47; (with_reducible refine (torchonref06_from.calls a0_3 (-10000) 10000 t671 _ A8.out).mono ?_); rintro e w' ⟨rfl, ⟨nd, rfl⟩⟩))
        go_ret
        exact rt HB
      · replace c7 := Bool.eq_false_iff.mpr c7
        subst c7
        have H1 : (some false) = some r := by rw [if_neg (show ¬ (false = true) by decide)] at H; exact H
        clear H
        have H := H1
        clear H1
        obtain rfl := Option.some.inj H
        go_enter Try.func15, Try.ntmps15
        go_wp2_with (first | ((with_reducible refine gate_dst (N := 1) rfl ?_); refine bx 1 #[.int .i64 a0_0, .int .i64 a0_1, .int .i64 a0_2, .int .i64 a0_3] 25 fun gb667 hg w11 BK667 hb => ?_; have GW667 := gw hg HB; have GE667 := gw hg HB; replace HB := bst HB hb; clear hb hg; have ⟨hcz12_0, hcz12_1, hcz12_2, hcz12_3, hfz12_0, hfz12_1, hfz12_2, hfz12_3⟩ := cf4 BK667) | ((with_reducible refine gate_callee (f := 47) rfl ?_); refine goesL_ (some 5) rfl rfl Try.func47 (by kernel_rfl) rfl #[.int .i64 a0_0, .int .i64 (-10000), .int .i64 10000] rfl am ?_; (with_reducible refine (torchonref06_from.calls a0_0 (-10000) 10000 true _ A2.out).mono ?_); rintro e w' ⟨rfl, ⟨nd, rfl⟩⟩; refine ⟨_, rfl, ?_⟩) | (go_at_call 47; (with_reducible refine (torchonref06_from.calls a0_1 (-10000) 10000 true _ A4.out).mono ?_); rintro e w' ⟨rfl, ⟨nd, rfl⟩⟩) | (go_at_call 47; (with_reducible refine (torchonref06_from.calls a0_2 (-10000) 10000 false _ A6.out).mono ?_); rintro e w' ⟨rfl, ⟨nd, rfl⟩⟩))
        go_ret
        exact rt HB
    · replace c5 := Bool.eq_false_iff.mpr c5
      subst c5
      have H1 : (some false) = some r := by rw [if_neg (show ¬ (false = true) by decide)] at H; exact H
      clear H
      have H := H1
      clear H1
      obtain rfl := Option.some.inj H
      go_enter Try.func15, Try.ntmps15
      go_wp2_with (first | ((with_reducible refine gate_dst (N := 1) rfl ?_); refine bx 1 #[.int .i64 a0_0, .int .i64 a0_1, .int .i64 a0_2, .int .i64 a0_3] 25 fun gb667 hg w13 BK667 hb => ?_; have GW667 := gw hg HB; have GE667 := gw hg HB; replace HB := bst HB hb; clear hb hg; have ⟨hcz14_0, hcz14_1, hcz14_2, hcz14_3, hfz14_0, hfz14_1, hfz14_2, hfz14_3⟩ := cf4 BK667) | ((with_reducible refine gate_callee (f := 47) rfl ?_); refine goesL_ (some 5) rfl rfl Try.func47 (by kernel_rfl) rfl #[.int .i64 a0_0, .int .i64 (-10000), .int .i64 10000] rfl am ?_; (with_reducible refine (torchonref06_from.calls a0_0 (-10000) 10000 true _ A2.out).mono ?_); rintro e w' ⟨rfl, ⟨nd, rfl⟩⟩; refine ⟨_, rfl, ?_⟩) | (go_at_call 47; (with_reducible refine (torchonref06_from.calls a0_1 (-10000) 10000 false _ A4.out).mono ?_); rintro e w' ⟨rfl, ⟨nd, rfl⟩⟩))
      go_ret
      exact rt HB
  · replace c3 := Bool.eq_false_iff.mpr c3
    subst c3
    have H1 : (some false) = some r := by rw [if_neg (show ¬ (false = true) by decide)] at H; exact H
    clear H
    have H := H1
    clear H1
    obtain rfl := Option.some.inj H
    go_enter Try.func15, Try.ntmps15
    go_wp2_with (first | ((with_reducible refine gate_dst (N := 1) rfl ?_); refine bx 1 #[.int .i64 a0_0, .int .i64 a0_1, .int .i64 a0_2, .int .i64 a0_3] 25 fun gb667 hg w15 BK667 hb => ?_; have GW667 := gw hg HB; have GE667 := gw hg HB; replace HB := bst HB hb; clear hb hg; have ⟨hcz16_0, hcz16_1, hcz16_2, hcz16_3, hfz16_0, hfz16_1, hfz16_2, hfz16_3⟩ := cf4 BK667) | ((with_reducible refine gate_callee (f := 47) rfl ?_); refine goesL_ (some 5) rfl rfl Try.func47 (by kernel_rfl) rfl #[.int .i64 a0_0, .int .i64 (-10000), .int .i64 10000] rfl am ?_; (with_reducible refine (torchonref06_from.calls a0_0 (-10000) 10000 false _ A2.out).mono ?_); rintro e w' ⟨rfl, ⟨nd, rfl⟩⟩; refine ⟨_, rfl, ?_⟩))
    go_ret
    exact rt HB
end
section
/-! ### torchonref06_move: function 64 -/
def torchonref06_move.f (a0_0 : Int) (a0_1 : Int) (a0_2 : Int) (a0_3 : Int) (a0_4 : Int) (a0_5 : Int) : Option (Bool) := (torchonref06_Matrix.f a0_0 a0_1 a0_2 a0_3).bind fun t851 => (if t851 = true then ((torchonref06_Point.f a0_4 a0_5).bind fun t852 => (some t852)) else (some false))
set_option maxHeartbeats 8000000 in
set_option maxRecDepth 100000 in
theorem torchonref06_move.calls (a0_0 : Int) (a0_1 : Int) (a0_2 : Int) (a0_3 : Int) (a0_4 : Int) (a0_5 : Int) (r : Bool) (w : World) (h : torchonref06_move.f a0_0 a0_1 a0_2 a0_3 a0_4 a0_5 = some r) :
    Calls Try.prog 64 #[.agg #[.int .i64 a0_0, .int .i64 a0_1, .int .i64 a0_2, .int .i64 a0_3, .int .i64 a0_4, .int .i64 a0_5]] w fun e w' => e = .returned (.bool r) ∧ Below w.heap.size w w' := by
  have hu55 := Try.underlying55
  have hu25 := Try.underlying25
  have hu37 := Try.underlying37
  have HB := Aside0.mk (Below.refl w.heap.size w)
  have H : ((torchonref06_Matrix.f a0_0 a0_1 a0_2 a0_3).bind fun t851 => (if t851 = true then ((torchonref06_Point.f a0_4 a0_5).bind fun t852 => (some t852)) else (some false))) = some r := h
  clear h
  obtain ⟨t851, A2, H⟩ := ob H
  by_cases c3 : t851 = true
  · subst c3
    have H1 : ((torchonref06_Point.f a0_4 a0_5).bind fun t852 => (some t852)) = some r := by rw [if_pos rfl] at H; exact H
    clear H
    have H := H1
    clear H1
    obtain ⟨t852, A4, H⟩ := ob H
    obtain rfl := Option.some.inj H
    go_enter Try.func64, Try.ntmps64
    go_wp2_with (first | ((with_reducible refine gate_dst (N := 1) rfl ?_); refine bx 1 #[.int .i64 a0_0, .int .i64 a0_1, .int .i64 a0_2, .int .i64 a0_3, .int .i64 a0_4, .int .i64 a0_5] 55 fun gb850 hg w5 BK850 hb => ?_; have GW850 := gw hg HB; have GE850 := gw hg HB; replace HB := bst HB hb; clear hb hg; have ⟨hcz6_0, hcz6_1, hcz6_2, hcz6_3, hcz6_4, hcz6_5, hfz6_0, hfz6_1, hfz6_2, hfz6_3, hfz6_4, hfz6_5⟩ := cf6 BK850) | ((with_reducible refine gate_callee (f := 15) rfl ?_); refine gl 5 Try.func15 (torchonref06_Matrix.calls a0_0 a0_1 a0_2 a0_3 true _ A2.out) ?_; rintro e w7 ⟨rfl, hb⟩; refine ⟨_, rfl, ?_⟩; replace BK850 := bb BK850 hb; replace HB := bst HB hb; clear hb; have ⟨hcz8_0, hcz8_1, hcz8_2, hcz8_3, hcz8_4, hcz8_5, hfz8_0, hfz8_1, hfz8_2, hfz8_3, hfz8_4, hfz8_5⟩ := cf6 BK850) | (go_at_call 65; (with_reducible refine (torchonref06_Point.calls a0_4 a0_5 t852 _ A4.out).mono ?_); rintro e w9 ⟨rfl, hb⟩; replace BK850 := bb BK850 hb; replace HB := bst HB hb; clear hb))
    go_ret
    exact rt HB
  · replace c3 := Bool.eq_false_iff.mpr c3
    subst c3
    have H1 : (some false) = some r := by rw [if_neg (show ¬ (false = true) by decide)] at H; exact H
    clear H
    have H := H1
    clear H1
    obtain rfl := Option.some.inj H
    go_enter Try.func64, Try.ntmps64
    go_wp2_with (first | ((with_reducible refine gate_dst (N := 1) rfl ?_); refine bx 1 #[.int .i64 a0_0, .int .i64 a0_1, .int .i64 a0_2, .int .i64 a0_3, .int .i64 a0_4, .int .i64 a0_5] 55 fun gb850 hg w10 BK850 hb => ?_; have GW850 := gw hg HB; have GE850 := gw hg HB; replace HB := bst HB hb; clear hb hg; have ⟨hcz11_0, hcz11_1, hcz11_2, hcz11_3, hcz11_4, hcz11_5, hfz11_0, hfz11_1, hfz11_2, hfz11_3, hfz11_4, hfz11_5⟩ := cf6 BK850) | ((with_reducible refine gate_callee (f := 15) rfl ?_); refine gl 5 Try.func15 (torchonref06_Matrix.calls a0_0 a0_1 a0_2 a0_3 false _ A2.out) ?_; rintro e w12 ⟨rfl, hb⟩; refine ⟨_, rfl, ?_⟩; replace BK850 := bb BK850 hb; replace HB := bst HB hb; clear hb))
    go_ret
    exact rt HB
end
section
/-! ### torchonref06_image: function 69 -/
def torchonref06_image.f (a0_0 : Int) (a0_1 : Int) (a0_2 : Int) (a0_3 : Int) (a1_0 : Int) (a1_1 : Int) : Option (Int × Int) := (some (wrap64 (a0_0 * a1_0))).bind fun z806 => ((some (wrap64 (a0_1 * a1_1))).bind fun z807 => ((some (wrap64 (z806 + z807))).bind fun z808 => ((some (wrap64 (a0_2 * a1_0))).bind fun z809 => ((some (wrap64 (a0_3 * a1_1))).bind fun z810 => ((some (wrap64 (z809 + z810))).bind fun z811 => (some (z808, z811)))))))
set_option maxHeartbeats 8000000 in
set_option maxRecDepth 100000 in
theorem torchonref06_image.calls (a0_0 : Int) (a0_1 : Int) (a0_2 : Int) (a0_3 : Int) (a1_0 : Int) (a1_1 : Int) (r1 : Int) (r2 : Int) (w : World) (h : torchonref06_image.f a0_0 a0_1 a0_2 a0_3 a1_0 a1_1 = some (r1, r2)) :
    Calls Try.prog 69 #[.agg #[.int .i64 a0_0, .int .i64 a0_1, .int .i64 a0_2, .int .i64 a0_3], .agg #[.int .i64 a1_0, .int .i64 a1_1]] w fun e w' => e = .returned (.agg #[.int .i64 r1, .int .i64 r2]) ∧ Below w.heap.size w w' := by
  have hu25 := Try.underlying25
  have hu37 := Try.underlying37
  have HB := Aside0.mk (Below.refl w.heap.size w)
  have H : ((some (wrap64 (a0_0 * a1_0))).bind fun z806 => ((some (wrap64 (a0_1 * a1_1))).bind fun z807 => ((some (wrap64 (z806 + z807))).bind fun z808 => ((some (wrap64 (a0_2 * a1_0))).bind fun z809 => ((some (wrap64 (a0_3 * a1_1))).bind fun z810 => ((some (wrap64 (z809 + z810))).bind fun z811 => (some (z808, z811)))))))) = some (r1, r2) := h
  clear h
  obtain ⟨z806, E30, H⟩ := oc H
  have E3w : (IntKind.i64.wrap (a0_0 * a1_0)) = z806 := (i64_w _).trans E30
  obtain ⟨z807, E40, H⟩ := oc H
  have E4w : (IntKind.i64.wrap (a0_1 * a1_1)) = z807 := (i64_w _).trans E40
  obtain ⟨z808, E50, H⟩ := oc H
  have E5w : (IntKind.i64.wrap (z806 + z807)) = z808 := (i64_w _).trans E50
  obtain ⟨z809, E60, H⟩ := oc H
  have E6w : (IntKind.i64.wrap (a0_2 * a1_0)) = z809 := (i64_w _).trans E60
  obtain ⟨z810, E70, H⟩ := oc H
  have E7w : (IntKind.i64.wrap (a0_3 * a1_1)) = z810 := (i64_w _).trans E70
  obtain ⟨z811, E80, H⟩ := oc H
  have E8w : (IntKind.i64.wrap (z809 + z810)) = z811 := (i64_w _).trans E80
  simp only [Option.some.injEq, Prod.mk.injEq] at H
  obtain ⟨rfl, rfl⟩ := H
  go_enter Try.func69, Try.ntmps69
  go_wp2_with (first | ((with_reducible refine gate_dst (N := 2) rfl ?_); refine bx 2 #[.int .i64 a0_0, .int .i64 a0_1, .int .i64 a0_2, .int .i64 a0_3] 25 fun gb803 hg w9 BK803 hb => ?_; have GW803 := gw hg HB; have GE803 := gw hg HB; replace HB := bst HB hb; clear hb hg) | ((with_reducible refine gate_dst (N := 3) rfl ?_); refine bx 3 #[.int .i64 a1_0, .int .i64 a1_1] 37 fun gb804 hg w10 BK804 hb => ?_; have GW804 := gw hg HB; have GE804 := gw hg HB; have NB803_804 := nlt hg BK803; have NB804_803 := ngt hg BK803; replace BK803 := bb BK803 hb; replace HB := bst HB hb; clear hb hg) | ((with_reducible refine gate_dst (N := 4) rfl ?_); refine bx 4 #[.int .i64 0, .int .i64 0] 37 fun gb805 hg w11 BK805 hb => ?_; have GW805 := gw hg HB; have GE805 := gw hg HB; have NB803_805 := nlt hg BK803; have NB805_803 := ngt hg BK803; have NB804_805 := nlt hg BK804; have NB805_804 := ngt hg BK804; replace BK803 := bb BK803 hb; replace BK804 := bb BK804 hb; replace HB := bst HB hb; clear hb hg; have hnb12 := NB803_804.out; have hnc12 := NB804_803.out; have hnb13 := NB803_805.out; have hnc13 := NB805_803.out; have ⟨hcz14_0, hcz14_1, hcz14_2, hcz14_3, hfz14_0, hfz14_1, hfz14_2, hfz14_3⟩ := cf4 BK803; have hnb15 := NB804_805.out; have hnc15 := NB805_804.out; have ⟨hcz16_0, hcz16_1, hfz16_0, hfz16_1⟩ := cf2 BK804; have ⟨hcz17_0, hcz17_1, hfz17_0, hfz17_1⟩ := cf2 BK805))
  refine bodyPost_ret (results_cell_row rfl _ _ gb805 37 #[.int .i64 z808, .int .i64 z811] (0, 0) _ rfl (by (with_reducible repeat (first | refine blk_drewN ?_ _ | refine blk_drew ?_ | refine blk_alloc ?_ _)); refine blk_put (cs := #[.int .i64 z808, .int .i64 0]) ?_ 1 _ rfl; (with_reducible repeat (first | refine blk_drewN ?_ _ | refine blk_drew ?_ | refine blk_alloc ?_ _)); refine blk_put (cs := #[.int .i64 0, .int .i64 0]) ?_ 0 _ rfl; (with_reducible repeat (first | refine blk_drewN ?_ _ | refine blk_drew ?_ | refine blk_alloc ?_ _)); exact BK805.out) Try.underlying37 rfl (by kernel_rfl)) rfl ?_
  exact rt HB
end
section
/-! ### torchonref06_apply: function 66 -/
def torchonref06_apply.f (a0_0 : Int) (a0_1 : Int) (a0_2 : Int) (a0_3 : Int) (a0_4 : Int) (a0_5 : Int) (a1_0 : Int) (a1_1 : Int) : Option (Int × Int) := (torchonref06_image.f a0_0 a0_1 a0_2 a0_3 a1_0 a1_1).bind fun bt856 => ((some (wrap64 (bt856.1 + a0_4))).bind fun z859 => ((some (wrap64 (bt856.2 + a0_5))).bind fun z860 => (some (z859, z860))))
set_option maxHeartbeats 8000000 in
set_option maxRecDepth 100000 in
theorem torchonref06_apply.calls (a0_0 : Int) (a0_1 : Int) (a0_2 : Int) (a0_3 : Int) (a0_4 : Int) (a0_5 : Int) (a1_0 : Int) (a1_1 : Int) (r1 : Int) (r2 : Int) (w : World) (h : torchonref06_apply.f a0_0 a0_1 a0_2 a0_3 a0_4 a0_5 a1_0 a1_1 = some (r1, r2)) :
    Calls Try.prog 66 #[.agg #[.int .i64 a0_0, .int .i64 a0_1, .int .i64 a0_2, .int .i64 a0_3, .int .i64 a0_4, .int .i64 a0_5], .agg #[.int .i64 a1_0, .int .i64 a1_1]] w fun e w' => e = .returned (.agg #[.int .i64 r1, .int .i64 r2]) ∧ Below w.heap.size w w' := by
  have hu55 := Try.underlying55
  have hu37 := Try.underlying37
  have hu25 := Try.underlying25
  have HB := Aside0.mk (Below.refl w.heap.size w)
  have H : ((torchonref06_image.f a0_0 a0_1 a0_2 a0_3 a1_0 a1_1).bind fun bt856 => ((some (wrap64 (bt856.1 + a0_4))).bind fun z859 => ((some (wrap64 (bt856.2 + a0_5))).bind fun z860 => (some (z859, z860))))) = some (r1, r2) := h
  clear h
  obtain ⟨⟨t856, t857⟩, A3, H⟩ := ob H
  obtain ⟨z859, E40, H⟩ := oc H
  have E4w : (IntKind.i64.wrap (t856 + a0_4)) = z859 := (i64_w _).trans E40
  obtain ⟨z860, E50, H⟩ := oc H
  have E5w : (IntKind.i64.wrap (t857 + a0_5)) = z860 := (i64_w _).trans E50
  simp only [Option.some.injEq, Prod.mk.injEq] at H
  obtain ⟨rfl, rfl⟩ := H
  go_enter Try.func66, Try.ntmps66
  go_wp2_with (first | ((with_reducible refine gate_dst (N := 2) rfl ?_); refine bx 2 #[.int .i64 a0_0, .int .i64 a0_1, .int .i64 a0_2, .int .i64 a0_3, .int .i64 a0_4, .int .i64 a0_5] 55 fun gb853 hg w6 BK853 hb => ?_; have GW853 := gw hg HB; have GE853 := gw hg HB; replace HB := bst HB hb; clear hb hg) | ((with_reducible refine gate_dst (N := 3) rfl ?_); refine bx 3 #[.int .i64 a1_0, .int .i64 a1_1] 37 fun gb854 hg w7 BK854 hb => ?_; have GW854 := gw hg HB; have GE854 := gw hg HB; have NB853_854 := nlt hg BK853; have NB854_853 := ngt hg BK853; replace BK853 := bb BK853 hb; replace HB := bst HB hb; clear hb hg) | ((with_reducible refine gate_dst (N := 4) rfl ?_); refine bx 4 #[.int .i64 0, .int .i64 0] 37 fun gb855 hg w8 BK855 hb => ?_; have GW855 := gw hg HB; have GE855 := gw hg HB; have NB853_855 := nlt hg BK853; have NB855_853 := ngt hg BK853; have NB854_855 := nlt hg BK854; have NB855_854 := ngt hg BK854; replace BK853 := bb BK853 hb; replace BK854 := bb BK854 hb; replace HB := bst HB hb; clear hb hg; have hnb9 := NB853_854.out; have hnc9 := NB854_853.out; have hnb10 := NB853_855.out; have hnc10 := NB855_853.out; have ⟨hcz11_0, hcz11_1, hcz11_2, hcz11_3, hcz11_4, hcz11_5, hfz11_0, hfz11_1, hfz11_2, hfz11_3, hfz11_4, hfz11_5⟩ := cf6 BK853; have hnb12 := NB854_855.out; have hnc12 := NB855_854.out; have ⟨hcz13_0, hcz13_1, hfz13_0, hfz13_1⟩ := cf2 BK854) | ((with_reducible refine gate_callee (f := 69) rfl ?_); refine gl 9 Try.func69 (torchonref06_image.calls a0_0 a0_1 a0_2 a0_3 a1_0 a1_1 t856 t857 _ A3.out) ?_; rintro e w14 ⟨rfl, hb⟩; refine ⟨_, rfl, ?_⟩; replace BK853 := bb BK853 hb; replace BK854 := bb BK854 hb; replace BK855 := bb BK855 hb; replace HB := bst HB hb; clear hb) | ((with_reducible refine gate_dst (N := 5) rfl ?_); refine bx 5 #[.int .i64 0, .int .i64 0] 37 fun gb858 hg w15 BK858 hb => ?_; have GW858 := gw hg HB; have GE858 := gw hg HB; have NB853_858 := nlt hg BK853; have NB858_853 := ngt hg BK853; have NB854_858 := nlt hg BK854; have NB858_854 := ngt hg BK854; have NB855_858 := nlt hg BK855; have NB858_855 := ngt hg BK855; replace BK853 := bb BK853 hb; replace BK854 := bb BK854 hb; replace BK855 := bb BK855 hb; replace HB := bst HB hb; clear hb hg; have hnb16 := NB858_853.out; have hnc16 := NB853_858.out; have hnb17 := NB858_854.out; have hnc17 := NB854_858.out; have hnb18 := NB858_855.out; have hnc18 := NB855_858.out; have ⟨hcz19_0, hcz19_1, hfz19_0, hfz19_1⟩ := cf2 BK858; have ⟨hcz20_0, hcz20_1, hcz20_2, hcz20_3, hcz20_4, hcz20_5, hfz20_0, hfz20_1, hfz20_2, hfz20_3, hfz20_4, hfz20_5⟩ := cf6 BK853; have ⟨hcz21_0, hcz21_1, hfz21_0, hfz21_1⟩ := cf2 BK855) | ((with_reducible refine gate_store (t := 37) (p := 4) rfl ?_); refine sx 37 4 (((((w15.setCell ⟨gb858, 0, none⟩ (.int .i64 t856)).setCell ⟨gb858, 1, none⟩ (.int .i64 t857)).setCell ⟨gb855, 0, none⟩ (.int .i64 z859)).setCell ⟨gb855, 1, none⟩ (.int .i64 z860))) fun w22 hw => ?_; have n0_ := fw hw BK853; have n1_ := fw hw BK854; have n2_ : Aside0 (w22.heap[gb855]? = some (.cells #[.int .i64 z859, .int .i64 z860] 37 (0, 0))) := ⟨(by rw [hw]; exact (by (with_reducible repeat (first | refine blk_drewN ?_ _ | refine blk_drew ?_ | refine blk_alloc ?_ _)); refine blk_put (cs := #[.int .i64 z859, .int .i64 0]) ?_ 1 _ rfl; (with_reducible repeat (first | refine blk_drewN ?_ _ | refine blk_drew ?_ | refine blk_alloc ?_ _)); refine blk_put (cs := #[.int .i64 0, .int .i64 0]) ?_ 0 _ rfl; (with_reducible repeat (first | refine blk_drewN ?_ _ | refine blk_drew ?_ | refine blk_alloc ?_ _)); refine blk_far ?_ NB855_858.out _; (with_reducible repeat (first | refine blk_drewN ?_ _ | refine blk_drew ?_ | refine blk_alloc ?_ _)); refine blk_far ?_ NB855_858.out _; (with_reducible repeat (first | refine blk_drewN ?_ _ | refine blk_drew ?_ | refine blk_alloc ?_ _)); exact BK855.out))⟩; have n3_ : Aside0 (w22.heap[gb858]? = some (.cells #[.int .i64 t856, .int .i64 t857] 37 (0, 0))) := ⟨(by rw [hw]; exact (by (with_reducible repeat (first | refine blk_drewN ?_ _ | refine blk_drew ?_ | refine blk_alloc ?_ _)); refine blk_far ?_ NB858_855.out _; (with_reducible repeat (first | refine blk_drewN ?_ _ | refine blk_drew ?_ | refine blk_alloc ?_ _)); refine blk_far ?_ NB858_855.out _; (with_reducible repeat (first | refine blk_drewN ?_ _ | refine blk_drew ?_ | refine blk_alloc ?_ _)); refine blk_put (cs := #[.int .i64 t856, .int .i64 0]) ?_ 1 _ rfl; (with_reducible repeat (first | refine blk_drewN ?_ _ | refine blk_drew ?_ | refine blk_alloc ?_ _)); refine blk_put (cs := #[.int .i64 0, .int .i64 0]) ?_ 0 _ rfl; (with_reducible repeat (first | refine blk_drewN ?_ _ | refine blk_drew ?_ | refine blk_alloc ?_ _)); exact BK858.out))⟩; have n4_ := bw hw HB; clear hw; clear BK853; clear BK854; clear BK855; clear BK858; clear HB; have BK853 := n0_; have BK854 := n1_; have BK855 := n2_; have BK858 := n3_; have HB := n4_; clear n0_ n1_ n2_ n3_ n4_))
  refine bodyPost_ret (results_cell_row rfl _ _ gb855 37 #[.int .i64 z859, .int .i64 z860] (0, 0) _ rfl (pk BK855) Try.underlying37 rfl (by kernel_rfl)) rfl ?_
  exact rt HB
end
section
/-! ### torchonref06_Apply: function 28 -/
def torchonref06_Apply.j0 : Nat → Bool → Int → Int → Int → Int → Int → Int → Int → Int → Option (Int × Int × Int)
  | 0, _, _, _, _, _, _, _, _, _ => none
  | k + 1, x14, x862000, x862001, x862002, x862003, x862004, x862005, x863000, x863001 => if x14 = true then (some (0, 0, 2)) else ((torchonref06_apply.f x862000 x862001 x862002 x862003 x862004 x862005 x863000 x863001).bind fun bt866 => ((torchonref06_Point.f bt866.1 bt866.2).bind fun t869 => (if t869 = true then (some (bt866.1, bt866.2, 0)) else (some (0, 0, 7)))))
def torchonref06_Apply.f (k : Nat) (a0_0 : Int) (a0_1 : Int) (a0_2 : Int) (a0_3 : Int) (a0_4 : Int) (a0_5 : Int) (a1_0 : Int) (a1_1 : Int) : Option (Int × Int × Int) := (torchonref06_move.f a0_0 a0_1 a0_2 a0_3 a0_4 a0_5).bind fun t864 => (if t864 = true then ((torchonref06_Point.f a1_0 a1_1).bind fun t865 => (torchonref06_Apply.j0 k (!t865) a0_0 a0_1 a0_2 a0_3 a0_4 a0_5 a1_0 a1_1)) else (torchonref06_Apply.j0 k true a0_0 a0_1 a0_2 a0_3 a0_4 a0_5 a1_0 a1_1))
theorem torchonref06_Apply.mono_l : ∀ k, (∀ y0 y1 y2 y3 y4 y5 y6 y7 y8, LeO (torchonref06_Apply.j0 k y0 y1 y2 y3 y4 y5 y6 y7 y8) (torchonref06_Apply.j0 (k + 1) y0 y1 y2 y3 y4 y5 y6 y7 y8))
  | 0 => fun _ _ _ _ _ _ _ _ _ r h => by simp [torchonref06_Apply.j0] at h
  | k + 1 => by
    have ih0 := torchonref06_Apply.mono_l k
    · intro y0 y1 y2 y3 y4 y5 y6 y7 y8
      unfold torchonref06_Apply.j0
      repeat' first
      | (with_reducible exact ih0 _ _ _ _ _ _ _ _ _)
      | (with_reducible exact LeO.refl _)
      | (with_reducible exact LeO.none _)
      | (with_reducible refine LeO.ite ?_ ?_)
      | (with_reducible refine LeO.bind ?_ (fun _ => ?_))
      | exact ih0 _ _ _ _ _ _ _ _ _
      | exact LeO.none _
      | refine LeO.ite ?_ ?_
      | refine LeO.bind ?_ (fun _ => ?_)
theorem torchonref06_Apply.mono : ∀ a0 a1 a2 a3 a4 a5 a6 a7 k, LeO (torchonref06_Apply.f k a0 a1 a2 a3 a4 a5 a6 a7) (torchonref06_Apply.f (k + 1) a0 a1 a2 a3 a4 a5 a6 a7) := by
  intro a0 a1 a2 a3 a4 a5 a6 a7 k
  have ih0 := torchonref06_Apply.mono_l k
  unfold torchonref06_Apply.f
  repeat' first
      | (with_reducible exact ih0 _ _ _ _ _ _ _ _ _)
      | (with_reducible exact LeO.refl _)
      | (with_reducible exact LeO.none _)
      | (with_reducible refine LeO.ite ?_ ?_)
      | (with_reducible refine LeO.bind ?_ (fun _ => ?_))
      | exact ih0 _ _ _ _ _ _ _ _ _
      | exact LeO.none _
      | refine LeO.ite ?_ ?_
      | refine LeO.bind ?_ (fun _ => ?_)
set_option maxHeartbeats 8000000 in
set_option maxRecDepth 100000 in
theorem torchonref06_Apply.calls (k : Nat) (a0_0 : Int) (a0_1 : Int) (a0_2 : Int) (a0_3 : Int) (a0_4 : Int) (a0_5 : Int) (a1_0 : Int) (a1_1 : Int) (r1 : Int) (r2 : Int) (r3 : Int) (w : World) (h : torchonref06_Apply.f k a0_0 a0_1 a0_2 a0_3 a0_4 a0_5 a1_0 a1_1 = some (r1, r2, r3)) :
    Calls Try.prog 28 #[.agg #[.int .i64 a0_0, .int .i64 a0_1, .int .i64 a0_2, .int .i64 a0_3, .int .i64 a0_4, .int .i64 a0_5], .agg #[.int .i64 a1_0, .int .i64 a1_1]] w fun e w' => e = .returned (.tuple #[.agg #[.int .i64 r1, .int .i64 r2], .int .i64 r3]) ∧ Below w.heap.size w w' := by
  have hu55 := Try.underlying55
  have hu37 := Try.underlying37
  have HB := Aside0.mk (Below.refl w.heap.size w)
  have H : ((torchonref06_move.f a0_0 a0_1 a0_2 a0_3 a0_4 a0_5).bind fun t864 => (if t864 = true then ((torchonref06_Point.f a1_0 a1_1).bind fun t865 => (torchonref06_Apply.j0 k (!t865) a0_0 a0_1 a0_2 a0_3 a0_4 a0_5 a1_0 a1_1)) else (torchonref06_Apply.j0 k true a0_0 a0_1 a0_2 a0_3 a0_4 a0_5 a1_0 a1_1))) = some (r1, r2, r3) := h
  clear h
  have HC3 := Aside0.mk H
  clear H
  go_enter Try.func28, Try.ntmps28
  go_upto_region 1 with (first | ((with_reducible refine gate_dst (N := 2) rfl ?_); refine bx 2 #[.int .i64 a0_0, .int .i64 a0_1, .int .i64 a0_2, .int .i64 a0_3, .int .i64 a0_4, .int .i64 a0_5] 55 fun gb861 hg w4 BK861 hb => ?_; have GW861 := gw hg HB; have GE861 := gw hg HB; replace HB := bst HB hb; clear hb hg) | ((with_reducible refine gate_dst (N := 3) rfl ?_); refine bx 3 #[.int .i64 a1_0, .int .i64 a1_1] 37 fun gb862 hg w5 BK862 hb => ?_; have GW862 := gw hg HB; have GE862 := gw hg HB; have NB861_862 := nlt hg BK861; have NB862_861 := ngt hg BK861; replace BK861 := bb BK861 hb; replace HB := bst HB hb; clear hb hg) | ((with_reducible refine gate_dst (N := 4) rfl ?_); refine bx 4 #[.int .i64 0, .int .i64 0] 37 fun gb863 hg w6 BK863 hb => ?_; have GW863 := gw hg HB; have GE863 := gw hg HB; have NB861_863 := nlt hg BK861; have NB863_861 := ngt hg BK861; have NB862_863 := nlt hg BK862; have NB863_862 := ngt hg BK862; replace BK861 := bb BK861 hb; replace BK862 := bb BK862 hb; replace HB := bst HB hb; clear hb hg))
  (try simp only [Act.put, List.setIfInBounds_toArray, List.set_cons_zero, List.set_cons_succ])
  go_cut [14] (fun v14 wc => ∃ (kq : Nat) (x14_2 : Bool), v14 = .bool x14_2 ∧ Aside0 (torchonref06_Apply.j0 kq x14_2 a0_0 a0_1 a0_2 a0_3 a0_4 a0_5 a1_0 a1_1 = some (r1, r2, r3)) ∧ Aside0 (kq ≤ k) ∧ Aside0 (wc.heap[gb861]? = some (.cells #[.int .i64 a0_0, .int .i64 a0_1, .int .i64 a0_2, .int .i64 a0_3, .int .i64 a0_4, .int .i64 a0_5] 55 (0, 0))) ∧ Aside0 (wc.heap[gb862]? = some (.cells #[.int .i64 a1_0, .int .i64 a1_1] 37 (0, 0))) ∧ Aside0 (wc.heap[gb863]? = some (.cells #[.int .i64 0, .int .i64 0] 37 (0, 0))) ∧ Aside0 (Below w.heap.size w wc))
  case first =>
    have H := HC3.out
    clear HC3
    obtain ⟨t864, A7, H⟩ := ob H
    by_cases c8 : t864 = true
    · subst c8
      have H1 : ((torchonref06_Point.f a1_0 a1_1).bind fun t865 => (torchonref06_Apply.j0 k (!t865) a0_0 a0_1 a0_2 a0_3 a0_4 a0_5 a1_0 a1_1)) = some (r1, r2, r3) := by rw [if_pos rfl] at H; exact H
      clear H
      have H := H1
      clear H1
      obtain ⟨t865, A9, H⟩ := ob H
      have H' := Aside0.mk H
      clear H
      have hnb10 := NB861_862.out
      have hnc10 := NB862_861.out
      have hnb11 := NB861_863.out
      have hnc11 := NB863_861.out
      have ⟨hcz12_0, hcz12_1, hcz12_2, hcz12_3, hcz12_4, hcz12_5, hfz12_0, hfz12_1, hfz12_2, hfz12_3, hfz12_4, hfz12_5⟩ := cf6 BK861
      go_wp2_with (first | ((with_reducible refine gate_callee (f := 64) rfl ?_); refine gl 8 Try.func64 (torchonref06_move.calls a0_0 a0_1 a0_2 a0_3 a0_4 a0_5 true _ A7.out) ?_; rintro e w13 ⟨rfl, hb⟩; refine ⟨_, rfl, ?_⟩; replace BK861 := bb BK861 hb; replace BK862 := bb BK862 hb; replace BK863 := bb BK863 hb; replace HB := bst HB hb; clear hb; have hnb14 := NB862_863.out; have hnc14 := NB863_862.out; have ⟨hcz15_0, hcz15_1, hfz15_0, hfz15_1⟩ := cf2 BK862) | (go_at_call 65; (with_reducible refine (torchonref06_Point.calls a1_0 a1_1 t865 _ A9.out).mono ?_); rintro e w16 ⟨rfl, hb⟩; replace BK861 := bb BK861 hb; replace BK862 := bb BK862 hb; replace BK863 := bb BK863 hb; replace HB := bst HB hb; clear hb))
      go_meet
      case rel => exact ⟨_, (!t865), (by first | rfl | (simp; done) | (simp [*]; done)), H', ⟨by first | omega | exact Nat.le_refl _⟩, ⟨pk BK861⟩, ⟨pk BK862⟩, ⟨pk BK863⟩, ⟨bnow HB⟩⟩
    · replace c8 := Bool.eq_false_iff.mpr c8
      subst c8
      have H1 : (torchonref06_Apply.j0 k true a0_0 a0_1 a0_2 a0_3 a0_4 a0_5 a1_0 a1_1) = some (r1, r2, r3) := by rw [if_neg (show ¬ (false = true) by decide)] at H; exact H
      clear H
      have H := H1
      clear H1
      have H' := Aside0.mk H
      clear H
      have hnb17 := NB861_862.out
      have hnc17 := NB862_861.out
      have hnb18 := NB861_863.out
      have hnc18 := NB863_861.out
      have ⟨hcz19_0, hcz19_1, hcz19_2, hcz19_3, hcz19_4, hcz19_5, hfz19_0, hfz19_1, hfz19_2, hfz19_3, hfz19_4, hfz19_5⟩ := cf6 BK861
      go_wp2_with (first | ((with_reducible refine gate_callee (f := 64) rfl ?_); refine gl 8 Try.func64 (torchonref06_move.calls a0_0 a0_1 a0_2 a0_3 a0_4 a0_5 false _ A7.out) ?_; rintro e w20 ⟨rfl, hb⟩; refine ⟨_, rfl, ?_⟩; replace BK861 := bb BK861 hb; replace BK862 := bb BK862 hb; replace BK863 := bb BK863 hb; replace HB := bst HB hb; clear hb))
      go_meet
      case rel => exact ⟨_, (true), (by first | rfl | (simp; done) | (simp [*]; done)), H', ⟨by first | omega | exact Nat.le_refl _⟩, ⟨pk BK861⟩, ⟨pk BK862⟩, ⟨pk BK863⟩, ⟨bnow HB⟩⟩
  case rest =>
    clear HC3
    try clear c1; try clear c2; try clear p2; try clear c6; try clear c8; try clear c10; try clear c11; try clear c14; try clear c17; try clear c18; try clear hcz12_0; try clear hcz12_1; try clear hcz12_2; try clear hcz12_3; try clear hcz12_4; try clear hcz12_5; try clear hcz15_0; try clear hcz15_1; try clear hcz19_0; try clear hcz19_1; try clear hcz19_2; try clear hcz19_3; try clear hcz19_4; try clear hcz19_5; try clear hfz12_0; try clear hfz12_1; try clear hfz12_2; try clear hfz12_3; try clear hfz12_4; try clear hfz12_5; try clear hfz15_0; try clear hfz15_1; try clear hfz19_0; try clear hfz19_1; try clear hfz19_2; try clear hfz19_3; try clear hfz19_4; try clear hfz19_5
    obtain ⟨kq, x14_2, rfl, HA, HJ2, BK861, BK862, BK863, HB⟩ := hcut
    cases kq with
    | zero => exact absurd HA.out (by simp [torchonref06_Apply.j0])
    | succ kj2 =>
      have H := HA.out
      clear HA
      simp only [torchonref06_Apply.j0] at H
      by_cases c21 : x14_2 = true
      · subst c21
        have H1 : (some (0, 0, 2)) = some (r1, r2, r3) := by rw [if_pos rfl] at H; exact H
        clear H
        have H := H1
        clear H1
        simp only [Option.some.injEq, Prod.mk.injEq] at H
        obtain ⟨rfl, rfl, rfl⟩ := H
        have hnb22 := NB863_861.out
        have hnc22 := NB861_863.out
        have hnb23 := NB863_862.out
        have hnc23 := NB862_863.out
        have ⟨hcz24_0, hcz24_1, hfz24_0, hfz24_1⟩ := cf2 BK863
        go_wp2
        refine bodyPost_ret (results_ct rfl _ _ gb863 37 #[.int .i64 0, .int .i64 0] (0, 0) _ rfl (by (with_reducible repeat (first | refine blk_drewN ?_ _ | refine blk_drew ?_ | refine blk_alloc ?_ _)); refine blk_put (cs := #[.int .i64 0, .int .i64 0]) ?_ 1 _ rfl; (with_reducible repeat (first | refine blk_drewN ?_ _ | refine blk_drew ?_ | refine blk_alloc ?_ _)); refine blk_put (cs := #[.int .i64 0, .int .i64 0]) ?_ 0 _ rfl; (with_reducible repeat (first | refine blk_drewN ?_ _ | refine blk_drew ?_ | refine blk_alloc ?_ _)); exact BK863.out) Try.underlying37 rfl (by kernel_rfl)) rfl ?_
        exact rt HB
      · replace c21 := Bool.eq_false_iff.mpr c21
        subst c21
        have H1 : ((torchonref06_apply.f a0_0 a0_1 a0_2 a0_3 a0_4 a0_5 a1_0 a1_1).bind fun bt866 => ((torchonref06_Point.f bt866.1 bt866.2).bind fun t869 => (if t869 = true then (some (bt866.1, bt866.2, 0)) else (some (0, 0, 7))))) = some (r1, r2, r3) := by rw [if_neg (show ¬ (false = true) by decide)] at H; exact H
        clear H
        have H := H1
        clear H1
        obtain ⟨⟨t866, t867⟩, A25, H⟩ := ob H
        obtain ⟨t869, A26, H⟩ := ob H
        by_cases c27 : t869 = true
        · subst c27
          have H1 : (some (t866, t867, 0)) = some (r1, r2, r3) := by rw [if_pos rfl] at H; exact H
          clear H
          have H := H1
          clear H1
          simp only [Option.some.injEq, Prod.mk.injEq] at H
          obtain ⟨rfl, rfl, rfl⟩ := H
          have hnb28 := NB861_862.out
          have hnc28 := NB862_861.out
          have hnb29 := NB861_863.out
          have hnc29 := NB863_861.out
          have ⟨hcz30_0, hcz30_1, hcz30_2, hcz30_3, hcz30_4, hcz30_5, hfz30_0, hfz30_1, hfz30_2, hfz30_3, hfz30_4, hfz30_5⟩ := cf6 BK861
          have hnb31 := NB862_863.out
          have hnc31 := NB863_862.out
          have ⟨hcz32_0, hcz32_1, hfz32_0, hfz32_1⟩ := cf2 BK862
          go_wp2_with (first | ((with_reducible refine gate_callee (f := 66) rfl ?_); refine gl 18 Try.func66 (torchonref06_apply.calls a0_0 a0_1 a0_2 a0_3 a0_4 a0_5 a1_0 a1_1 t866 t867 _ A25.out) ?_; rintro e w33 ⟨rfl, hb⟩; refine ⟨_, rfl, ?_⟩; replace BK861 := bb BK861 hb; replace BK862 := bb BK862 hb; replace BK863 := bb BK863 hb; replace HB := bst HB hb; clear hb) | ((with_reducible refine gate_dst (N := 6) rfl ?_); refine bx 6 #[.int .i64 0, .int .i64 0] 37 fun gb868 hg w34 BK868 hb => ?_; have GW868 := gw hg HB; have GE868 := gw hg HB; have NB861_868 := nlt hg BK861; have NB868_861 := ngt hg BK861; have NB862_868 := nlt hg BK862; have NB868_862 := ngt hg BK862; have NB863_868 := nlt hg BK863; have NB868_863 := ngt hg BK863; replace BK861 := bb BK861 hb; replace BK862 := bb BK862 hb; replace BK863 := bb BK863 hb; replace HB := bst HB hb; clear hb hg; have hnb35 := NB868_861.out; have hnc35 := NB861_868.out; have hnb36 := NB868_862.out; have hnc36 := NB862_868.out; have hnb37 := NB868_863.out; have hnc37 := NB863_868.out; have ⟨hcz38_0, hcz38_1, hfz38_0, hfz38_1⟩ := cf2 BK868) | ((with_reducible refine gate_callee (f := 65) rfl ?_); refine gl 20 Try.func65 (torchonref06_Point.calls t866 t867 true _ A26.out) ?_; rintro e w39 ⟨rfl, hb⟩; refine ⟨_, rfl, ?_⟩; replace BK861 := Aside0.mk (blk_below (g := gb861) (o := .cells #[.int .i64 a0_0, .int .i64 a0_1, .int .i64 a0_2, .int .i64 a0_3, .int .i64 a0_4, .int .i64 a0_5] 55 (0, 0)) (by (with_reducible repeat (first | refine blk_drewN ?_ _ | refine blk_drew ?_ | refine blk_alloc ?_ _)); refine blk_far ?_ NB861_868.out _; (with_reducible repeat (first | refine blk_drewN ?_ _ | refine blk_drew ?_ | refine blk_alloc ?_ _)); refine blk_far ?_ NB861_868.out _; (with_reducible repeat (first | refine blk_drewN ?_ _ | refine blk_drew ?_ | refine blk_alloc ?_ _)); exact BK861.out) hb); replace BK862 := Aside0.mk (blk_below (g := gb862) (o := .cells #[.int .i64 a1_0, .int .i64 a1_1] 37 (0, 0)) (by (with_reducible repeat (first | refine blk_drewN ?_ _ | refine blk_drew ?_ | refine blk_alloc ?_ _)); refine blk_far ?_ NB862_868.out _; (with_reducible repeat (first | refine blk_drewN ?_ _ | refine blk_drew ?_ | refine blk_alloc ?_ _)); refine blk_far ?_ NB862_868.out _; (with_reducible repeat (first | refine blk_drewN ?_ _ | refine blk_drew ?_ | refine blk_alloc ?_ _)); exact BK862.out) hb); replace BK863 := Aside0.mk (blk_below (g := gb863) (o := .cells #[.int .i64 0, .int .i64 0] 37 (0, 0)) (by (with_reducible repeat (first | refine blk_drewN ?_ _ | refine blk_drew ?_ | refine blk_alloc ?_ _)); refine blk_far ?_ NB863_868.out _; (with_reducible repeat (first | refine blk_drewN ?_ _ | refine blk_drew ?_ | refine blk_alloc ?_ _)); refine blk_far ?_ NB863_868.out _; (with_reducible repeat (first | refine blk_drewN ?_ _ | refine blk_drew ?_ | refine blk_alloc ?_ _)); exact BK863.out) hb); replace BK868 := Aside0.mk (blk_below (g := gb868) (o := .cells #[.int .i64 t866, .int .i64 t867] 37 (0, 0)) (by (with_reducible repeat (first | refine blk_drewN ?_ _ | refine blk_drew ?_ | refine blk_alloc ?_ _)); refine blk_put (cs := #[.int .i64 t866, .int .i64 0]) ?_ 1 _ rfl; (with_reducible repeat (first | refine blk_drewN ?_ _ | refine blk_drew ?_ | refine blk_alloc ?_ _)); refine blk_put (cs := #[.int .i64 0, .int .i64 0]) ?_ 0 _ rfl; (with_reducible repeat (first | refine blk_drewN ?_ _ | refine blk_drew ?_ | refine blk_alloc ?_ _)); exact BK868.out) hb); replace HB := bst HB hb; (try clear hb); (try clear hb2); (try clear hk); (try clear hi); have ⟨hcz40_0, hcz40_1, hfz40_0, hfz40_1⟩ := cf2 BK868; have ⟨hcz41_0, hcz41_1, hfz41_0, hfz41_1⟩ := cf2 BK863))
          refine bodyPost_ret (results_ct rfl _ _ gb863 37 #[.int .i64 t866, .int .i64 t867] (0, 0) _ rfl (by (with_reducible repeat (first | refine blk_drewN ?_ _ | refine blk_drew ?_ | refine blk_alloc ?_ _)); refine blk_put (cs := #[.int .i64 t866, .int .i64 0]) ?_ 1 _ rfl; (with_reducible repeat (first | refine blk_drewN ?_ _ | refine blk_drew ?_ | refine blk_alloc ?_ _)); refine blk_put (cs := #[.int .i64 0, .int .i64 0]) ?_ 0 _ rfl; (with_reducible repeat (first | refine blk_drewN ?_ _ | refine blk_drew ?_ | refine blk_alloc ?_ _)); exact BK863.out) Try.underlying37 rfl (by kernel_rfl)) rfl ?_
          exact rt HB
        · replace c27 := Bool.eq_false_iff.mpr c27
          subst c27
          have H1 : (some (0, 0, 7)) = some (r1, r2, r3) := by rw [if_neg (show ¬ (false = true) by decide)] at H; exact H
          clear H
          have H := H1
          clear H1
          simp only [Option.some.injEq, Prod.mk.injEq] at H
          obtain ⟨rfl, rfl, rfl⟩ := H
          have hnb42 := NB861_862.out
          have hnc42 := NB862_861.out
          have hnb43 := NB861_863.out
          have hnc43 := NB863_861.out
          have ⟨hcz44_0, hcz44_1, hcz44_2, hcz44_3, hcz44_4, hcz44_5, hfz44_0, hfz44_1, hfz44_2, hfz44_3, hfz44_4, hfz44_5⟩ := cf6 BK861
          have hnb45 := NB862_863.out
          have hnc45 := NB863_862.out
          have ⟨hcz46_0, hcz46_1, hfz46_0, hfz46_1⟩ := cf2 BK862
          go_wp2_with (first | ((with_reducible refine gate_callee (f := 66) rfl ?_); refine gl 18 Try.func66 (torchonref06_apply.calls a0_0 a0_1 a0_2 a0_3 a0_4 a0_5 a1_0 a1_1 t866 t867 _ A25.out) ?_; rintro e w47 ⟨rfl, hb⟩; refine ⟨_, rfl, ?_⟩; replace BK861 := bb BK861 hb; replace BK862 := bb BK862 hb; replace BK863 := bb BK863 hb; replace HB := bst HB hb; clear hb) | ((with_reducible refine gate_dst (N := 6) rfl ?_); refine bx 6 #[.int .i64 0, .int .i64 0] 37 fun gb868 hg w48 BK868 hb => ?_; have GW868 := gw hg HB; have GE868 := gw hg HB; have NB861_868 := nlt hg BK861; have NB868_861 := ngt hg BK861; have NB862_868 := nlt hg BK862; have NB868_862 := ngt hg BK862; have NB863_868 := nlt hg BK863; have NB868_863 := ngt hg BK863; replace BK861 := bb BK861 hb; replace BK862 := bb BK862 hb; replace BK863 := bb BK863 hb; replace HB := bst HB hb; clear hb hg; have hnb49 := NB868_861.out; have hnc49 := NB861_868.out; have hnb50 := NB868_862.out; have hnc50 := NB862_868.out; have hnb51 := NB868_863.out; have hnc51 := NB863_868.out; have ⟨hcz52_0, hcz52_1, hfz52_0, hfz52_1⟩ := cf2 BK868) | ((with_reducible refine gate_callee (f := 65) rfl ?_); refine gl 20 Try.func65 (torchonref06_Point.calls t866 t867 false _ A26.out) ?_; rintro e w53 ⟨rfl, hb⟩; refine ⟨_, rfl, ?_⟩; replace BK861 := Aside0.mk (blk_below (g := gb861) (o := .cells #[.int .i64 a0_0, .int .i64 a0_1, .int .i64 a0_2, .int .i64 a0_3, .int .i64 a0_4, .int .i64 a0_5] 55 (0, 0)) (by (with_reducible repeat (first | refine blk_drewN ?_ _ | refine blk_drew ?_ | refine blk_alloc ?_ _)); refine blk_far ?_ NB861_868.out _; (with_reducible repeat (first | refine blk_drewN ?_ _ | refine blk_drew ?_ | refine blk_alloc ?_ _)); refine blk_far ?_ NB861_868.out _; (with_reducible repeat (first | refine blk_drewN ?_ _ | refine blk_drew ?_ | refine blk_alloc ?_ _)); exact BK861.out) hb); replace BK862 := Aside0.mk (blk_below (g := gb862) (o := .cells #[.int .i64 a1_0, .int .i64 a1_1] 37 (0, 0)) (by (with_reducible repeat (first | refine blk_drewN ?_ _ | refine blk_drew ?_ | refine blk_alloc ?_ _)); refine blk_far ?_ NB862_868.out _; (with_reducible repeat (first | refine blk_drewN ?_ _ | refine blk_drew ?_ | refine blk_alloc ?_ _)); refine blk_far ?_ NB862_868.out _; (with_reducible repeat (first | refine blk_drewN ?_ _ | refine blk_drew ?_ | refine blk_alloc ?_ _)); exact BK862.out) hb); replace BK863 := Aside0.mk (blk_below (g := gb863) (o := .cells #[.int .i64 0, .int .i64 0] 37 (0, 0)) (by (with_reducible repeat (first | refine blk_drewN ?_ _ | refine blk_drew ?_ | refine blk_alloc ?_ _)); refine blk_far ?_ NB863_868.out _; (with_reducible repeat (first | refine blk_drewN ?_ _ | refine blk_drew ?_ | refine blk_alloc ?_ _)); refine blk_far ?_ NB863_868.out _; (with_reducible repeat (first | refine blk_drewN ?_ _ | refine blk_drew ?_ | refine blk_alloc ?_ _)); exact BK863.out) hb); replace BK868 := Aside0.mk (blk_below (g := gb868) (o := .cells #[.int .i64 t866, .int .i64 t867] 37 (0, 0)) (by (with_reducible repeat (first | refine blk_drewN ?_ _ | refine blk_drew ?_ | refine blk_alloc ?_ _)); refine blk_put (cs := #[.int .i64 t866, .int .i64 0]) ?_ 1 _ rfl; (with_reducible repeat (first | refine blk_drewN ?_ _ | refine blk_drew ?_ | refine blk_alloc ?_ _)); refine blk_put (cs := #[.int .i64 0, .int .i64 0]) ?_ 0 _ rfl; (with_reducible repeat (first | refine blk_drewN ?_ _ | refine blk_drew ?_ | refine blk_alloc ?_ _)); exact BK868.out) hb); replace HB := bst HB hb; (try clear hb); (try clear hb2); (try clear hk); (try clear hi); have ⟨hcz54_0, hcz54_1, hfz54_0, hfz54_1⟩ := cf2 BK863))
          refine bodyPost_ret (results_ct rfl _ _ gb863 37 #[.int .i64 0, .int .i64 0] (0, 0) _ rfl (by (with_reducible repeat (first | refine blk_drewN ?_ _ | refine blk_drew ?_ | refine blk_alloc ?_ _)); refine blk_put (cs := #[.int .i64 0, .int .i64 0]) ?_ 1 _ rfl; (with_reducible repeat (first | refine blk_drewN ?_ _ | refine blk_drew ?_ | refine blk_alloc ?_ _)); refine blk_put (cs := #[.int .i64 0, .int .i64 0]) ?_ 0 _ rfl; (with_reducible repeat (first | refine blk_drewN ?_ _ | refine blk_drew ?_ | refine blk_alloc ?_ _)); exact BK863.out) Try.underlying37 rfl (by kernel_rfl)) rfl ?_
          exact rt HB
end
section
/-! ### grids_valid: function 67 -/
def grids_valid.f (k : Nat) (a0_0 : Int) (a0_1 : Int) (a0_2 : Int) (a0_3 : Int) (a0_4 : Int) (a0_5 : Int) : Option (Int × Int × Int × Int × Int × Int × Int) := (grids_move.f k a0_0 a0_1 a0_2 a0_3 a0_4 a0_5).bind fun t872 => (if t872 = true then (some (a0_0, a0_1, a0_2, a0_3, a0_4, a0_5, 0)) else (some (0, 0, 0, 0, 0, 0, 7)))
theorem grids_valid.mono : ∀ a0 a1 a2 a3 a4 a5 k, LeO (grids_valid.f k a0 a1 a2 a3 a4 a5) (grids_valid.f (k + 1) a0 a1 a2 a3 a4 a5) := by
  intro a0 a1 a2 a3 a4 a5 k
  unfold grids_valid.f
  repeat' first
      | (with_reducible exact grids_move.mono _ _ _ _ _ _ _)
      | (with_reducible exact LeO.refl _)
      | (with_reducible exact LeO.none _)
      | (with_reducible refine LeO.ite ?_ ?_)
      | (with_reducible refine LeO.bind ?_ (fun _ => ?_))
      | exact grids_move.mono _ _ _ _ _ _ _
      | exact LeO.none _
      | refine LeO.ite ?_ ?_
      | refine LeO.bind ?_ (fun _ => ?_)
set_option maxHeartbeats 8000000 in
set_option maxRecDepth 100000 in
theorem grids_valid.calls (k : Nat) (a0_0 : Int) (a0_1 : Int) (a0_2 : Int) (a0_3 : Int) (a0_4 : Int) (a0_5 : Int) (r1 : Int) (r2 : Int) (r3 : Int) (r4 : Int) (r5 : Int) (r6 : Int) (r7 : Int) (w : World) (h : grids_valid.f k a0_0 a0_1 a0_2 a0_3 a0_4 a0_5 = some (r1, r2, r3, r4, r5, r6, r7)) :
    Calls Try.prog 67 #[.agg #[.int .i64 a0_0, .int .i64 a0_1, .int .i64 a0_2, .int .i64 a0_3, .int .i64 a0_4, .int .i64 a0_5]] w fun e w' => e = .returned (.tuple #[.agg #[.int .i64 r1, .int .i64 r2, .int .i64 r3, .int .i64 r4, .int .i64 r5, .int .i64 r6], .int .i64 r7]) ∧ Below w.heap.size w w' := by
  have hu55 := Try.underlying55
  have HB := Aside0.mk (Below.refl w.heap.size w)
  have H : ((grids_move.f k a0_0 a0_1 a0_2 a0_3 a0_4 a0_5).bind fun t872 => (if t872 = true then (some (a0_0, a0_1, a0_2, a0_3, a0_4, a0_5, 0)) else (some (0, 0, 0, 0, 0, 0, 7)))) = some (r1, r2, r3, r4, r5, r6, r7) := h
  clear h
  obtain ⟨t872, A2, H⟩ := ob H
  by_cases c3 : t872 = true
  · subst c3
    have H1 : (some (a0_0, a0_1, a0_2, a0_3, a0_4, a0_5, 0)) = some (r1, r2, r3, r4, r5, r6, r7) := by rw [if_pos rfl] at H; exact H
    clear H
    have H := H1
    clear H1
    simp only [Option.some.injEq, Prod.mk.injEq] at H
    obtain ⟨rfl, rfl, rfl, rfl, rfl, rfl, rfl⟩ := H
    go_enter Try.func67, Try.ntmps67
    go_wp2_with (first | ((with_reducible refine gate_dst (N := 1) rfl ?_); refine bx 1 #[.int .i64 a0_0, .int .i64 a0_1, .int .i64 a0_2, .int .i64 a0_3, .int .i64 a0_4, .int .i64 a0_5] 55 fun gb870 hg w4 BK870 hb => ?_; have GW870 := gw hg HB; have GE870 := gw hg HB; replace HB := bst HB hb; clear hb hg) | ((with_reducible refine gate_dst (N := 2) rfl ?_); refine bx 2 #[.int .i64 0, .int .i64 0, .int .i64 0, .int .i64 0, .int .i64 0, .int .i64 0] 55 fun gb871 hg w5 BK871 hb => ?_; have GW871 := gw hg HB; have GE871 := gw hg HB; have NB870_871 := nlt hg BK870; have NB871_870 := ngt hg BK870; replace BK870 := bb BK870 hb; replace HB := bst HB hb; clear hb hg; have hnb6 := NB870_871.out; have hnc6 := NB871_870.out; have ⟨hcz7_0, hcz7_1, hcz7_2, hcz7_3, hcz7_4, hcz7_5, hfz7_0, hfz7_1, hfz7_2, hfz7_3, hfz7_4, hfz7_5⟩ := cf6 BK870) | ((with_reducible refine gate_callee (f := 62) rfl ?_); refine gl 5 Try.func62 (grids_move.calls k a0_0 a0_1 a0_2 a0_3 a0_4 a0_5 true _ A2.out) ?_; rintro e w8 ⟨rfl, hb⟩; refine ⟨_, rfl, ?_⟩; replace BK870 := bb BK870 hb; replace BK871 := bb BK871 hb; replace HB := bst HB hb; clear hb; have ⟨hcz9_0, hcz9_1, hcz9_2, hcz9_3, hcz9_4, hcz9_5, hfz9_0, hfz9_1, hfz9_2, hfz9_3, hfz9_4, hfz9_5⟩ := cf6 BK870; have ⟨hcz10_0, hcz10_1, hcz10_2, hcz10_3, hcz10_4, hcz10_5, hfz10_0, hfz10_1, hfz10_2, hfz10_3, hfz10_4, hfz10_5⟩ := cf6 BK871) | ((with_reducible refine gate_store (t := 55) (p := 2) rfl ?_); refine sx 55 2 (((((((w8.setCell ⟨gb871, 0, none⟩ (.int .i64 a0_0)).setCell ⟨gb871, 1, none⟩ (.int .i64 a0_1)).setCell ⟨gb871, 2, none⟩ (.int .i64 a0_2)).setCell ⟨gb871, 3, none⟩ (.int .i64 a0_3)).setCell ⟨gb871, 4, none⟩ (.int .i64 a0_4)).setCell ⟨gb871, 5, none⟩ (.int .i64 a0_5))) fun w11 hw => ?_; replace BK870 := fw hw BK870; replace BK871 := pw6 hw BK871; replace HB := bw hw HB; clear hw))
    refine bodyPost_ret (results_ct rfl _ _ gb871 55 #[.int .i64 a0_0, .int .i64 a0_1, .int .i64 a0_2, .int .i64 a0_3, .int .i64 a0_4, .int .i64 a0_5] (0, 0) _ rfl (pk BK871) Try.underlying55 rfl (by kernel_rfl)) rfl ?_
    exact rt HB
  · replace c3 := Bool.eq_false_iff.mpr c3
    subst c3
    have H1 : (some (0, 0, 0, 0, 0, 0, 7)) = some (r1, r2, r3, r4, r5, r6, r7) := by rw [if_neg (show ¬ (false = true) by decide)] at H; exact H
    clear H
    have H := H1
    clear H1
    simp only [Option.some.injEq, Prod.mk.injEq] at H
    obtain ⟨rfl, rfl, rfl, rfl, rfl, rfl, rfl⟩ := H
    go_enter Try.func67, Try.ntmps67
    go_wp2_with (first | ((with_reducible refine gate_dst (N := 1) rfl ?_); refine bx 1 #[.int .i64 a0_0, .int .i64 a0_1, .int .i64 a0_2, .int .i64 a0_3, .int .i64 a0_4, .int .i64 a0_5] 55 fun gb870 hg w12 BK870 hb => ?_; have GW870 := gw hg HB; have GE870 := gw hg HB; replace HB := bst HB hb; clear hb hg) | ((with_reducible refine gate_dst (N := 2) rfl ?_); refine bx 2 #[.int .i64 0, .int .i64 0, .int .i64 0, .int .i64 0, .int .i64 0, .int .i64 0] 55 fun gb871 hg w13 BK871 hb => ?_; have GW871 := gw hg HB; have GE871 := gw hg HB; have NB870_871 := nlt hg BK870; have NB871_870 := ngt hg BK870; replace BK870 := bb BK870 hb; replace HB := bst HB hb; clear hb hg; have hnb14 := NB870_871.out; have hnc14 := NB871_870.out; have ⟨hcz15_0, hcz15_1, hcz15_2, hcz15_3, hcz15_4, hcz15_5, hfz15_0, hfz15_1, hfz15_2, hfz15_3, hfz15_4, hfz15_5⟩ := cf6 BK870) | ((with_reducible refine gate_callee (f := 62) rfl ?_); refine gl 5 Try.func62 (grids_move.calls k a0_0 a0_1 a0_2 a0_3 a0_4 a0_5 false _ A2.out) ?_; rintro e w16 ⟨rfl, hb⟩; refine ⟨_, rfl, ?_⟩; replace BK870 := bb BK870 hb; replace BK871 := bb BK871 hb; replace HB := bst HB hb; clear hb; have ⟨hcz17_0, hcz17_1, hcz17_2, hcz17_3, hcz17_4, hcz17_5, hfz17_0, hfz17_1, hfz17_2, hfz17_3, hfz17_4, hfz17_5⟩ := cf6 BK871) | ((with_reducible refine gate_store (t := 55) (p := 2) rfl ?_); refine sx 55 2 (((((((w16.setCell ⟨gb871, 0, none⟩ (.int .i64 0)).setCell ⟨gb871, 1, none⟩ (.int .i64 0)).setCell ⟨gb871, 2, none⟩ (.int .i64 0)).setCell ⟨gb871, 3, none⟩ (.int .i64 0)).setCell ⟨gb871, 4, none⟩ (.int .i64 0)).setCell ⟨gb871, 5, none⟩ (.int .i64 0))) fun w18 hw => ?_; replace BK870 := fw hw BK870; replace BK871 := pw6 hw BK871; replace HB := bw hw HB; clear hw))
    refine bodyPost_ret (results_ct rfl _ _ gb871 55 #[.int .i64 0, .int .i64 0, .int .i64 0, .int .i64 0, .int .i64 0, .int .i64 0] (0, 0) _ rfl (pk BK871) Try.underlying55 rfl (by kernel_rfl)) rfl ?_
    exact rt HB
end
section
/-! ### grids_Compose: function 29 -/
def grids_Compose.j0 : Nat → Bool → Int → Int → Int → Int → Int → Int → Int → Int → Int → Int → Int → Int → Option (Int × Int × Int × Int × Int × Int × Int)
  | 0, _, _, _, _, _, _, _, _, _, _, _, _, _ => none
  | k + 1, x13, x874000, x874001, x874002, x874003, x874004, x874005, x875000, x875001, x875002, x875003, x875004, x875005 => if x13 = true then (some (0, 0, 0, 0, 0, 0, 2)) else ((grids_times.f x874000 x874001 x874002 x874003 x875000 x875001 x875002 x875003).bind fun bt878 => ((grids_image.f x874000 x874001 x874002 x874003 x874004 x874005 x875004 x875005).bind fun bt882 => ((grids_valid.f k bt878.1 bt878.2.1 bt878.2.2.1 bt878.2.2.2 bt882.1 bt882.2).bind fun bt884 => (some (bt884.1, bt884.2.1, bt884.2.2.1, bt884.2.2.2.1, bt884.2.2.2.2.1, bt884.2.2.2.2.2.1, bt884.2.2.2.2.2.2)))))
def grids_Compose.f (k : Nat) (a0_0 : Int) (a0_1 : Int) (a0_2 : Int) (a0_3 : Int) (a0_4 : Int) (a0_5 : Int) (a1_0 : Int) (a1_1 : Int) (a1_2 : Int) (a1_3 : Int) (a1_4 : Int) (a1_5 : Int) : Option (Int × Int × Int × Int × Int × Int × Int) := (grids_move.f k a0_0 a0_1 a0_2 a0_3 a0_4 a0_5).bind fun t876 => (if t876 = true then ((grids_move.f k a1_0 a1_1 a1_2 a1_3 a1_4 a1_5).bind fun t877 => (grids_Compose.j0 k (!t877) a0_0 a0_1 a0_2 a0_3 a0_4 a0_5 a1_0 a1_1 a1_2 a1_3 a1_4 a1_5)) else (grids_Compose.j0 k true a0_0 a0_1 a0_2 a0_3 a0_4 a0_5 a1_0 a1_1 a1_2 a1_3 a1_4 a1_5))
theorem grids_Compose.mono_l : ∀ k, (∀ y0 y1 y2 y3 y4 y5 y6 y7 y8 y9 y10 y11 y12, LeO (grids_Compose.j0 k y0 y1 y2 y3 y4 y5 y6 y7 y8 y9 y10 y11 y12) (grids_Compose.j0 (k + 1) y0 y1 y2 y3 y4 y5 y6 y7 y8 y9 y10 y11 y12))
  | 0 => fun _ _ _ _ _ _ _ _ _ _ _ _ _ r h => by simp [grids_Compose.j0] at h
  | k + 1 => by
    have ih0 := grids_Compose.mono_l k
    · intro y0 y1 y2 y3 y4 y5 y6 y7 y8 y9 y10 y11 y12
      unfold grids_Compose.j0
      repeat' first
      | (with_reducible exact ih0 _ _ _ _ _ _ _ _ _ _ _ _ _)
      | (with_reducible exact grids_move.mono _ _ _ _ _ _ _)
      | (with_reducible exact grids_valid.mono _ _ _ _ _ _ _)
      | (with_reducible exact LeO.refl _)
      | (with_reducible exact LeO.none _)
      | (with_reducible refine LeO.ite ?_ ?_)
      | (with_reducible refine LeO.bind ?_ (fun _ => ?_))
      | exact ih0 _ _ _ _ _ _ _ _ _ _ _ _ _
      | exact grids_move.mono _ _ _ _ _ _ _
      | exact grids_valid.mono _ _ _ _ _ _ _
      | exact LeO.none _
      | refine LeO.ite ?_ ?_
      | refine LeO.bind ?_ (fun _ => ?_)
theorem grids_Compose.mono : ∀ a0 a1 a2 a3 a4 a5 a6 a7 a8 a9 a10 a11 k, LeO (grids_Compose.f k a0 a1 a2 a3 a4 a5 a6 a7 a8 a9 a10 a11) (grids_Compose.f (k + 1) a0 a1 a2 a3 a4 a5 a6 a7 a8 a9 a10 a11) := by
  intro a0 a1 a2 a3 a4 a5 a6 a7 a8 a9 a10 a11 k
  have ih0 := grids_Compose.mono_l k
  unfold grids_Compose.f
  repeat' first
      | (with_reducible exact ih0 _ _ _ _ _ _ _ _ _ _ _ _ _)
      | (with_reducible exact grids_move.mono _ _ _ _ _ _ _)
      | (with_reducible exact grids_valid.mono _ _ _ _ _ _ _)
      | (with_reducible exact LeO.refl _)
      | (with_reducible exact LeO.none _)
      | (with_reducible refine LeO.ite ?_ ?_)
      | (with_reducible refine LeO.bind ?_ (fun _ => ?_))
      | exact ih0 _ _ _ _ _ _ _ _ _ _ _ _ _
      | exact grids_move.mono _ _ _ _ _ _ _
      | exact grids_valid.mono _ _ _ _ _ _ _
      | exact LeO.none _
      | refine LeO.ite ?_ ?_
      | refine LeO.bind ?_ (fun _ => ?_)
def grids_Compose.T3 : Bool × List (List Nat × List Nat) := (true, [([], []), ([0], [0]), ([], []), ([2], [2]), ([1, 3], [1, 3]), ([], []), ([], []), ([6], [6]), ([5, 7, 4], [5, 7]), ([4, 8], [4, 8]), ([9, 8], [9]), ([10], [10]), ([10], [10]), ([11, 10, 0, 1, 2, 3, 4, 5, 6, 7, 8, 9, 10, 11, 12], [11]), ([12, 13, 0, 1, 2, 3, 4, 5, 6, 7, 8, 9, 10, 11, 12, 13], [12])])
def grids_Compose.B3 : List Nat := [0, 1, 0, 4, 15, 0, 0, 64, 255, 511, 1023, 2047, 2047, 8191, 16383]
theorem grids_Compose.tab3 : rtab .any (opsOf Try.f29 3) = grids_Compose.T3 := by kernel_rfl
theorem grids_Compose.bits3 : waitsOk grids_Compose.T3.2 grids_Compose.B3 = true := by kernel_rfl
set_option maxHeartbeats 8000000 in
set_option maxRecDepth 100000 in
theorem grids_Compose.calls (k : Nat) (a0_0 : Int) (a0_1 : Int) (a0_2 : Int) (a0_3 : Int) (a0_4 : Int) (a0_5 : Int) (a1_0 : Int) (a1_1 : Int) (a1_2 : Int) (a1_3 : Int) (a1_4 : Int) (a1_5 : Int) (r1 : Int) (r2 : Int) (r3 : Int) (r4 : Int) (r5 : Int) (r6 : Int) (r7 : Int) (w : World) (h : grids_Compose.f k a0_0 a0_1 a0_2 a0_3 a0_4 a0_5 a1_0 a1_1 a1_2 a1_3 a1_4 a1_5 = some (r1, r2, r3, r4, r5, r6, r7)) :
    Calls Try.prog 29 #[.agg #[.int .i64 a0_0, .int .i64 a0_1, .int .i64 a0_2, .int .i64 a0_3, .int .i64 a0_4, .int .i64 a0_5], .agg #[.int .i64 a1_0, .int .i64 a1_1, .int .i64 a1_2, .int .i64 a1_3, .int .i64 a1_4, .int .i64 a1_5]] w fun e w' => e = .returned (.tuple #[.agg #[.int .i64 r1, .int .i64 r2, .int .i64 r3, .int .i64 r4, .int .i64 r5, .int .i64 r6], .int .i64 r7]) ∧ Below w.heap.size w w' := by
  have hu55 := Try.underlying55
  have hu25 := Try.underlying25
  have hu37 := Try.underlying37
  have HB := Aside0.mk (Below.refl w.heap.size w)
  have H : ((grids_move.f k a0_0 a0_1 a0_2 a0_3 a0_4 a0_5).bind fun t876 => (if t876 = true then ((grids_move.f k a1_0 a1_1 a1_2 a1_3 a1_4 a1_5).bind fun t877 => (grids_Compose.j0 k (!t877) a0_0 a0_1 a0_2 a0_3 a0_4 a0_5 a1_0 a1_1 a1_2 a1_3 a1_4 a1_5)) else (grids_Compose.j0 k true a0_0 a0_1 a0_2 a0_3 a0_4 a0_5 a1_0 a1_1 a1_2 a1_3 a1_4 a1_5))) = some (r1, r2, r3, r4, r5, r6, r7) := h
  clear h
  have HC3 := Aside0.mk H
  clear H
  go_enter Try.func29, Try.ntmps29
  go_upto_region 1 with (first | ((with_reducible refine gate_dst (N := 2) rfl ?_); refine bx 2 #[.int .i64 a0_0, .int .i64 a0_1, .int .i64 a0_2, .int .i64 a0_3, .int .i64 a0_4, .int .i64 a0_5] 55 fun gb873 hg w4 BK873 hb => ?_; have GW873 := gw hg HB; have GE873 := gw hg HB; replace HB := bst HB hb; clear hb hg) | ((with_reducible refine gate_dst (N := 3) rfl ?_); refine bx 3 #[.int .i64 a1_0, .int .i64 a1_1, .int .i64 a1_2, .int .i64 a1_3, .int .i64 a1_4, .int .i64 a1_5] 55 fun gb874 hg w5 BK874 hb => ?_; have GW874 := gw hg HB; have GE874 := gw hg HB; have NB873_874 := nlt hg BK873; have NB874_873 := ngt hg BK873; replace BK873 := bb BK873 hb; replace HB := bst HB hb; clear hb hg) | ((with_reducible refine gate_dst (N := 4) rfl ?_); refine bx 4 #[.int .i64 0, .int .i64 0, .int .i64 0, .int .i64 0, .int .i64 0, .int .i64 0] 55 fun gb875 hg w6 BK875 hb => ?_; have GW875 := gw hg HB; have GE875 := gw hg HB; have NB873_875 := nlt hg BK873; have NB875_873 := ngt hg BK873; have NB874_875 := nlt hg BK874; have NB875_874 := ngt hg BK874; replace BK873 := bb BK873 hb; replace BK874 := bb BK874 hb; replace HB := bst HB hb; clear hb hg))
  (try simp only [Act.put, List.setIfInBounds_toArray, List.set_cons_zero, List.set_cons_succ])
  go_cut [13] (fun v13 wc => ∃ (kq : Nat) (x13_2 : Bool), v13 = .bool x13_2 ∧ Aside0 (grids_Compose.j0 kq x13_2 a0_0 a0_1 a0_2 a0_3 a0_4 a0_5 a1_0 a1_1 a1_2 a1_3 a1_4 a1_5 = some (r1, r2, r3, r4, r5, r6, r7)) ∧ Aside0 (kq ≤ k) ∧ Aside0 (wc.heap[gb873]? = some (.cells #[.int .i64 a0_0, .int .i64 a0_1, .int .i64 a0_2, .int .i64 a0_3, .int .i64 a0_4, .int .i64 a0_5] 55 (0, 0))) ∧ Aside0 (wc.heap[gb874]? = some (.cells #[.int .i64 a1_0, .int .i64 a1_1, .int .i64 a1_2, .int .i64 a1_3, .int .i64 a1_4, .int .i64 a1_5] 55 (0, 0))) ∧ Aside0 (wc.heap[gb875]? = some (.cells #[.int .i64 0, .int .i64 0, .int .i64 0, .int .i64 0, .int .i64 0, .int .i64 0] 55 (0, 0))) ∧ Aside0 (Below w.heap.size w wc))
  case first =>
    have H := HC3.out
    clear HC3
    obtain ⟨t876, A7, H⟩ := ob H
    by_cases c8 : t876 = true
    · subst c8
      have H1 : ((grids_move.f k a1_0 a1_1 a1_2 a1_3 a1_4 a1_5).bind fun t877 => (grids_Compose.j0 k (!t877) a0_0 a0_1 a0_2 a0_3 a0_4 a0_5 a1_0 a1_1 a1_2 a1_3 a1_4 a1_5)) = some (r1, r2, r3, r4, r5, r6, r7) := by rw [if_pos rfl] at H; exact H
      clear H
      have H := H1
      clear H1
      obtain ⟨t877, A9, H⟩ := ob H
      have H' := Aside0.mk H
      clear H
      have hnb10 := NB873_874.out
      have hnc10 := NB874_873.out
      have hnb11 := NB873_875.out
      have hnc11 := NB875_873.out
      have ⟨hcz12_0, hcz12_1, hcz12_2, hcz12_3, hcz12_4, hcz12_5, hfz12_0, hfz12_1, hfz12_2, hfz12_3, hfz12_4, hfz12_5⟩ := cf6 BK873
      go_wp2_with (first | ((with_reducible refine gate_callee (f := 62) rfl ?_); refine gl 7 Try.func62 (grids_move.calls k a0_0 a0_1 a0_2 a0_3 a0_4 a0_5 true _ A7.out) ?_; rintro e w13 ⟨rfl, hb⟩; refine ⟨_, rfl, ?_⟩; replace BK873 := bb BK873 hb; replace BK874 := bb BK874 hb; replace BK875 := bb BK875 hb; replace HB := bst HB hb; clear hb; have hnb14 := NB874_875.out; have hnc14 := NB875_874.out; have ⟨hcz15_0, hcz15_1, hcz15_2, hcz15_3, hcz15_4, hcz15_5, hfz15_0, hfz15_1, hfz15_2, hfz15_3, hfz15_4, hfz15_5⟩ := cf6 BK874) | (go_at_call 62; (with_reducible refine (grids_move.calls k a1_0 a1_1 a1_2 a1_3 a1_4 a1_5 t877 _ A9.out).mono ?_); rintro e w16 ⟨rfl, hb⟩; replace BK873 := bb BK873 hb; replace BK874 := bb BK874 hb; replace BK875 := bb BK875 hb; replace HB := bst HB hb; clear hb))
      go_meet
      case rel => exact ⟨_, (!t877), (by first | rfl | (simp; done) | (simp [*]; done)), H', ⟨by first | omega | exact Nat.le_refl _⟩, ⟨pk BK873⟩, ⟨pk BK874⟩, ⟨pk BK875⟩, ⟨bnow HB⟩⟩
    · replace c8 := Bool.eq_false_iff.mpr c8
      subst c8
      have H1 : (grids_Compose.j0 k true a0_0 a0_1 a0_2 a0_3 a0_4 a0_5 a1_0 a1_1 a1_2 a1_3 a1_4 a1_5) = some (r1, r2, r3, r4, r5, r6, r7) := by rw [if_neg (show ¬ (false = true) by decide)] at H; exact H
      clear H
      have H := H1
      clear H1
      have H' := Aside0.mk H
      clear H
      have hnb17 := NB873_874.out
      have hnc17 := NB874_873.out
      have hnb18 := NB873_875.out
      have hnc18 := NB875_873.out
      have ⟨hcz19_0, hcz19_1, hcz19_2, hcz19_3, hcz19_4, hcz19_5, hfz19_0, hfz19_1, hfz19_2, hfz19_3, hfz19_4, hfz19_5⟩ := cf6 BK873
      go_wp2_with (first | ((with_reducible refine gate_callee (f := 62) rfl ?_); refine gl 7 Try.func62 (grids_move.calls k a0_0 a0_1 a0_2 a0_3 a0_4 a0_5 false _ A7.out) ?_; rintro e w20 ⟨rfl, hb⟩; refine ⟨_, rfl, ?_⟩; replace BK873 := bb BK873 hb; replace BK874 := bb BK874 hb; replace BK875 := bb BK875 hb; replace HB := bst HB hb; clear hb))
      go_meet
      case rel => exact ⟨_, (true), (by first | rfl | (simp; done) | (simp [*]; done)), H', ⟨by first | omega | exact Nat.le_refl _⟩, ⟨pk BK873⟩, ⟨pk BK874⟩, ⟨pk BK875⟩, ⟨bnow HB⟩⟩
  case rest =>
    clear HC3
    try clear c1; try clear c2; try clear p2; try clear c6; try clear c8; try clear c10; try clear c11; try clear c14; try clear c17; try clear c18; try clear hcz12_0; try clear hcz12_1; try clear hcz12_2; try clear hcz12_3; try clear hcz12_4; try clear hcz12_5; try clear hcz15_0; try clear hcz15_1; try clear hcz15_2; try clear hcz15_3; try clear hcz15_4; try clear hcz15_5; try clear hcz19_0; try clear hcz19_1; try clear hcz19_2; try clear hcz19_3; try clear hcz19_4; try clear hcz19_5; try clear hfz12_0; try clear hfz12_1; try clear hfz12_2; try clear hfz12_3; try clear hfz12_4; try clear hfz12_5; try clear hfz15_0; try clear hfz15_1; try clear hfz15_2; try clear hfz15_3; try clear hfz15_4; try clear hfz15_5; try clear hfz19_0; try clear hfz19_1; try clear hfz19_2; try clear hfz19_3; try clear hfz19_4; try clear hfz19_5
    obtain ⟨kq, x13_2, rfl, HA, HJ2, BK873, BK874, BK875, HB⟩ := hcut
    cases kq with
    | zero => exact absurd HA.out (by simp [grids_Compose.j0])
    | succ kj2 =>
      have H := HA.out
      clear HA
      simp only [grids_Compose.j0] at H
      by_cases c21 : x13_2 = true
      · subst c21
        have H1 : (some (0, 0, 0, 0, 0, 0, 2)) = some (r1, r2, r3, r4, r5, r6, r7) := by rw [if_pos rfl] at H; exact H
        clear H
        have H := H1
        clear H1
        simp only [Option.some.injEq, Prod.mk.injEq] at H
        obtain ⟨rfl, rfl, rfl, rfl, rfl, rfl, rfl⟩ := H
        have hnb22 := NB875_873.out
        have hnc22 := NB873_875.out
        have hnb23 := NB875_874.out
        have hnc23 := NB874_875.out
        have ⟨hcz24_0, hcz24_1, hcz24_2, hcz24_3, hcz24_4, hcz24_5, hfz24_0, hfz24_1, hfz24_2, hfz24_3, hfz24_4, hfz24_5⟩ := cf6 BK875
        go_wp2_with (first | ((with_reducible refine gate_store (t := 55) (p := 4) rfl ?_); refine sx 55 4 (((((((wc.setCell ⟨gb875, 0, none⟩ (.int .i64 0)).setCell ⟨gb875, 1, none⟩ (.int .i64 0)).setCell ⟨gb875, 2, none⟩ (.int .i64 0)).setCell ⟨gb875, 3, none⟩ (.int .i64 0)).setCell ⟨gb875, 4, none⟩ (.int .i64 0)).setCell ⟨gb875, 5, none⟩ (.int .i64 0))) fun w25 hw => ?_; replace BK873 := fw hw BK873; replace BK874 := fw hw BK874; replace BK875 := pw6 hw BK875; replace HB := bw hw HB; clear hw))
        refine bodyPost_ret (results_ct rfl _ _ gb875 55 #[.int .i64 0, .int .i64 0, .int .i64 0, .int .i64 0, .int .i64 0, .int .i64 0] (0, 0) _ rfl (pk BK875) Try.underlying55 rfl (by kernel_rfl)) rfl ?_
        exact rt HB
      · replace c21 := Bool.eq_false_iff.mpr c21
        subst c21
        have H1 : ((grids_times.f a0_0 a0_1 a0_2 a0_3 a1_0 a1_1 a1_2 a1_3).bind fun bt878 => ((grids_image.f a0_0 a0_1 a0_2 a0_3 a0_4 a0_5 a1_4 a1_5).bind fun bt882 => ((grids_valid.f kj2 bt878.1 bt878.2.1 bt878.2.2.1 bt878.2.2.2 bt882.1 bt882.2).bind fun bt884 => (some (bt884.1, bt884.2.1, bt884.2.2.1, bt884.2.2.2.1, bt884.2.2.2.2.1, bt884.2.2.2.2.2.1, bt884.2.2.2.2.2.2))))) = some (r1, r2, r3, r4, r5, r6, r7) := by rw [if_neg (show ¬ (false = true) by decide)] at H; exact H
        clear H
        have H := H1
        clear H1
        obtain ⟨⟨t878, t879, t880, t881⟩, A26, H⟩ := ob H
        obtain ⟨⟨t882, t883⟩, A27, H⟩ := ob H
        obtain ⟨⟨t884, t885, t886, t887, t888, t889, t890⟩, A28, H⟩ := ob H
        simp only [Option.some.injEq, Prod.mk.injEq] at H
        obtain ⟨rfl, rfl, rfl, rfl, rfl, rfl, rfl⟩ := H
        try go_wp2
        replace BK873 := bd BK873
        replace BK874 := bd BK874
        replace BK875 := bd BK875
        replace HB := bdn HB
        refine start_ (n := 15) (S := fun w' => w'.cell? ⟨gb873, 0, none⟩ = some (.int .i64 a0_0) ∧ w'.cell? ⟨gb873, 1, none⟩ = some (.int .i64 a0_1) ∧ w'.cell? ⟨gb873, 2, none⟩ = some (.int .i64 a0_2) ∧ w'.cell? ⟨gb873, 3, none⟩ = some (.int .i64 a0_3) ∧ w'.cell? ⟨gb873, 4, none⟩ = some (.int .i64 a0_4) ∧ w'.cell? ⟨gb873, 5, none⟩ = some (.int .i64 a0_5) ∧ w'.cell? ⟨gb874, 0, none⟩ = some (.int .i64 a1_0) ∧ w'.cell? ⟨gb874, 1, none⟩ = some (.int .i64 a1_1) ∧ w'.cell? ⟨gb874, 2, none⟩ = some (.int .i64 a1_2) ∧ w'.cell? ⟨gb874, 3, none⟩ = some (.int .i64 a1_3) ∧ w'.cell? ⟨gb874, 4, none⟩ = some (.int .i64 a1_4) ∧ w'.cell? ⟨gb874, 5, none⟩ = some (.int .i64 a1_5)) (ds := []) #[false, false, false, false, false, false, false, false, false, false, false, false, false, false, false] (by kernel_rfl) rfl rfl ⟨(blk_cell BK873.out 0).trans rfl, (blk_cell BK873.out 1).trans rfl, (blk_cell BK873.out 2).trans rfl, (blk_cell BK873.out 3).trans rfl, (blk_cell BK873.out 4).trans rfl, (blk_cell BK873.out 5).trans rfl, (blk_cell BK874.out 0).trans rfl, (blk_cell BK874.out 1).trans rfl, (blk_cell BK874.out 2).trans rfl, (blk_cell BK874.out 3).trans rfl, (blk_cell BK874.out 4).trans rfl, (blk_cell BK874.out 5).trans rfl⟩ (fun hHeld => ?_); refine with_tabW grids_Compose.tab3 grids_Compose.bits3 (fun HT_ HW_ => ?_)
        generalize wc.drew = w29 at BK873 BK874 BK875 HB hHeld ⊢
        refine pz 0 15 HT_ ?_
        refine pz 2 17 HT_ ?_
        refine pz 6 21 HT_ ?_
        refine tz 1 16 HT_ HW_ hHeld ?_
        refine tz 3 18 HT_ HW_ hHeld ?_
        refine tz 5 20 HT_ HW_ hHeld ?_
        refine tz 7 22 HT_ HW_ hHeld ?_
        refine one_ (i := 4) (N := some 19) #[true, true, true, true, true, true, true, true, false, false, false, false, false, false, false] rfl rfl (one_of HT_.out (by kernel_rfl)) (by decide) (fun K hK => ?_)
        refine gs _ Try.func40 (grids_times.calls a0_0 a0_1 a0_2 a0_3 a1_0 a1_1 a1_2 a1_3 t878 t879 t880 t881 _ A26.out) ?_
        rintro e w30 ⟨rfl, hb⟩
        refine ⟨_, rfl, ?_⟩
        replace BK873 := bb BK873 hb
        replace BK874 := bb BK874 hb
        replace BK875 := bb BK875 hb
        replace HB := bst HB hb
        (try clear hb)
        (try clear hb2)
        (try clear hk)
        (try clear hi)
        refine hK.out _ _ ⟨(blk_cell BK873.out 0).trans rfl, (blk_cell BK873.out 1).trans rfl, (blk_cell BK873.out 2).trans rfl, (blk_cell BK873.out 3).trans rfl, (blk_cell BK873.out 4).trans rfl, (blk_cell BK873.out 5).trans rfl, (blk_cell BK874.out 0).trans rfl, (blk_cell BK874.out 1).trans rfl, (blk_cell BK874.out 2).trans rfl, (blk_cell BK874.out 3).trans rfl, (blk_cell BK874.out 4).trans rfl, (blk_cell BK874.out 5).trans rfl⟩ (fun hHeld => ?_)
        clear hK K
        refine norm_ (a' := ?_) ?_ ?_
        rotate_left
        · show Act.put _ (some 19) _ = _
          simp only [Act.put, List.setIfInBounds_toArray, List.set_cons_zero, List.set_cons_succ, i64_w, i32_w]
          rfl
        refine one_ (i := 8) (N := some 23) #[true, true, true, true, true, true, true, true, true, false, false, false, false, false, false] rfl rfl (one_of HT_.out (by kernel_rfl)) (by decide) (fun K hK => ?_)
        refine gs _ Try.func63 (grids_image.calls a0_0 a0_1 a0_2 a0_3 a0_4 a0_5 a1_4 a1_5 t882 t883 _ A27.out) ?_
        rintro e w31 ⟨rfl, hb⟩
        refine ⟨_, rfl, ?_⟩
        replace BK873 := bb BK873 hb
        replace BK874 := bb BK874 hb
        replace BK875 := bb BK875 hb
        replace HB := bst HB hb
        (try clear hb)
        (try clear hb2)
        (try clear hk)
        (try clear hi)
        refine hK.out _ _ ⟨(blk_cell BK873.out 0).trans rfl, (blk_cell BK873.out 1).trans rfl, (blk_cell BK873.out 2).trans rfl, (blk_cell BK873.out 3).trans rfl, (blk_cell BK873.out 4).trans rfl, (blk_cell BK873.out 5).trans rfl, (blk_cell BK874.out 0).trans rfl, (blk_cell BK874.out 1).trans rfl, (blk_cell BK874.out 2).trans rfl, (blk_cell BK874.out 3).trans rfl, (blk_cell BK874.out 4).trans rfl, (blk_cell BK874.out 5).trans rfl⟩ (fun hHeld => ?_)
        clear hK K
        refine norm_ (a' := ?_) ?_ ?_
        rotate_left
        · show Act.put _ (some 23) _ = _
          simp only [Act.put, List.setIfInBounds_toArray, List.set_cons_zero, List.set_cons_succ, i64_w, i32_w]
          rfl
        refine pz 9 24 HT_ ?_
        refine one_ (i := 10) (N := some 25) #[true, true, true, true, true, true, true, true, true, true, true, false, false, false, false] rfl rfl (one_of HT_.out (by kernel_rfl)) (by decide) (fun K hK => ?_)
        refine gs _ Try.func67 (grids_valid.calls kj2 t878 t879 t880 t881 t882 t883 t884 t885 t886 t887 t888 t889 t890 _ A28.out) ?_
        rintro e w32 ⟨rfl, hb⟩
        refine ⟨_, rfl, ?_⟩
        replace BK873 := bb BK873 hb
        replace BK874 := bb BK874 hb
        replace BK875 := bb BK875 hb
        replace HB := bst HB hb
        (try clear hb)
        (try clear hb2)
        (try clear hk)
        (try clear hi)
        refine hK.out _ _ ⟨(blk_cell BK873.out 0).trans rfl, (blk_cell BK873.out 1).trans rfl, (blk_cell BK873.out 2).trans rfl, (blk_cell BK873.out 3).trans rfl, (blk_cell BK873.out 4).trans rfl, (blk_cell BK873.out 5).trans rfl, (blk_cell BK874.out 0).trans rfl, (blk_cell BK874.out 1).trans rfl, (blk_cell BK874.out 2).trans rfl, (blk_cell BK874.out 3).trans rfl, (blk_cell BK874.out 4).trans rfl, (blk_cell BK874.out 5).trans rfl⟩ (fun hHeld => ?_)
        clear hK K
        refine norm_ (a' := ?_) ?_ ?_
        rotate_left
        · show Act.put _ (some 25) _ = _
          simp only [Act.put, List.setIfInBounds_toArray, List.set_cons_zero, List.set_cons_succ, i64_w, i32_w]
          rfl
        refine pz 11 26 HT_ ?_
        refine pz 12 27 HT_ ?_
        refine one_ (i := 13) (N := none) #[true, true, true, true, true, true, true, true, true, true, true, true, true, true, false] rfl rfl (one_of HT_.out (by kernel_rfl)) (by decide) (fun K hK => ?_)
        have hs33 : w32.cell? ⟨gb875, 0, none⟩ = some (.int .i64 0) := (blk_cell BK875.out 0).trans rfl
        have hfs33 := blk_frozen BK875.out 0
        have hns33_0 := NB873_875.out
        have hns33_1 := NB874_875.out
        have hms33_0 := NB875_873.out
        have hms33_1 := NB875_874.out
        have hs34 : w32.cell? ⟨gb875, 1, none⟩ = some (.int .i64 0) := (blk_cell BK875.out 1).trans rfl
        have hfs34 := blk_frozen BK875.out 1
        have hns34_0 := NB873_875.out
        have hns34_1 := NB874_875.out
        have hms34_0 := NB875_873.out
        have hms34_1 := NB875_874.out
        have hs35 : w32.cell? ⟨gb875, 2, none⟩ = some (.int .i64 0) := (blk_cell BK875.out 2).trans rfl
        have hfs35 := blk_frozen BK875.out 2
        have hns35_0 := NB873_875.out
        have hns35_1 := NB874_875.out
        have hms35_0 := NB875_873.out
        have hms35_1 := NB875_874.out
        have hs36 : w32.cell? ⟨gb875, 3, none⟩ = some (.int .i64 0) := (blk_cell BK875.out 3).trans rfl
        have hfs36 := blk_frozen BK875.out 3
        have hns36_0 := NB873_875.out
        have hns36_1 := NB874_875.out
        have hms36_0 := NB875_873.out
        have hms36_1 := NB875_874.out
        have hs37 : w32.cell? ⟨gb875, 4, none⟩ = some (.int .i64 0) := (blk_cell BK875.out 4).trans rfl
        have hfs37 := blk_frozen BK875.out 4
        have hns37_0 := NB873_875.out
        have hns37_1 := NB874_875.out
        have hms37_0 := NB875_873.out
        have hms37_1 := NB875_874.out
        have hs38 : w32.cell? ⟨gb875, 5, none⟩ = some (.int .i64 0) := (blk_cell BK875.out 5).trans rfl
        have hfs38 := blk_frozen BK875.out 5
        have hns38_0 := NB873_875.out
        have hns38_1 := NB874_875.out
        have hms38_0 := NB875_873.out
        have hms38_1 := NB875_874.out
        refine skip_ (w1 := ?_) (by rfl) rfl ?_ ?_
        rotate_left
        · go_simp
          rfl
        refine hK.out _ _ ⟨((cell_far (p := ⟨gb875, _, none⟩) NB873_875.out _).trans (((cell_far (p := ⟨gb875, _, none⟩) NB873_875.out _).trans (((cell_far (p := ⟨gb875, _, none⟩) NB873_875.out _).trans (((cell_far (p := ⟨gb875, _, none⟩) NB873_875.out _).trans (((cell_far (p := ⟨gb875, _, none⟩) NB873_875.out _).trans (((cell_far (p := ⟨gb875, _, none⟩) NB873_875.out _).trans (hHeld.1)))))))))))), ((cell_far (p := ⟨gb875, _, none⟩) NB873_875.out _).trans (((cell_far (p := ⟨gb875, _, none⟩) NB873_875.out _).trans (((cell_far (p := ⟨gb875, _, none⟩) NB873_875.out _).trans (((cell_far (p := ⟨gb875, _, none⟩) NB873_875.out _).trans (((cell_far (p := ⟨gb875, _, none⟩) NB873_875.out _).trans (((cell_far (p := ⟨gb875, _, none⟩) NB873_875.out _).trans (hHeld.2.1)))))))))))), ((cell_far (p := ⟨gb875, _, none⟩) NB873_875.out _).trans (((cell_far (p := ⟨gb875, _, none⟩) NB873_875.out _).trans (((cell_far (p := ⟨gb875, _, none⟩) NB873_875.out _).trans (((cell_far (p := ⟨gb875, _, none⟩) NB873_875.out _).trans (((cell_far (p := ⟨gb875, _, none⟩) NB873_875.out _).trans (((cell_far (p := ⟨gb875, _, none⟩) NB873_875.out _).trans (hHeld.2.2.1)))))))))))), ((cell_far (p := ⟨gb875, _, none⟩) NB873_875.out _).trans (((cell_far (p := ⟨gb875, _, none⟩) NB873_875.out _).trans (((cell_far (p := ⟨gb875, _, none⟩) NB873_875.out _).trans (((cell_far (p := ⟨gb875, _, none⟩) NB873_875.out _).trans (((cell_far (p := ⟨gb875, _, none⟩) NB873_875.out _).trans (((cell_far (p := ⟨gb875, _, none⟩) NB873_875.out _).trans (hHeld.2.2.2.1)))))))))))), ((cell_far (p := ⟨gb875, _, none⟩) NB873_875.out _).trans (((cell_far (p := ⟨gb875, _, none⟩) NB873_875.out _).trans (((cell_far (p := ⟨gb875, _, none⟩) NB873_875.out _).trans (((cell_far (p := ⟨gb875, _, none⟩) NB873_875.out _).trans (((cell_far (p := ⟨gb875, _, none⟩) NB873_875.out _).trans (((cell_far (p := ⟨gb875, _, none⟩) NB873_875.out _).trans (hHeld.2.2.2.2.1)))))))))))), ((cell_far (p := ⟨gb875, _, none⟩) NB873_875.out _).trans (((cell_far (p := ⟨gb875, _, none⟩) NB873_875.out _).trans (((cell_far (p := ⟨gb875, _, none⟩) NB873_875.out _).trans (((cell_far (p := ⟨gb875, _, none⟩) NB873_875.out _).trans (((cell_far (p := ⟨gb875, _, none⟩) NB873_875.out _).trans (((cell_far (p := ⟨gb875, _, none⟩) NB873_875.out _).trans (hHeld.2.2.2.2.2.1)))))))))))), ((cell_far (p := ⟨gb875, _, none⟩) NB874_875.out _).trans (((cell_far (p := ⟨gb875, _, none⟩) NB874_875.out _).trans (((cell_far (p := ⟨gb875, _, none⟩) NB874_875.out _).trans (((cell_far (p := ⟨gb875, _, none⟩) NB874_875.out _).trans (((cell_far (p := ⟨gb875, _, none⟩) NB874_875.out _).trans (((cell_far (p := ⟨gb875, _, none⟩) NB874_875.out _).trans (hHeld.2.2.2.2.2.2.1)))))))))))), ((cell_far (p := ⟨gb875, _, none⟩) NB874_875.out _).trans (((cell_far (p := ⟨gb875, _, none⟩) NB874_875.out _).trans (((cell_far (p := ⟨gb875, _, none⟩) NB874_875.out _).trans (((cell_far (p := ⟨gb875, _, none⟩) NB874_875.out _).trans (((cell_far (p := ⟨gb875, _, none⟩) NB874_875.out _).trans (((cell_far (p := ⟨gb875, _, none⟩) NB874_875.out _).trans (hHeld.2.2.2.2.2.2.2.1)))))))))))), ((cell_far (p := ⟨gb875, _, none⟩) NB874_875.out _).trans (((cell_far (p := ⟨gb875, _, none⟩) NB874_875.out _).trans (((cell_far (p := ⟨gb875, _, none⟩) NB874_875.out _).trans (((cell_far (p := ⟨gb875, _, none⟩) NB874_875.out _).trans (((cell_far (p := ⟨gb875, _, none⟩) NB874_875.out _).trans (((cell_far (p := ⟨gb875, _, none⟩) NB874_875.out _).trans (hHeld.2.2.2.2.2.2.2.2.1)))))))))))), ((cell_far (p := ⟨gb875, _, none⟩) NB874_875.out _).trans (((cell_far (p := ⟨gb875, _, none⟩) NB874_875.out _).trans (((cell_far (p := ⟨gb875, _, none⟩) NB874_875.out _).trans (((cell_far (p := ⟨gb875, _, none⟩) NB874_875.out _).trans (((cell_far (p := ⟨gb875, _, none⟩) NB874_875.out _).trans (((cell_far (p := ⟨gb875, _, none⟩) NB874_875.out _).trans (hHeld.2.2.2.2.2.2.2.2.2.1)))))))))))), ((cell_far (p := ⟨gb875, _, none⟩) NB874_875.out _).trans (((cell_far (p := ⟨gb875, _, none⟩) NB874_875.out _).trans (((cell_far (p := ⟨gb875, _, none⟩) NB874_875.out _).trans (((cell_far (p := ⟨gb875, _, none⟩) NB874_875.out _).trans (((cell_far (p := ⟨gb875, _, none⟩) NB874_875.out _).trans (((cell_far (p := ⟨gb875, _, none⟩) NB874_875.out _).trans (hHeld.2.2.2.2.2.2.2.2.2.2.1)))))))))))), ((cell_far (p := ⟨gb875, _, none⟩) NB874_875.out _).trans (((cell_far (p := ⟨gb875, _, none⟩) NB874_875.out _).trans (((cell_far (p := ⟨gb875, _, none⟩) NB874_875.out _).trans (((cell_far (p := ⟨gb875, _, none⟩) NB874_875.out _).trans (((cell_far (p := ⟨gb875, _, none⟩) NB874_875.out _).trans (((cell_far (p := ⟨gb875, _, none⟩) NB874_875.out _).trans (hHeld.2.2.2.2.2.2.2.2.2.2.2))))))))))))⟩ (fun hHeld => ?_)
        clear hK K
        refine pz 14 5 HT_ ?_
        refine done_ (done_of HT_.out (by kernel_rfl)) ?_
        try go_wp2
        refine bodyPost_ret (results_ct rfl _ _ gb875 55 #[.int .i64 t884, .int .i64 t885, .int .i64 t886, .int .i64 t887, .int .i64 t888, .int .i64 t889] (0, 0) _ rfl (by (with_reducible repeat (first | refine blk_drewN ?_ _ | refine blk_drew ?_ | refine blk_alloc ?_ _)); refine blk_put (cs := #[.int .i64 t884, .int .i64 t885, .int .i64 t886, .int .i64 t887, .int .i64 t888, .int .i64 0]) ?_ 5 _ rfl; (with_reducible repeat (first | refine blk_drewN ?_ _ | refine blk_drew ?_ | refine blk_alloc ?_ _)); refine blk_put (cs := #[.int .i64 t884, .int .i64 t885, .int .i64 t886, .int .i64 t887, .int .i64 0, .int .i64 0]) ?_ 4 _ rfl; (with_reducible repeat (first | refine blk_drewN ?_ _ | refine blk_drew ?_ | refine blk_alloc ?_ _)); refine blk_put (cs := #[.int .i64 t884, .int .i64 t885, .int .i64 t886, .int .i64 0, .int .i64 0, .int .i64 0]) ?_ 3 _ rfl; (with_reducible repeat (first | refine blk_drewN ?_ _ | refine blk_drew ?_ | refine blk_alloc ?_ _)); refine blk_put (cs := #[.int .i64 t884, .int .i64 t885, .int .i64 0, .int .i64 0, .int .i64 0, .int .i64 0]) ?_ 2 _ rfl; (with_reducible repeat (first | refine blk_drewN ?_ _ | refine blk_drew ?_ | refine blk_alloc ?_ _)); refine blk_put (cs := #[.int .i64 t884, .int .i64 0, .int .i64 0, .int .i64 0, .int .i64 0, .int .i64 0]) ?_ 1 _ rfl; (with_reducible repeat (first | refine blk_drewN ?_ _ | refine blk_drew ?_ | refine blk_alloc ?_ _)); refine blk_put (cs := #[.int .i64 0, .int .i64 0, .int .i64 0, .int .i64 0, .int .i64 0, .int .i64 0]) ?_ 0 _ rfl; (with_reducible repeat (first | refine blk_drewN ?_ _ | refine blk_drew ?_ | refine blk_alloc ?_ _)); exact BK875.out) Try.underlying55 rfl (by kernel_rfl)) rfl ?_
        exact rt HB
end
section
/-! ### torchonref06_Times: function 37 -/
def torchonref06_Times.f (a0_0 : Int) (a0_1 : Int) (a0_2 : Int) (a0_3 : Int) (a1_0 : Int) (a1_1 : Int) (a1_2 : Int) (a1_3 : Int) : Option (Int × Int × Int × Int) := (some (wrap64 (a0_0 * a1_0))).bind fun z894 => ((some (wrap64 (a0_1 * a1_2))).bind fun z895 => ((some (wrap64 (z894 + z895))).bind fun z896 => ((some (wrap64 (a0_0 * a1_1))).bind fun z897 => ((some (wrap64 (a0_1 * a1_3))).bind fun z898 => ((some (wrap64 (z897 + z898))).bind fun z899 => ((some (wrap64 (a0_2 * a1_0))).bind fun z900 => ((some (wrap64 (a0_3 * a1_2))).bind fun z901 => ((some (wrap64 (z900 + z901))).bind fun z902 => ((some (wrap64 (a0_2 * a1_1))).bind fun z903 => ((some (wrap64 (a0_3 * a1_3))).bind fun z904 => ((some (wrap64 (z903 + z904))).bind fun z905 => (some (z896, z899, z902, z905)))))))))))))
set_option maxHeartbeats 8000000 in
set_option maxRecDepth 100000 in
theorem torchonref06_Times.calls (a0_0 : Int) (a0_1 : Int) (a0_2 : Int) (a0_3 : Int) (a1_0 : Int) (a1_1 : Int) (a1_2 : Int) (a1_3 : Int) (r1 : Int) (r2 : Int) (r3 : Int) (r4 : Int) (w : World) (h : torchonref06_Times.f a0_0 a0_1 a0_2 a0_3 a1_0 a1_1 a1_2 a1_3 = some (r1, r2, r3, r4)) :
    Calls Try.prog 37 #[.agg #[.int .i64 a0_0, .int .i64 a0_1, .int .i64 a0_2, .int .i64 a0_3], .agg #[.int .i64 a1_0, .int .i64 a1_1, .int .i64 a1_2, .int .i64 a1_3]] w fun e w' => e = .returned (.agg #[.int .i64 r1, .int .i64 r2, .int .i64 r3, .int .i64 r4]) ∧ Below w.heap.size w w' := by
  have hu25 := Try.underlying25
  have HB := Aside0.mk (Below.refl w.heap.size w)
  have H : ((some (wrap64 (a0_0 * a1_0))).bind fun z894 => ((some (wrap64 (a0_1 * a1_2))).bind fun z895 => ((some (wrap64 (z894 + z895))).bind fun z896 => ((some (wrap64 (a0_0 * a1_1))).bind fun z897 => ((some (wrap64 (a0_1 * a1_3))).bind fun z898 => ((some (wrap64 (z897 + z898))).bind fun z899 => ((some (wrap64 (a0_2 * a1_0))).bind fun z900 => ((some (wrap64 (a0_3 * a1_2))).bind fun z901 => ((some (wrap64 (z900 + z901))).bind fun z902 => ((some (wrap64 (a0_2 * a1_1))).bind fun z903 => ((some (wrap64 (a0_3 * a1_3))).bind fun z904 => ((some (wrap64 (z903 + z904))).bind fun z905 => (some (z896, z899, z902, z905)))))))))))))) = some (r1, r2, r3, r4) := h
  clear h
  obtain ⟨z894, E30, H⟩ := oc H
  have E3w : (IntKind.i64.wrap (a0_0 * a1_0)) = z894 := (i64_w _).trans E30
  obtain ⟨z895, E40, H⟩ := oc H
  have E4w : (IntKind.i64.wrap (a0_1 * a1_2)) = z895 := (i64_w _).trans E40
  obtain ⟨z896, E50, H⟩ := oc H
  have E5w : (IntKind.i64.wrap (z894 + z895)) = z896 := (i64_w _).trans E50
  obtain ⟨z897, E60, H⟩ := oc H
  have E6w : (IntKind.i64.wrap (a0_0 * a1_1)) = z897 := (i64_w _).trans E60
  obtain ⟨z898, E70, H⟩ := oc H
  have E7w : (IntKind.i64.wrap (a0_1 * a1_3)) = z898 := (i64_w _).trans E70
  obtain ⟨z899, E80, H⟩ := oc H
  have E8w : (IntKind.i64.wrap (z897 + z898)) = z899 := (i64_w _).trans E80
  obtain ⟨z900, E90, H⟩ := oc H
  have E9w : (IntKind.i64.wrap (a0_2 * a1_0)) = z900 := (i64_w _).trans E90
  obtain ⟨z901, E100, H⟩ := oc H
  have E10w : (IntKind.i64.wrap (a0_3 * a1_2)) = z901 := (i64_w _).trans E100
  obtain ⟨z902, E110, H⟩ := oc H
  have E11w : (IntKind.i64.wrap (z900 + z901)) = z902 := (i64_w _).trans E110
  obtain ⟨z903, E120, H⟩ := oc H
  have E12w : (IntKind.i64.wrap (a0_2 * a1_1)) = z903 := (i64_w _).trans E120
  obtain ⟨z904, E130, H⟩ := oc H
  have E13w : (IntKind.i64.wrap (a0_3 * a1_3)) = z904 := (i64_w _).trans E130
  obtain ⟨z905, E140, H⟩ := oc H
  have E14w : (IntKind.i64.wrap (z903 + z904)) = z905 := (i64_w _).trans E140
  simp only [Option.some.injEq, Prod.mk.injEq] at H
  obtain ⟨rfl, rfl, rfl, rfl⟩ := H
  go_enter Try.func37, Try.ntmps37
  go_wp2_with (first | ((with_reducible refine gate_dst (N := 2) rfl ?_); refine bx 2 #[.int .i64 a0_0, .int .i64 a0_1, .int .i64 a0_2, .int .i64 a0_3] 25 fun gb891 hg w15 BK891 hb => ?_; have GW891 := gw hg HB; have GE891 := gw hg HB; replace HB := bst HB hb; clear hb hg) | ((with_reducible refine gate_dst (N := 3) rfl ?_); refine bx 3 #[.int .i64 a1_0, .int .i64 a1_1, .int .i64 a1_2, .int .i64 a1_3] 25 fun gb892 hg w16 BK892 hb => ?_; have GW892 := gw hg HB; have GE892 := gw hg HB; have NB891_892 := nlt hg BK891; have NB892_891 := ngt hg BK891; replace BK891 := bb BK891 hb; replace HB := bst HB hb; clear hb hg) | ((with_reducible refine gate_dst (N := 4) rfl ?_); refine bx 4 #[.int .i64 0, .int .i64 0, .int .i64 0, .int .i64 0] 25 fun gb893 hg w17 BK893 hb => ?_; have GW893 := gw hg HB; have GE893 := gw hg HB; have NB891_893 := nlt hg BK891; have NB893_891 := ngt hg BK891; have NB892_893 := nlt hg BK892; have NB893_892 := ngt hg BK892; replace BK891 := bb BK891 hb; replace BK892 := bb BK892 hb; replace HB := bst HB hb; clear hb hg; have hnb18 := NB891_892.out; have hnc18 := NB892_891.out; have hnb19 := NB891_893.out; have hnc19 := NB893_891.out; have ⟨hcz20_0, hcz20_1, hcz20_2, hcz20_3, hfz20_0, hfz20_1, hfz20_2, hfz20_3⟩ := cf4 BK891; have hnb21 := NB892_893.out; have hnc21 := NB893_892.out; have ⟨hcz22_0, hcz22_1, hcz22_2, hcz22_3, hfz22_0, hfz22_1, hfz22_2, hfz22_3⟩ := cf4 BK892; have ⟨hcz23_0, hcz23_1, hcz23_2, hcz23_3, hfz23_0, hfz23_1, hfz23_2, hfz23_3⟩ := cf4 BK893) | ((with_reducible refine gate_store (t := 25) (p := 4) rfl ?_); refine sx 25 4 (((((w17.setCell ⟨gb893, 0, none⟩ (.int .i64 z896)).setCell ⟨gb893, 1, none⟩ (.int .i64 z899)).setCell ⟨gb893, 2, none⟩ (.int .i64 z902)).setCell ⟨gb893, 3, none⟩ (.int .i64 z905))) fun w24 hw => ?_; replace BK891 := fw hw BK891; replace BK892 := fw hw BK892; replace BK893 := pw4 hw BK893; replace HB := bw hw HB; clear hw))
  refine bodyPost_ret (results_cell_row rfl _ _ gb893 25 #[.int .i64 z896, .int .i64 z899, .int .i64 z902, .int .i64 z905] (0, 0) _ rfl (pk BK893) Try.underlying25 rfl (by kernel_rfl)) rfl ?_
  exact rt HB
end
end Go.Proofs.Ytmcajdepoohlhaa.G
