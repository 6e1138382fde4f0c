/- Functions of the program as plain Lean functions, and their contracts (printed by a program of this session). No condition beyond what each states. -/
import Derived.Test.YtmcajdepoohlhaaCRdcY
import Derived.Test.YtmcajdepoohlhaaCRdcP0
import Derived.Test.YtmcajdepoohlhaaCRdcP2
import Derived.Test.YtmcajdepoohlhaaCRdcP1
namespace Go.Proofs.Ytmcajdepoohlhaa.G
open Go.RowKit Go.Proofs.YtmcajdepoohlhaaW.PrintWords Go.Proofs.YtmcajdepoohlhaaW.PrintLast Go.Proofs.YtmcajdepoohlhaaW.PrintMore
attribute [local go_sem] max2_int min2_int max_two min_two max_three min_three max_four min_four
set_option linter.unusedVariables false
set_option linter.unusedSimpArgs false
section
/-! ### grids_Group: function 22 -/
def grids_Group.l0 : Nat → List (S25) → Int → Int → Int → Int → Int → Int → Option ((List (S25)) × Int)
  | 0, _, _, _, _, _, _, _ => none
  | k + 1, x7, x22, x23, x517000, x517001, x517002, x517003 => if x23 < x22 then (if 0 ≤ x23 then (if x23 < (x7.length : Int) then ((grids_times.f x517000 x517001 x517002 x517003 ((rd_T25 x7 x23).f0) ((rd_T25 x7 x23).f1) ((rd_T25 x7 x23).f2) ((rd_T25 x7 x23).f3)).bind fun bt521 => ((grids_inverse.f x517000 x517001 x517002 x517003).bind fun bt525 => ((grids_times.f bt521.1 bt521.2.1 bt521.2.2.1 bt521.2.2.2 bt525.1 bt525.2.1 bt525.2.2.1 bt525.2.2.2).bind fun bt529 => ((some (wrap64 (x23 + 1))).bind fun z534 => (grids_Group.l0 k (x7.set (x23 : Int).toNat (⟨bt529.1, bt529.2.1, bt529.2.2.1, bt529.2.2.2⟩ : S25)) x22 z534 x517000 x517001 x517002 x517003))))) else (none)) else (none)) else ((api_GrMatrix_58.f k x7).bind fun t535 => (some (t535, 0)))
def grids_Group.f (k : Nat) (a0_0 : Int) (a0_1 : Int) (a0_2 : Int) : Option ((List (S25)) × Int) := (grids_Check.f k a0_0 a0_1 a0_2).bind fun t507 => (if t507 = 0 then ((grids_reduce.f k a0_0 a0_1 a0_2).bind fun bt508 => ((grids_group.f k bt508.1 bt508.2.1 bt508.2.2.1).bind fun t517 => (grids_Group.l0 k t517 (t517.length : Int) 0 bt508.2.2.2.1 bt508.2.2.2.2.1 bt508.2.2.2.2.2.1 bt508.2.2.2.2.2.2))) else (some (([] : List (S25)), t507)))
theorem grids_Group.mono_l : ∀ k, (∀ y0 y1 y2 y3 y4 y5 y6, LeO (grids_Group.l0 k y0 y1 y2 y3 y4 y5 y6) (grids_Group.l0 (k + 1) y0 y1 y2 y3 y4 y5 y6))
  | 0 => fun _ _ _ _ _ _ _ r h => by simp [grids_Group.l0] at h
  | k + 1 => by
    have ih0 := grids_Group.mono_l k
    · intro y0 y1 y2 y3 y4 y5 y6
      unfold grids_Group.l0
      repeat' first
      | (with_reducible exact ih0 _ _ _ _ _ _ _)
      | (with_reducible exact api_GrMatrix_58.mono _ _)
      | (with_reducible exact grids_Check.mono _ _ _ _)
      | (with_reducible exact grids_group.mono _ _ _ _)
      | (with_reducible exact grids_reduce.mono _ _ _ _)
      | (with_reducible exact LeO.refl _)
      | (with_reducible exact LeO.none _)
      | (with_reducible refine LeO.ite ?_ ?_)
      | (with_reducible refine LeO.bind ?_ (fun _ => ?_))
      | exact ih0 _ _ _ _ _ _ _
      | exact api_GrMatrix_58.mono _ _
      | exact grids_Check.mono _ _ _ _
      | exact grids_group.mono _ _ _ _
      | exact grids_reduce.mono _ _ _ _
      | exact LeO.none _
      | refine LeO.ite ?_ ?_
      | refine LeO.bind ?_ (fun _ => ?_)
theorem grids_Group.mono : ∀ a0 a1 a2 k, LeO (grids_Group.f k a0 a1 a2) (grids_Group.f (k + 1) a0 a1 a2) := by
  intro a0 a1 a2 k
  have ih0 := grids_Group.mono_l k
  unfold grids_Group.f
  repeat' first
      | (with_reducible exact ih0 _ _ _ _ _ _ _)
      | (with_reducible exact api_GrMatrix_58.mono _ _)
      | (with_reducible exact grids_Check.mono _ _ _ _)
      | (with_reducible exact grids_group.mono _ _ _ _)
      | (with_reducible exact grids_reduce.mono _ _ _ _)
      | (with_reducible exact LeO.refl _)
      | (with_reducible exact LeO.none _)
      | (with_reducible refine LeO.ite ?_ ?_)
      | (with_reducible refine LeO.bind ?_ (fun _ => ?_))
      | exact ih0 _ _ _ _ _ _ _
      | exact api_GrMatrix_58.mono _ _
      | exact grids_Check.mono _ _ _ _
      | exact grids_group.mono _ _ _ _
      | exact grids_reduce.mono _ _ _ _
      | exact LeO.none _
      | refine LeO.ite ?_ ?_
      | refine LeO.bind ?_ (fun _ => ?_)
def grids_Group.T9 : Bool × List (List Nat × List Nat) := (true, [([], []), ([], []), ([], []), ([], []), ([], []), ([3, 4], [3, 4]), ([5], [5]), ([2, 6], [2, 6]), ([], []), ([8, 7], [8]), ([7, 9, 9], [7, 9]), ([0, 1, 0, 1, 2, 3, 4, 5, 6, 7, 8, 9, 10], [0, 1]), ([11, 10, 10, 0, 1, 2, 3, 4, 5, 6, 7, 8, 9, 10], [10, 11])])
def grids_Group.B9 : List Nat := [0, 0, 0, 0, 0, 24, 56, 124, 0, 508, 1020, 2047, 4095]
theorem grids_Group.tab9 : rtab .any (opsOf Try.f22 9) = grids_Group.T9 := by kernel_rfl
theorem grids_Group.bits9 : waitsOk grids_Group.T9.2 grids_Group.B9 = true := by kernel_rfl
set_option maxHeartbeats 8000000 in
set_option maxRecDepth 100000 in
theorem grids_Group.calls (k : Nat) (a0_0 : Int) (a0_1 : Int) (a0_2 : Int) (r1 : List (S25)) (r2 : Int) (w : World) (h : grids_Group.f k a0_0 a0_1 a0_2 = some (r1, r2)) :
    Calls Try.prog 22 #[.agg #[.int .i64 a0_0, .int .i64 a0_1, .int .i64 a0_2]] w fun e w' => ∃ v0_ : Value, e = .returned (.tuple #[v0_, .int .i64 r2]) ∧ Kd.R k25 25 w' w.heap.size (fun _ => True) v0_ r1 ∧ Below w.heap.size w w' := by
  have hu23 := Try.underlying23
  have hu25 := Try.underlying25
  have HB := Aside0.mk (Below.refl w.heap.size w)
  have H : ((grids_Check.f k a0_0 a0_1 a0_2).bind fun t507 => (if t507 = 0 then ((grids_reduce.f k a0_0 a0_1 a0_2).bind fun bt508 => ((grids_group.f k bt508.1 bt508.2.1 bt508.2.2.1).bind fun t517 => (grids_Group.l0 k t517 (t517.length : Int) 0 bt508.2.2.2.1 bt508.2.2.2.2.1 bt508.2.2.2.2.2.1 bt508.2.2.2.2.2.2))) else (some (([] : List (S25)), t507)))) = some (r1, r2) := h
  clear h
  obtain ⟨t507, A2, H⟩ := ob H
  by_cases c3 : t507 = 0
  · rw [if_pos c3] at H
    have c3b0 : (t507 == 0) = true := beq_iff_eq.mpr c3
    have c3b1 : (t507 != 0) = false := bne_eq_false_iff_eq.mpr c3
    clear c3
    obtain ⟨⟨t508, t509, t510, t511, t512, t513, t514⟩, A4, H⟩ := ob H
    obtain ⟨t517, A5, H⟩ := ob H
    have H' := Aside0.mk H
    clear H
    go_enter Try.func22, Try.ntmps22
    go_wp2_with (first | ((with_reducible refine gate_dst (N := 1) rfl ?_); refine bx 1 #[.int .i64 a0_0, .int .i64 a0_1, .int .i64 a0_2] 23 fun gb506 hg w6 BK506 hb => ?_; have GW506 := gw hg HB; have GE506 := gw hg HB; replace HB := bst HB hb; clear hb hg; have ⟨hcz7_0, hcz7_1, hcz7_2, hfz7_0, hfz7_1, hfz7_2⟩ := cf3 BK506) | ((with_reducible refine gate_callee (f := 14) rfl ?_); refine gl 10 Try.func14 (grids_Check.calls k a0_0 a0_1 a0_2 t507 _ A2.out) ?_; rintro e w8 ⟨rfl, hb⟩; refine ⟨_, rfl, ?_⟩; replace BK506 := bb BK506 hb; replace HB := bst HB hb; clear hb; have ⟨hcz9_0, hcz9_1, hcz9_2, hfz9_0, hfz9_1, hfz9_2⟩ := cf3 BK506) | ((with_reducible refine gate_callee (f := 38) rfl ?_); refine gl 16 Try.func38 (grids_reduce.calls k a0_0 a0_1 a0_2 t508 t509 t510 t511 t512 t513 t514 _ A4.out) ?_; rintro e w10 ⟨rfl, hb⟩; refine ⟨_, rfl, ?_⟩; replace BK506 := bb BK506 hb; replace HB := bst HB hb; clear hb) | ((with_reducible refine gate_dst (N := 5) rfl ?_); refine bx 5 #[.int .i64 0, .int .i64 0, .int .i64 0] 23 fun gb515 hg w11 BK515 hb => ?_; have GW515 := gw hg HB; have GE515 := gw hg HB; have NB506_515 := nlt hg BK506; have NB515_506 := ngt hg BK506; replace BK506 := bb BK506 hb; replace HB := bst HB hb; clear hb hg) | ((with_reducible refine gate_dst (N := 6) rfl ?_); refine bx 6 #[.int .i64 0, .int .i64 0, .int .i64 0, .int .i64 0] 25 fun gb516 hg w12 BK516 hb => ?_; have GW516 := gw hg HB; have GE516 := gw hg HB; have NB506_516 := nlt hg BK506; have NB516_506 := ngt hg BK506; have NB515_516 := nlt hg BK515; have NB516_515 := ngt hg BK515; replace BK506 := bb BK506 hb; replace BK515 := bb BK515 hb; replace HB := bst HB hb; clear hb hg; have hnb13 := NB515_506.out; have hnc13 := NB506_515.out; have hnb14 := NB515_516.out; have hnc14 := NB516_515.out; have ⟨hcz15_0, hcz15_1, hcz15_2, hfz15_0, hfz15_1, hfz15_2⟩ := cf3 BK515) | ((with_reducible refine gate_store (t := 23) (p := 5) rfl ?_); refine sx 23 5 ((((w12.setCell ⟨gb515, 0, none⟩ (.int .i64 t508)).setCell ⟨gb515, 1, none⟩ (.int .i64 t509)).setCell ⟨gb515, 2, none⟩ (.int .i64 t510))) fun w16 hw => ?_; replace BK506 := fw hw BK506; replace BK515 := pw3 hw BK515; replace BK516 := fw hw BK516; replace HB := bw hw HB; clear hw; have hnb17 := NB516_506.out; have hnc17 := NB506_516.out; have ⟨hcz18_0, hcz18_1, hcz18_2, hcz18_3, hfz18_0, hfz18_1, hfz18_2, hfz18_3⟩ := cf4 BK516) | ((with_reducible refine gate_store (t := 25) (p := 6) rfl ?_); refine sx 25 6 (((((w16.setCell ⟨gb516, 0, none⟩ (.int .i64 t511)).setCell ⟨gb516, 1, none⟩ (.int .i64 t512)).setCell ⟨gb516, 2, none⟩ (.int .i64 t513)).setCell ⟨gb516, 3, none⟩ (.int .i64 t514))) fun w19 hw => ?_; replace BK506 := fw hw BK506; replace BK515 := fw hw BK515; replace BK516 := pw4 hw BK516; replace HB := bw hw HB; clear hw; have ⟨hcz20_0, hcz20_1, hcz20_2, hfz20_0, hfz20_1, hfz20_2⟩ := cf3 BK515) | ((with_reducible refine gate_callee (f := 39) rfl ?_); refine goesL_ (some 20) rfl rfl Try.func39 (by kernel_rfl) rfl #[.agg #[.int .i64 t508, .int .i64 t509, .int .i64 t510]] rfl am ?_; (with_reducible refine (grids_group.calls k t508 t509 t510 t517 _ A5.out).mono ?_); rintro e w21 ⟨v518, rfl, ho0, hb⟩; refine ⟨_, rfl, ?_⟩; have HO519 := Aside0.mk (Kd.R_lower (Kd.R_newB ho0 (g := gb516) (o := .cells #[.int .i64 t511, .int .i64 t512, .int .i64 t513, .int .i64 t514] 25 (0, 0)) (pk BK516)) (below_size (bnow HB))); replace BK506 := bb BK506 hb; replace BK515 := bb BK515 hb; replace BK516 := bb BK516 hb; replace HB := bst HB hb; (try clear hb); (try clear hb2); (try clear hk); (try clear hi); (try clear ho0); obtain ⟨Ao22, co22, eo22⟩ := Kd.R_slice HO519.out; subst eo22))
    (try simp only [Act.put, List.setIfInBounds_toArray, List.set_cons_zero, List.set_cons_succ])
    go_loopg [23] k (fun kq v23 w' => ∃ (x7_1 : List (S25)) (x23_1 : Int) (x517000_1 : Int) (x517001_1 : Int) (x517002_1 : Int) (x517003_1 : Int), v23 = .int .i64 x23_1 ∧ Aside0 (grids_Group.l0 kq x7_1 (t517.length : Int) x23_1 x517000_1 x517001_1 x517002_1 x517003_1 = some (r1, r2)) ∧ Aside0 (kq ≤ k) ∧ Aside0 (Kd.R k25 25 w' w.heap.size (fun k_ => k_ ≠ gb516) (.slice Ao22 t517.length co22) x7_1) ∧ Aside0 (w'.heap[gb506]? = some (.cells #[.int .i64 a0_0, .int .i64 a0_1, .int .i64 a0_2] 23 (0, 0))) ∧ Aside0 (w'.heap[gb515]? = some (.cells #[.int .i64 t508, .int .i64 t509, .int .i64 t510] 23 (0, 0))) ∧ Aside0 (w'.heap[gb516]? = some (.cells #[.int .i64 x517000_1, .int .i64 x517001_1, .int .i64 x517002_1, .int .i64 x517003_1] 25 (0, 0))) ∧ Aside0 (Below w.heap.size w w'))
    case atStart => exact ⟨(t517), (0), (t511), (t512), (t513), (t514), (by first | rfl | (simp; done) | (simp [*]; done)), H', ⟨Nat.le_refl _⟩, ⟨by (with_reducible repeat (first | apply Kd.R_alloc | apply Kd.R_drewN | apply Kd.R_drew)); exact Kd.R_mono HO519.out (fun _ hk => hk.2)⟩, ⟨pk BK506⟩, ⟨pk BK515⟩, ⟨pk BK516⟩, ⟨bnow HB⟩⟩
    case round =>
      clear H'
      try clear c1; try clear c2; try clear p2; try clear c3; try clear c3b0; try clear c3b1; try clear c13; try clear c14; try clear c17; try clear c22; try clear hcz15_0; try clear hcz15_1; try clear hcz15_2; try clear hcz18_0; try clear hcz18_1; try clear hcz18_2; try clear hcz18_3; try clear hcz20_0; try clear hcz20_1; try clear hcz20_2; try clear hcz7_0; try clear hcz7_1; try clear hcz7_2; try clear hcz9_0; try clear hcz9_1; try clear hcz9_2; try clear hfz15_0; try clear hfz15_1; try clear hfz15_2; try clear hfz18_0; try clear hfz18_1; try clear hfz18_2; try clear hfz18_3; try clear hfz20_0; try clear hfz20_1; try clear hfz20_2; try clear hfz7_0; try clear hfz7_1; try clear hfz7_2; try clear hfz9_0; try clear hfz9_1; try clear hfz9_2
      obtain ⟨x7_1, x23_1, x517000_1, x517001_1, x517002_1, x517003_1, rfl, HA, HK1, HO_7, BK506, BK515, BK516, HB⟩ := hrel
      have hl7_1 := (Kd.R_reads' HO_7.out).1
      rw [hl7_1] at HO_7
      (try simp only [hl7_1])
      (try simp only [hl7_1] at BK506)
      (try simp only [hl7_1] at BK515)
      (try simp only [hl7_1] at BK516)
      cases gk with
      | zero => exact absurd HA.out (by simp [grids_Group.l0])
      | succ k1 =>
        have H := HA.out
        clear HA
        simp only [grids_Group.l0] at H
        by_cases c23 : x23_1 < (t517.length : Int)
        · rw [if_pos c23] at H
          have c23b0 : decide (x23_1 < (t517.length : Int)) = true := decide_eq_true c23
          (try (have c23h0 := c23b0; simp only [hl7_1] at c23h0))
          clear c23
          by_cases c24 : 0 ≤ x23_1
          · rw [if_pos c24] at H
            have c24b0 : decide (0 ≤ x23_1) = true := decide_eq_true c24
            clear c24
            by_cases c25 : x23_1 < (x7_1.length : Int)
            · rw [if_pos c25] at H
              have c25b0 : decide (x23_1 < (x7_1.length : Int)) = true := decide_eq_true c25
              (try (have c25h0 := c25b0; simp only [hl7_1] at c25h0))
              clear c25
              obtain ⟨⟨t521, t522, t523, t524⟩, A26, H⟩ := ob H
              obtain ⟨⟨t525, t526, t527, t528⟩, A27, H⟩ := ob H
              obtain ⟨⟨t529, t530, t531, t532⟩, A28, H⟩ := ob H
              obtain ⟨y533, hy533⟩ : ∃ y_ : List (S25), y_ = (x7_1.set (x23_1 : Int).toNat (⟨t529, t530, t531, t532⟩ : S25)) := ⟨_, rfl⟩
              replace H : ((some (wrap64 (x23_1 + 1))).bind fun z534 => (grids_Group.l0 k1 y533 (t517.length : Int) z534 x517000_1 x517001_1 x517002_1 x517003_1)) = some (r1, r2) := by first | (rw [hy533]; with_reducible exact H) | (have H2_ := (Option.bind_some _ _).symm.trans H; rw [hy533]; with_reducible exact H2_) | (have H2_ := (Option.bind_some _ _).symm.trans H; with_reducible exact H2_) | with_reducible exact H | (rw [hy533]; exact H) | exact H
              have Ny533 := Aside0.mk hy533
              clear hy533
              obtain ⟨z534, E300, H⟩ := oc H
              have E30w : (IntKind.i64.wrap (x23_1 + 1)) = z534 := (i64_w _).trans E300
              have H' := Aside0.mk H
              clear H
              try go_wp2
              replace HO_7 := Aside0.mk (Kd.R_drew HO_7.out)
              replace BK506 := bd BK506
              replace BK515 := bd BK515
              replace BK516 := bd BK516
              replace HB := bdn HB
              have p520 : 0 ≤ (x23_1 : Int) := of_decide_eq_true (by first | (with_reducible assumption) | assumption)
              have q520 : x23_1 < (x7_1.length : Int) := of_decide_eq_true (by first | (with_reducible assumption) | assumption)
              obtain ⟨ad520, e520, hx520_0, hx520_1, hx520_2, hx520_3⟩ := at_T25 (Kd.R_reads' HO_7.out).2.2 x23_1 p520 q520
              cases e520
              replace p520 := eq_true p520
              replace q520 := eq_true q520
              refine start_ (n := 13) (S := fun w' => w'.cell? ⟨gb516, 0, none⟩ = some (.int .i64 x517000_1) ∧ w'.cell? ⟨gb516, 1, none⟩ = some (.int .i64 x517001_1) ∧ w'.cell? ⟨gb516, 2, none⟩ = some (.int .i64 x517002_1) ∧ w'.cell? ⟨gb516, 3, none⟩ = some (.int .i64 x517003_1) ∧ w'.cell? (ad520.add ((x23_1).toNat * 4)) = some (.int .i64 ((rd_T25 x7_1 x23_1).f0)) ∧ w'.cell? ⟨(ad520.add ((x23_1).toNat * 4)).block, (ad520.add ((x23_1).toNat * 4)).off + 1, none⟩ = some (.int .i64 ((rd_T25 x7_1 x23_1).f1)) ∧ w'.cell? ⟨(ad520.add ((x23_1).toNat * 4)).block, (ad520.add ((x23_1).toNat * 4)).off + 2, none⟩ = some (.int .i64 ((rd_T25 x7_1 x23_1).f2)) ∧ w'.cell? ⟨(ad520.add ((x23_1).toNat * 4)).block, (ad520.add ((x23_1).toNat * 4)).off + 3, none⟩ = some (.int .i64 ((rd_T25 x7_1 x23_1).f3))) (ds := [12]) #[false, false, false, false, false, false, false, false, false, false, false, false, false] (by kernel_rfl) rfl rfl ⟨(blk_cell BK516.out 0).trans rfl, (blk_cell BK516.out 1).trans rfl, (blk_cell BK516.out 2).trans rfl, (blk_cell BK516.out 3).trans rfl, hx520_0, hx520_1, hx520_2, hx520_3⟩ (fun hHeld => ?_); refine with_tabW grids_Group.tab9 grids_Group.bits9 (fun HT_ HW_ => ?_)
              generalize wr.drew = w31 at HO_7 BK506 BK515 BK516 HB hx520_0 hx520_1 hx520_2 hx520_3 hHeld ⊢
              refine pz 0 26 HT_ ?_
              refine pz 1 27 HT_ ?_
              refine pz 3 29 HT_ ?_
              refine pz 4 30 HT_ ?_
              refine pz 5 31 HT_ ?_
              refine tz 2 28 HT_ HW_ hHeld ?_
              refine tz 6 32 HT_ HW_ hHeld ?_
              refine tz 8 34 HT_ HW_ hHeld ?_
              refine one_ (i := 7) (N := some 33) #[true, true, true, true, true, true, true, true, true, false, false, false, false] rfl rfl (one_of HT_.out (by kernel_rfl)) (by decide) (fun K hK => ?_)
              refine gs _ Try.func40 (grids_times.calls x517000_1 x517001_1 x517002_1 x517003_1 ((rd_T25 x7_1 x23_1).f0) ((rd_T25 x7_1 x23_1).f1) ((rd_T25 x7_1 x23_1).f2) ((rd_T25 x7_1 x23_1).f3) t521 t522 t523 t524 _ A26.out) ?_
              rintro e w32 ⟨rfl, hb⟩
              have HS4_ := (hb.cell (World.block_lt_of_cell? _ _ (hHeld.2.2.2.2.1))).trans (hHeld.2.2.2.2.1)
              have HS5_ := (hb.cell (World.block_lt_of_cell? _ _ (hHeld.2.2.2.2.2.1))).trans (hHeld.2.2.2.2.2.1)
              have HS6_ := (hb.cell (World.block_lt_of_cell? _ _ (hHeld.2.2.2.2.2.2.1))).trans (hHeld.2.2.2.2.2.2.1)
              have HS7_ := (hb.cell (World.block_lt_of_cell? _ _ (hHeld.2.2.2.2.2.2.2))).trans (hHeld.2.2.2.2.2.2.2)
              refine ⟨_, rfl, ?_⟩
              have n0_ := Aside0.mk (Kd.R_below (by (with_reducible repeat (first | apply Kd.R_alloc | apply Kd.R_drewN | apply Kd.R_drew)); exact HO_7.out) hb)
              have n1_ := bb BK506 hb
              have n2_ := bb BK515 hb
              have n3_ := bb BK516 hb
              have n4_ := bst HB hb
              clear HO_7
              clear BK506
              clear BK515
              clear BK516
              clear HB
              have HO_7 := n0_
              have BK506 := n1_
              have BK515 := n2_
              have BK516 := n3_
              have HB := n4_
              clear n0_ n1_ n2_ n3_ n4_
              (try clear hb)
              (try clear hb2)
              (try clear hk)
              (try clear hi)
              refine hK.out _ _ ⟨(blk_cell BK516.out 0).trans rfl, (blk_cell BK516.out 1).trans rfl, (blk_cell BK516.out 2).trans rfl, (blk_cell BK516.out 3).trans rfl, HS4_, HS5_, HS6_, HS7_⟩ (fun hHeld => ?_)
              clear hK K
              refine norm_ (a' := ?_) ?_ ?_
              rotate_left
              · show Act.put _ (some 33) _ = _
                simp only [Act.put, List.setIfInBounds_toArray, List.set_cons_zero, List.set_cons_succ, i64_w, i32_w]
                rfl
              refine one_ (i := 9) (N := some 35) #[true, true, true, true, true, true, true, true, true, true, false, false, false] rfl rfl (one_of HT_.out (by kernel_rfl)) (by decide) (fun K hK => ?_)
              refine gs _ Try.func57 (grids_inverse.calls x517000_1 x517001_1 x517002_1 x517003_1 t525 t526 t527 t528 _ A27.out) ?_
              rintro e w33 ⟨rfl, hb⟩
              have HS4_ := (hb.cell (World.block_lt_of_cell? _ _ (hHeld.2.2.2.2.1))).trans (hHeld.2.2.2.2.1)
              have HS5_ := (hb.cell (World.block_lt_of_cell? _ _ (hHeld.2.2.2.2.2.1))).trans (hHeld.2.2.2.2.2.1)
              have HS6_ := (hb.cell (World.block_lt_of_cell? _ _ (hHeld.2.2.2.2.2.2.1))).trans (hHeld.2.2.2.2.2.2.1)
              have HS7_ := (hb.cell (World.block_lt_of_cell? _ _ (hHeld.2.2.2.2.2.2.2))).trans (hHeld.2.2.2.2.2.2.2)
              refine ⟨_, rfl, ?_⟩
              have n0_ := Aside0.mk (Kd.R_below (by (with_reducible repeat (first | apply Kd.R_alloc | apply Kd.R_drewN | apply Kd.R_drew)); exact HO_7.out) hb)
              have n1_ := bb BK506 hb
              have n2_ := bb BK515 hb
              have n3_ := bb BK516 hb
              have n4_ := bst HB hb
              clear HO_7
              clear BK506
              clear BK515
              clear BK516
              clear HB
              have HO_7 := n0_
              have BK506 := n1_
              have BK515 := n2_
              have BK516 := n3_
              have HB := n4_
              clear n0_ n1_ n2_ n3_ n4_
              (try clear hb)
              (try clear hb2)
              (try clear hk)
              (try clear hi)
              refine hK.out _ _ ⟨(blk_cell BK516.out 0).trans rfl, (blk_cell BK516.out 1).trans rfl, (blk_cell BK516.out 2).trans rfl, (blk_cell BK516.out 3).trans rfl, HS4_, HS5_, HS6_, HS7_⟩ (fun hHeld => ?_)
              clear hK K
              refine norm_ (a' := ?_) ?_ ?_
              rotate_left
              · show Act.put _ (some 35) _ = _
                simp only [Act.put, List.setIfInBounds_toArray, List.set_cons_zero, List.set_cons_succ, i64_w, i32_w]
                rfl
              refine one_ (i := 10) (N := some 36) #[true, true, true, true, true, true, true, true, true, true, true, false, false] rfl rfl (one_of HT_.out (by kernel_rfl)) (by decide) (fun K hK => ?_)
              refine gs _ Try.func40 (grids_times.calls t521 t522 t523 t524 t525 t526 t527 t528 t529 t530 t531 t532 _ A28.out) ?_
              rintro e w34 ⟨rfl, hb⟩
              have HS4_ := (hb.cell (World.block_lt_of_cell? _ _ (hHeld.2.2.2.2.1))).trans (hHeld.2.2.2.2.1)
              have HS5_ := (hb.cell (World.block_lt_of_cell? _ _ (hHeld.2.2.2.2.2.1))).trans (hHeld.2.2.2.2.2.1)
              have HS6_ := (hb.cell (World.block_lt_of_cell? _ _ (hHeld.2.2.2.2.2.2.1))).trans (hHeld.2.2.2.2.2.2.1)
              have HS7_ := (hb.cell (World.block_lt_of_cell? _ _ (hHeld.2.2.2.2.2.2.2))).trans (hHeld.2.2.2.2.2.2.2)
              refine ⟨_, rfl, ?_⟩
              have n0_ := Aside0.mk (Kd.R_below (by (with_reducible repeat (first | apply Kd.R_alloc | apply Kd.R_drewN | apply Kd.R_drew)); exact HO_7.out) hb)
              have n1_ := bb BK506 hb
              have n2_ := bb BK515 hb
              have n3_ := bb BK516 hb
              have n4_ := bst HB hb
              clear HO_7
              clear BK506
              clear BK515
              clear BK516
              clear HB
              have HO_7 := n0_
              have BK506 := n1_
              have BK515 := n2_
              have BK516 := n3_
              have HB := n4_
              clear n0_ n1_ n2_ n3_ n4_
              (try clear hb)
              (try clear hb2)
              (try clear hk)
              (try clear hi)
              have p29 : 0 ≤ (x23_1 : Int) := of_decide_eq_true (by first | (with_reducible assumption) | assumption)
              have q29 : (x23_1 : Int) < ((x7_1.length : Int) : Int) := of_decide_eq_true (by first | (with_reducible assumption) | assumption)
              obtain ⟨go29, co29, eo29, gb29, gl29, cl29, HG29⟩ := Kd.R_form HO_7.out (by omega)
              (first | cases eo29 | (injection eo29 with ea_ en_ ec_; (first | subst ea_ | (injection ea_ with ea_; subst ea_)); subst ec_; clear en_))
              have GB29 := Aside0.mk gb29
              have GG29 := Aside0.mk HG29
              clear gb29 gl29 HG29
              (first | simp only [add_plain] at hx520_0 | skip)
              (first | simp only [add_plain] at hx520_1 | skip)
              (first | simp only [add_plain] at hx520_2 | skip)
              (first | simp only [add_plain] at hx520_3 | skip)
              obtain ⟨ce29, hcl29, hM29, hcc29, hfr29⟩ := Kd.R_elem HO_7.out z25 (x23_1 : Int) p29 q29
              obtain rfl := k25_openM hM29
              have hx29_0 : World.cell? _ ⟨go29, (x23_1 : Int).toNat * 4, none⟩ = some (.int .i64 ((rd_T25 x7_1 x23_1).f0)) := hcc29 0 _ rfl
              have hx29_1 : World.cell? _ ⟨go29, (x23_1 : Int).toNat * 4 + 1, none⟩ = some (.int .i64 ((rd_T25 x7_1 x23_1).f1)) := hcc29 1 _ rfl
              have hx29_2 : World.cell? _ ⟨go29, (x23_1 : Int).toNat * 4 + 2, none⟩ = some (.int .i64 ((rd_T25 x7_1 x23_1).f2)) := hcc29 2 _ rfl
              have hx29_3 : World.cell? _ ⟨go29, (x23_1 : Int).toNat * 4 + 3, none⟩ = some (.int .i64 ((rd_T25 x7_1 x23_1).f3)) := hcc29 3 _ rfl
              have hf29_0 : World.frozen? _ ⟨go29, (x23_1 : Int).toNat * 4, none⟩ = false := hfr29 0
              have hf29_1 : World.frozen? _ ⟨go29, (x23_1 : Int).toNat * 4 + 1, none⟩ = false := hfr29 1
              have hf29_2 : World.frozen? _ ⟨go29, (x23_1 : Int).toNat * 4 + 2, none⟩ = false := hfr29 2
              have hf29_3 : World.frozen? _ ⟨go29, (x23_1 : Int).toNat * 4 + 3, none⟩ = false := hfr29 3
              (try rw [World.frozen?_setCells] at hf29_0)
              (try rw [World.frozen?_setCells] at hf29_1)
              (try rw [World.frozen?_setCells] at hf29_2)
              (try rw [World.frozen?_setCells] at hf29_3)
              clear hcl29 hcc29 hfr29 hM29
              replace p29 := eq_true p29
              replace q29 := eq_true q29
              obtain ⟨ce35, hcl35, hM35, hcc35, hfr35⟩ := Kd.R_elem HO_7.out z25 (x23_1 : Int) (of_decide_eq_true (by first | (with_reducible assumption) | assumption)) (by have h_ : (x23_1 : Int) < ((x7_1.length : Int) : Int) := of_decide_eq_true (by first | (with_reducible assumption) | assumption); first | exact h_ | (have e_ := (Kd.R_reads' HO_7.out).1; omega) | simpa using h_)
              obtain rfl := k25_openM hM35
              have HP35 := (Kd.R_seg HO_7.out (x23_1 : Int) (of_decide_eq_true (by first | (with_reducible assumption) | assumption)) (by have h_ : (x23_1 : Int) < ((x7_1.length : Int) : Int) := of_decide_eq_true (by first | (with_reducible assumption) | assumption); first | exact h_ | (have e_ := (Kd.R_reads' HO_7.out).1; omega) | simpa using h_) (seg := [.int .i64 t529, .int .i64 t530, .int .i64 t531, .int .i64 t532]) (j := 0) hcl35 hcc35 (show 4 ≤ 4 from by decide) (x' := (⟨t529, t530, t531, t532⟩ : S25)) (k25_mkM _ _ _ (⟨t529, t530, t531, t532⟩ : S25) ) (fun _ hk => hk)).1
              rw [← Ny533.out] at HP35
              have HQ35 := Aside0.mk HP35
              clear hcl35 hcc35 hfr35 hM35 HP35
              refine hK.out _ _ ⟨(blk_cell BK516.out 0).trans rfl, (blk_cell BK516.out 1).trans rfl, (blk_cell BK516.out 2).trans rfl, (blk_cell BK516.out 3).trans rfl, HS4_, HS5_, HS6_, HS7_⟩ (fun hHeld => ?_)
              clear hK K
              refine norm_ (a' := ?_) ?_ ?_
              rotate_left
              · show Act.put _ (some 36) _ = _
                simp only [Act.put, List.setIfInBounds_toArray, List.set_cons_zero, List.set_cons_succ, i64_w, i32_w]
                rfl
              refine pz 11 37 HT_ ?_
              refine last_ (i := 12) (N := none) #[true, true, true, true, true, true, true, true, true, true, true, true, true] rfl rfl (one_of HT_.out (by kernel_rfl)) (by decide) (fun K hK => ?_)
              refine skip_ (w1 := ?_) (by rfl) rfl ?_ ?_
              rotate_left
              · go_simp
                rfl
              refine hK.out _ _ ?_
              clear hK K
              refine done_ (done_of HT_.out (by kernel_rfl)) ?_
              try go_wp2
              (try simp only [← hl7_1])
              go_roundg k1
              case measure => have := HK1.out; omega
              case rel => exact ⟨(y533), (z534), (x517000_1), (x517001_1), (x517002_1), (x517003_1), (by first | rfl | (simp; done) | (simp [*]; done)), H', ⟨by have := HK1.out; omega⟩, ⟨by (try simp only [hl7_1]); (with_reducible repeat (first | apply Kd.R_alloc | apply Kd.R_drewN | apply Kd.R_drew)); exact HQ35.out⟩, ⟨by (try simp only [hl7_1]); (with_reducible repeat (first | refine blk_drewN ?_ _ | refine blk_drew ?_ | refine blk_alloc ?_ _)); refine blk_far ?_ (by have h_ := Kd.R_ne HO_7.out BK506.out (by decide); intro e_; exact h_ (by rw [e_]; rfl)) _; (with_reducible repeat (first | refine blk_drewN ?_ _ | refine blk_drew ?_ | refine blk_alloc ?_ _)); refine blk_far ?_ (by have h_ := Kd.R_ne HO_7.out BK506.out (by decide); intro e_; exact h_ (by rw [e_]; rfl)) _; (with_reducible repeat (first | refine blk_drewN ?_ _ | refine blk_drew ?_ | refine blk_alloc ?_ _)); refine blk_far ?_ (by have h_ := Kd.R_ne HO_7.out BK506.out (by decide); intro e_; exact h_ (by rw [e_]; rfl)) _; (with_reducible repeat (first | refine blk_drewN ?_ _ | refine blk_drew ?_ | refine blk_alloc ?_ _)); refine blk_far ?_ (by have h_ := Kd.R_ne HO_7.out BK506.out (by decide); intro e_; exact h_ (by rw [e_]; rfl)) _; (with_reducible repeat (first | refine blk_drewN ?_ _ | refine blk_drew ?_ | refine blk_alloc ?_ _)); exact BK506.out⟩, ⟨by (try simp only [hl7_1]); (with_reducible repeat (first | refine blk_drewN ?_ _ | refine blk_drew ?_ | refine blk_alloc ?_ _)); refine blk_far ?_ (by have h_ := Kd.R_ne HO_7.out BK515.out (by decide); intro e_; exact h_ (by rw [e_]; rfl)) _; (with_reducible repeat (first | refine blk_drewN ?_ _ | refine blk_drew ?_ | refine blk_alloc ?_ _)); refine blk_far ?_ (by have h_ := Kd.R_ne HO_7.out BK515.out (by decide); intro e_; exact h_ (by rw [e_]; rfl)) _; (with_reducible repeat (first | refine blk_drewN ?_ _ | refine blk_drew ?_ | refine blk_alloc ?_ _)); refine blk_far ?_ (by have h_ := Kd.R_ne HO_7.out BK515.out (by decide); intro e_; exact h_ (by rw [e_]; rfl)) _; (with_reducible repeat (first | refine blk_drewN ?_ _ | refine blk_drew ?_ | refine blk_alloc ?_ _)); refine blk_far ?_ (by have h_ := Kd.R_ne HO_7.out BK515.out (by decide); intro e_; exact h_ (by rw [e_]; rfl)) _; (with_reducible repeat (first | refine blk_drewN ?_ _ | refine blk_drew ?_ | refine blk_alloc ?_ _)); exact BK515.out⟩, ⟨by (try simp only [hl7_1]); (with_reducible repeat (first | refine blk_drewN ?_ _ | refine blk_drew ?_ | refine blk_alloc ?_ _)); refine blk_far ?_ (by have h_ := Kd.R_away HO_7.out (fun _ hk => hk); intro e_; exact h_ (by rw [e_]; rfl)) _; (with_reducible repeat (first | refine blk_drewN ?_ _ | refine blk_drew ?_ | refine blk_alloc ?_ _)); refine blk_far ?_ (by have h_ := Kd.R_away HO_7.out (fun _ hk => hk); intro e_; exact h_ (by rw [e_]; rfl)) _; (with_reducible repeat (first | refine blk_drewN ?_ _ | refine blk_drew ?_ | refine blk_alloc ?_ _)); refine blk_far ?_ (by have h_ := Kd.R_away HO_7.out (fun _ hk => hk); intro e_; exact h_ (by rw [e_]; rfl)) _; (with_reducible repeat (first | refine blk_drewN ?_ _ | refine blk_drew ?_ | refine blk_alloc ?_ _)); refine blk_far ?_ (by have h_ := Kd.R_away HO_7.out (fun _ hk => hk); intro e_; exact h_ (by rw [e_]; rfl)) _; (with_reducible repeat (first | refine blk_drewN ?_ _ | refine blk_drew ?_ | refine blk_alloc ?_ _)); exact BK516.out⟩, ⟨by repeat (first | (with_reducible first | exact HB.out | apply below_alloc | apply pw_below_drewN | apply below_drew1 | refine below_set ?_ GB29.out | refine below_set ?_ GB29.out | refine below_set ?_ GB29.out | refine below_set ?_ GB29.out | refine below_set ?_ GE506.out | refine below_set ?_ GE515.out | refine below_set ?_ GE516.out) | exact HB.out)⟩⟩
            · rw [if_neg c25] at H
              exact absurd H (by simp)
          · rw [if_neg c24] at H
            exact absurd H (by simp)
        · rw [if_neg c23] at H
          have c23b0 : decide (x23_1 < (t517.length : Int)) = false := decide_eq_false c23
          (try (have c23h0 := c23b0; simp only [hl7_1] at c23h0))
          clear c23
          obtain ⟨t535, A36, H⟩ := ob H
          simp only [Option.some.injEq, Prod.mk.injEq] at H
          obtain ⟨rfl, rfl⟩ := H
          go_wp2_with (first | ((with_reducible refine gate_callee (f := 58) rfl ?_); refine goesL_ (some 40) rfl rfl Try.func58 (by kernel_rfl) rfl #[.slice Ao22 x7_1.length co22, .func (.func 42) #[] #[]] rfl am ?_; (with_reducible refine (api_GrMatrix_58.calls k1 (fun k_ => some k_ = (.slice Ao22 x7_1.length co22 : Value).ownBlock) (.slice Ao22 x7_1.length co22) x7_1  t535 w _ ?side1 ?side2 A36.out).mono ?_); (case side1 => repeat (first | (with_reducible first | exact HB.out | apply below_alloc | apply pw_below_drewN | apply below_drew1 | refine below_set ?_ GE506.out | refine below_set ?_ GE515.out | refine below_set ?_ GE516.out) | exact HB.out)); (case side2 => exact Kd.R_tight rfl HO_7.out); rintro e w37 ⟨rfl, hy0, hb, hkp⟩; refine ⟨_, rfl, ?_⟩; have n0_ := Aside0.mk (Kd.R_reok rfl hy0 (fun k_ e_ => HO_7.out.1 k_ e_)); have n1_ := Aside0.mk (blk_kept (pk BK506) hkp (fun hs_ => (fun e_ => (Kd.R_ne HO_7.out BK506.out (by decide)) e_) hs_)); have n2_ := Aside0.mk (blk_kept (pk BK515) hkp (fun hs_ => (fun e_ => (Kd.R_ne HO_7.out BK515.out (by decide)) e_) hs_)); have n3_ := Aside0.mk (blk_kept (pk BK516) hkp (fun hs_ => (fun e_ => (Kd.R_away HO_7.out (fun _ hk => hk)) e_) hs_)); have n4_ := Aside0.mk (hb); clear HO_7; clear BK506; clear BK515; clear BK516; clear HB; have HO_7 := n0_; have BK506 := n1_; have BK515 := n2_; have BK516 := n3_; have HB := n4_; clear n0_ n1_ n2_ n3_ n4_; (try clear hb); (try clear hkp); (try clear hy0)))
          go_ret2
          exact ⟨_, by first | rfl | (simp [errW_none, errW_some] <;> rfl) | (simp [*, errW_none, errW_some] <;> rfl), by (with_reducible repeat (first | apply Kd.R_alloc | apply Kd.R_drewN | apply Kd.R_drew)); exact Kd.R_mono HO_7.out (fun _ hk => trivial), by repeat (first | (with_reducible first | exact HB.out | apply below_alloc | apply pw_below_drewN | apply below_drew1 | refine below_set ?_ GE506.out | refine below_set ?_ GE515.out | refine below_set ?_ GE516.out) | exact HB.out)⟩
  · rw [if_neg c3] at H
    have c3b0 : (t507 == 0) = false := beq_eq_false_iff_ne.mpr c3
    have c3b1 : (t507 != 0) = true := bne_iff_ne.mpr c3
    simp only [Option.some.injEq, Prod.mk.injEq] at H
    obtain ⟨rfl, rfl⟩ := H
    go_enter Try.func22, Try.ntmps22
    go_wp2_with (first | ((with_reducible refine gate_dst (N := 1) rfl ?_); refine bx 1 #[.int .i64 a0_0, .int .i64 a0_1, .int .i64 a0_2] 23 fun gb506 hg w38 BK506 hb => ?_; have GW506 := gw hg HB; have GE506 := gw hg HB; replace HB := bst HB hb; clear hb hg; have ⟨hcz39_0, hcz39_1, hcz39_2, hfz39_0, hfz39_1, hfz39_2⟩ := cf3 BK506) | ((with_reducible refine gate_callee (f := 14) rfl ?_); refine gl 10 Try.func14 (grids_Check.calls k a0_0 a0_1 a0_2 t507 _ A2.out) ?_; rintro e w40 ⟨rfl, hb⟩; refine ⟨_, rfl, ?_⟩; replace BK506 := bb BK506 hb; replace HB := bst HB hb; clear hb))
    go_ret2
    exact ⟨_, by first | rfl | (simp [errW_none, errW_some] <;> rfl) | (simp [*, errW_none, errW_some] <;> rfl), by first | exact Kd.R_nil _ _ _ _ _ | exact Kd.N_nil _ _ _ _ _ | exact Kd.V_nil _ _ _ _ _ | exact Kd.Q_nil _ _ _ _ _ | exact Kd.S_nil _ _ _ _ _, by repeat (first | (with_reducible first | exact HB.out | apply below_alloc | apply pw_below_drewN | apply below_drew1 | refine below_set ?_ GE506.out) | exact HB.out)⟩
end
section
/-! ### grids_matrix: function 59 -/
def grids_matrix.f (a0_0 : Int) (a0_1 : Int) (a0_2 : Int) (a0_3 : Int) : Option (Bool) := (grids_outside.f a0_0 10000).bind fun t537 => (if t537 = true then (some false) else ((grids_outside.f a0_1 10000).bind fun t538 => (if t538 = true then (some false) else ((grids_outside.f a0_2 10000).bind fun t539 => (if t539 = true then (some false) else ((grids_outside.f a0_3 10000).bind fun t540 => (some (!t540))))))))
set_option maxHeartbeats 8000000 in
set_option maxRecDepth 100000 in
theorem grids_matrix.calls (a0_0 : Int) (a0_1 : Int) (a0_2 : Int) (a0_3 : Int) (r : Bool) (w : World) (h : grids_matrix.f a0_0 a0_1 a0_2 a0_3 = some r) :
    Calls Try.prog 59 #[.agg #[.int .i64 a0_0, .int .i64 a0_1, .int .i64 a0_2, .int .i64 a0_3]] w fun e w' => e = .returned (.bool r) ∧ Below w.heap.size w w' := by
  have hu25 := Try.underlying25
  have HB := Aside0.mk (Below.refl w.heap.size w)
  have H : ((grids_outside.f a0_0 10000).bind fun t537 => (if t537 = true then (some false) else ((grids_outside.f a0_1 10000).bind fun t538 => (if t538 = true then (some false) else ((grids_outside.f a0_2 10000).bind fun t539 => (if t539 = true then (some false) else ((grids_outside.f a0_3 10000).bind fun t540 => (some (!t540))))))))) = some r := h
  clear h
  obtain ⟨t537, A2, H⟩ := ob H
  by_cases c3 : t537 = true
  · subst c3
    have H1 : (some false) = some r := by rw [if_pos rfl] at H; exact H
    clear H
    have H := H1
    clear H1
    obtain rfl := Option.some.inj H
    go_enter Try.func59, Try.ntmps59
    go_wp2_with (first | ((with_reducible refine gate_dst (N := 1) rfl ?_); refine bx 1 #[.int .i64 a0_0, .int .i64 a0_1, .int .i64 a0_2, .int .i64 a0_3] 25 fun gb536 hg w4 BK536 hb => ?_; have GW536 := gw hg HB; have GE536 := gw hg HB; replace HB := bst HB hb; clear hb hg; have ⟨hcz5_0, hcz5_1, hcz5_2, hcz5_3, hfz5_0, hfz5_1, hfz5_2, hfz5_3⟩ := cf4 BK536) | ((with_reducible refine gate_callee (f := 46) rfl ?_); refine goesL_ (some 5) rfl rfl Try.func46 (by kernel_rfl) rfl #[.int .i64 a0_0, .int .i64 10000] rfl am ?_; (with_reducible refine (grids_outside.calls a0_0 10000 true _ A2.out).mono ?_); rintro e w' ⟨rfl, ⟨nd, rfl⟩⟩; refine ⟨_, rfl, ?_⟩))
    go_ret
    exact rt HB
  · replace c3 := Bool.eq_false_iff.mpr c3
    subst c3
    have H1 : ((grids_outside.f a0_1 10000).bind fun t538 => (if t538 = true then (some false) else ((grids_outside.f a0_2 10000).bind fun t539 => (if t539 = true then (some false) else ((grids_outside.f a0_3 10000).bind fun t540 => (some (!t540))))))) = some r := by rw [if_neg (show ¬ (false = true) by decide)] at H; exact H
    clear H
    have H := H1
    clear H1
    obtain ⟨t538, A6, H⟩ := ob H
    by_cases c7 : t538 = true
    · subst c7
      have H1 : (some false) = some r := by rw [if_pos rfl] at H; exact H
      clear H
      have H := H1
      clear H1
      obtain rfl := Option.some.inj H
      go_enter Try.func59, Try.ntmps59
      go_wp2_with (first | ((with_reducible refine gate_dst (N := 1) rfl ?_); refine bx 1 #[.int .i64 a0_0, .int .i64 a0_1, .int .i64 a0_2, .int .i64 a0_3] 25 fun gb536 hg w8 BK536 hb => ?_; have GW536 := gw hg HB; have GE536 := gw hg HB; replace HB := bst HB hb; clear hb hg; have ⟨hcz9_0, hcz9_1, hcz9_2, hcz9_3, hfz9_0, hfz9_1, hfz9_2, hfz9_3⟩ := cf4 BK536) | ((with_reducible refine gate_callee (f := 46) rfl ?_); refine goesL_ (some 5) rfl rfl Try.func46 (by kernel_rfl) rfl #[.int .i64 a0_0, .int .i64 10000] rfl am ?_; (with_reducible refine (grids_outside.calls a0_0 10000 false _ A2.out).mono ?_); rintro e w' ⟨rfl, ⟨nd, rfl⟩⟩; refine ⟨_, rfl, ?_⟩) | (go_at_call 46; (with_reducible refine (grids_outside.calls a0_1 10000 true _ A6.out).mono ?_); rintro e w' ⟨rfl, ⟨nd, rfl⟩⟩))
      go_ret
      exact rt HB
    · replace c7 := Bool.eq_false_iff.mpr c7
      subst c7
      have H1 : ((grids_outside.f a0_2 10000).bind fun t539 => (if t539 = true then (some false) else ((grids_outside.f a0_3 10000).bind fun t540 => (some (!t540))))) = some r := by rw [if_neg (show ¬ (false = true) by decide)] at H; exact H
      clear H
      have H := H1
      clear H1
      obtain ⟨t539, A10, H⟩ := ob H
      by_cases c11 : t539 = true
      · subst c11
        have H1 : (some false) = some r := by rw [if_pos rfl] at H; exact H
        clear H
        have H := H1
        clear H1
        obtain rfl := Option.some.inj H
        go_enter Try.func59, Try.ntmps59
        go_wp2_with (first | ((with_reducible refine gate_dst (N := 1) rfl ?_); refine bx 1 #[.int .i64 a0_0, .int .i64 a0_1, .int .i64 a0_2, .int .i64 a0_3] 25 fun gb536 hg w12 BK536 hb => ?_; have GW536 := gw hg HB; have GE536 := gw hg HB; replace HB := bst HB hb; clear hb hg; have ⟨hcz13_0, hcz13_1, hcz13_2, hcz13_3, hfz13_0, hfz13_1, hfz13_2, hfz13_3⟩ := cf4 BK536) | ((with_reducible refine gate_callee (f := 46) rfl ?_); refine goesL_ (some 5) rfl rfl Try.func46 (by kernel_rfl) rfl #[.int .i64 a0_0, .int .i64 10000] rfl am ?_; (with_reducible refine (grids_outside.calls a0_0 10000 false _ A2.out).mono ?_); rintro e w' ⟨rfl, ⟨nd, rfl⟩⟩; refine ⟨_, rfl, ?_⟩) | (go_at_call 46; (with_reducible refine (grids_outside.calls a0_1 10000 false _ A6.out).mono ?_); rintro e w' ⟨rfl, ⟨nd, rfl⟩⟩) | (go_at_call 46; (with_reducible refine (grids_outside.calls a0_2 10000 true _ A10.out).mono ?_); rintro e w' ⟨rfl, ⟨nd, rfl⟩⟩))
        go_ret
        exact rt HB
      · replace c11 := Bool.eq_false_iff.mpr c11
        subst c11
        have H1 : ((grids_outside.f a0_3 10000).bind fun t540 => (some (!t540))) = some r := by rw [if_neg (show ¬ (false = true) by decide)] at H; exact H
        clear H
        have H := H1
        clear H1
        obtain ⟨t540, A14, H⟩ := ob H
        obtain rfl := Option.some.inj H
        go_enter Try.func59, Try.ntmps59
        go_wp2_with (first | ((with_reducible refine gate_dst (N := 1) rfl ?_); refine bx 1 #[.int .i64 a0_0, .int .i64 a0_1, .int .i64 a0_2, .int .i64 a0_3] 25 fun gb536 hg w15 BK536 hb => ?_; have GW536 := gw hg HB; have GE536 := gw hg HB; replace HB := bst HB hb; clear hb hg; have ⟨hcz16_0, hcz16_1, hcz16_2, hcz16_3, hfz16_0, hfz16_1, hfz16_2, hfz16_3⟩ := cf4 BK536) | ((with_reducible refine gate_callee (f := 46) rfl ?_); refine goesL_ (some 5) rfl rfl Try.func46 (by kernel_rfl) rfl #[.int .i64 a0_0, .int .i64 10000] rfl am ?_; (with_reducible refine (grids_outside.calls a0_0 10000 false _ A2.out).mono ?_); rintro e w' ⟨rfl, ⟨nd, rfl⟩⟩; refine ⟨_, rfl, ?_⟩) | (go_at_call 46; (with_reducible refine (grids_outside.calls a0_1 10000 false _ A6.out).mono ?_); rintro e w' ⟨rfl, ⟨nd, rfl⟩⟩) | (go_at_call 46; (with_reducible refine (grids_outside.calls a0_2 10000 false _ A10.out).mono ?_); rintro e w' ⟨rfl, ⟨nd, rfl⟩⟩) | (go_at_call 46; (with_reducible refine (grids_outside.calls a0_3 10000 t540 _ A14.out).mono ?_); rintro e w' ⟨rfl, ⟨nd, rfl⟩⟩))
        go_ret
        exact rt HB
end
section
/-! ### grids_move: function 62 -/
def grids_move.f (k : Nat) (a0_0 : Int) (a0_1 : Int) (a0_2 : Int) (a0_3 : Int) (a0_4 : Int) (a0_5 : Int) : Option (Bool) := (grids_matrix.f a0_0 a0_1 a0_2 a0_3).bind fun t542 => (if t542 = true then ((grids_point.f k (([(⟨a0_4, a0_5⟩ : S37)] : List (S37)))).bind fun t546 => (some t546)) else (some false))
theorem grids_move.mono : ∀ a0 a1 a2 a3 a4 a5 k, LeO (grids_move.f k a0 a1 a2 a3 a4 a5) (grids_move.f (k + 1) a0 a1 a2 a3 a4 a5) := by
  intro a0 a1 a2 a3 a4 a5 k
  unfold grids_move.f
  repeat' first
      | (with_reducible exact grids_point.mono _ _)
      | (with_reducible exact LeO.refl _)
      | (with_reducible exact LeO.none _)
      | (with_reducible refine LeO.ite ?_ ?_)
      | (with_reducible refine LeO.bind ?_ (fun _ => ?_))
      | exact grids_point.mono _ _
      | exact LeO.none _
      | refine LeO.ite ?_ ?_
      | refine LeO.bind ?_ (fun _ => ?_)
set_option maxHeartbeats 8000000 in
set_option maxRecDepth 100000 in
theorem grids_move.calls (k : Nat) (a0_0 : Int) (a0_1 : Int) (a0_2 : Int) (a0_3 : Int) (a0_4 : Int) (a0_5 : Int) (r : Bool) (w : World) (h : grids_move.f k a0_0 a0_1 a0_2 a0_3 a0_4 a0_5 = some r) :
    Calls Try.prog 62 #[.agg #[.int .i64 a0_0, .int .i64 a0_1, .int .i64 a0_2, .int .i64 a0_3, .int .i64 a0_4, .int .i64 a0_5]] w fun e w' => e = .returned (.bool r) ∧ Below w.heap.size w w' := by
  have hu55 := Try.underlying55
  have hu25 := Try.underlying25
  have hu37 := Try.underlying37
  have HB := Aside0.mk (Below.refl w.heap.size w)
  have H : ((grids_matrix.f a0_0 a0_1 a0_2 a0_3).bind fun t542 => (if t542 = true then ((grids_point.f k (([(⟨a0_4, a0_5⟩ : S37)] : List (S37)))).bind fun t546 => (some t546)) else (some false))) = some r := h
  clear h
  obtain ⟨t542, A2, H⟩ := ob H
  by_cases c3 : t542 = true
  · subst c3
    have H1 : ((grids_point.f k (([(⟨a0_4, a0_5⟩ : S37)] : List (S37)))).bind fun t546 => (some t546)) = some r := by rw [if_pos rfl] at H; exact H
    clear H
    have H := H1
    clear H1
    obtain ⟨y543, hy543⟩ : ∃ y_ : List (S37), y_ = (([(⟨a0_4, a0_5⟩ : S37)] : List (S37))) := ⟨_, rfl⟩
    replace H : ((grids_point.f k y543).bind fun t546 => (some t546)) = some r := by first | (rw [hy543]; with_reducible exact H) | (have H2_ := (Option.bind_some _ _).symm.trans H; rw [hy543]; with_reducible exact H2_) | (have H2_ := (Option.bind_some _ _).symm.trans H; with_reducible exact H2_) | with_reducible exact H | (rw [hy543]; exact H) | exact H
    have Ny543 := Aside0.mk hy543
    clear hy543
    obtain ⟨t546, A4, H⟩ := ob H
    obtain rfl := Option.some.inj H
    go_enter Try.func62, Try.ntmps62
    go_wp2_with (first | ((with_reducible refine gate_dst (N := 1) rfl ?_); (try (refine gate_guard (by rfl) ?_; dsimp only)); refine bx 1 #[.int .i64 a0_0, .int .i64 a0_1, .int .i64 a0_2, .int .i64 a0_3, .int .i64 a0_4, .int .i64 a0_5] 55 fun gb541 hg w5 BK541 hb => ?_; have GW541 := gw hg HB; have GE541 := gw hg HB; replace HB := bst HB hb; clear hb hg; have ⟨hcz6_0, hcz6_1, hcz6_2, hcz6_3, hcz6_4, hcz6_5, hfz6_0, hfz6_1, hfz6_2, hfz6_3, hfz6_4, hfz6_5⟩ := cf6 BK541) | ((with_reducible refine gate_callee (f := 59) rfl ?_); refine gl 5 Try.func59 (grids_matrix.calls a0_0 a0_1 a0_2 a0_3 true _ A2.out) ?_; rintro e w7 ⟨rfl, hb⟩; refine ⟨_, rfl, ?_⟩; replace BK541 := bb BK541 hb; replace HB := bst HB hb; clear hb; have ⟨hcz8_0, hcz8_1, hcz8_2, hcz8_3, hcz8_4, hcz8_5, hfz8_0, hfz8_1, hfz8_2, hfz8_3, hfz8_4, hfz8_5⟩ := cf6 BK541) | ((with_reducible refine gate_dst (N := 9) rfl ?_); (try (refine gate_guard (by rfl) ?_; dsimp only)); refine Kd.R_lit k37 _ 37 ?hg (N := 9) ?hd (xs := ([(⟨a0_4, a0_5⟩ : S37)] : List (S37))) (inner := [.int .i64 a0_4, .int .i64 a0_5]) (ok := fun _ => True) (okp := fun _ => True) ?hr ?hp (fun _ hk => hk) trivial (Below.refl _ _) (Nat.le_refl _) (by simp) ?_; (case hd => rfl); (case hg => rfl); (case hr => first | (go_simp; done) | (go_simp; rfl)); (case hp => exact (Reps.c2 (show Kd.M k37 _ _ _ (⟨a0_4, a0_5⟩ : S37) [.int .i64 a0_4, .int .i64 a0_5] from (k37_mkM _ _ _ (⟨a0_4, a0_5⟩ : S37) )) (Reps.none _ _))); intro v544 w9 ho10 hb hg_ hnew_; clear hg_ hnew_; (first | rw [← Ny543.out] at ho10 | (simp only [Int.reduceToNat] at ho10; rw [← Ny543.out] at ho10)); have HO545 := Aside0.mk (Kd.R_lower ho10 (below_size (bnow HB))); replace BK541 := bb BK541 hb; replace HB := bst HB hb; clear hb ho10; obtain ⟨Ao11, co11, eo11⟩ := Kd.R_slice HO545.out; subst eo11) | (go_at_call 49; (with_reducible refine (grids_point.calls k _ _ y543 t546 _ ?side1 ?side2 A4.out).mono ?_); (case side1 => repeat (first | exact (Kd.R_reads' HO545.out).2.2 | (with_reducible refine Kd.C_alloc ?_ _) | (with_reducible refine Kd.C_drewN ?_ _) | (with_reducible refine Kd.C_drew ?_))); (case side2 => exact (Kd.R_reads' HO545.out).2.1); rintro e w12 ⟨rfl, hb⟩; replace HO545 := Aside0.mk (Kd.R_below (by (with_reducible repeat (first | apply Kd.R_alloc | apply Kd.R_drewN | apply Kd.R_drew)); exact HO545.out) hb); replace BK541 := bb BK541 hb; replace HB := bst HB hb; (try clear hb); (try clear hb2); (try clear hk); (try clear hi)))
    go_ret
    exact rt HB
  · replace c3 := Bool.eq_false_iff.mpr c3
    subst c3
    have H1 : (some false) = some r := by rw [if_neg (show ¬ (false = true) by decide)] at H; exact H
    clear H
    have H := H1
    clear H1
    obtain rfl := Option.some.inj H
    go_enter Try.func62, Try.ntmps62
    go_wp2_with (first | ((with_reducible refine gate_dst (N := 1) rfl ?_); (try (refine gate_guard (by rfl) ?_; dsimp only)); refine bx 1 #[.int .i64 a0_0, .int .i64 a0_1, .int .i64 a0_2, .int .i64 a0_3, .int .i64 a0_4, .int .i64 a0_5] 55 fun gb541 hg w13 BK541 hb => ?_; have GW541 := gw hg HB; have GE541 := gw hg HB; replace HB := bst HB hb; clear hb hg; have ⟨hcz14_0, hcz14_1, hcz14_2, hcz14_3, hcz14_4, hcz14_5, hfz14_0, hfz14_1, hfz14_2, hfz14_3, hfz14_4, hfz14_5⟩ := cf6 BK541) | ((with_reducible refine gate_callee (f := 59) rfl ?_); refine gl 5 Try.func59 (grids_matrix.calls a0_0 a0_1 a0_2 a0_3 false _ A2.out) ?_; rintro e w15 ⟨rfl, hb⟩; refine ⟨_, rfl, ?_⟩; replace BK541 := bb BK541 hb; replace HB := bst HB hb; clear hb))
    go_ret
    exact rt HB
end
section
/-! ### grids_image: function 63 -/
def grids_image.f (a0_0 : Int) (a0_1 : Int) (a0_2 : Int) (a0_3 : Int) (a0_4 : Int) (a0_5 : Int) (a1_0 : Int) (a1_1 : Int) : Option (Int × Int) := (some (wrap64 (a0_0 * a1_0))).bind fun z550 => ((some (wrap64 (a0_1 * a1_1))).bind fun z551 => ((some (wrap64 (z550 + z551))).bind fun z552 => ((some (wrap64 (z552 + a0_4))).bind fun z553 => ((some (wrap64 (a0_2 * a1_0))).bind fun z554 => ((some (wrap64 (a0_3 * a1_1))).bind fun z555 => ((some (wrap64 (z554 + z555))).bind fun z556 => ((some (wrap64 (z556 + a0_5))).bind fun z557 => (some (z553, z557)))))))))
set_option maxHeartbeats 8000000 in
set_option maxRecDepth 100000 in
theorem grids_image.calls (a0_0 : Int) (a0_1 : Int) (a0_2 : Int) (a0_3 : Int) (a0_4 : Int) (a0_5 : Int) (a1_0 : Int) (a1_1 : Int) (r1 : Int) (r2 : Int) (w : World) (h : grids_image.f a0_0 a0_1 a0_2 a0_3 a0_4 a0_5 a1_0 a1_1 = some (r1, r2)) :
    Calls Try.prog 63 #[.agg #[.int .i64 a0_0, .int .i64 a0_1, .int .i64 a0_2, .int .i64 a0_3, .int .i64 a0_4, .int .i64 a0_5], .agg #[.int .i64 a1_0, .int .i64 a1_1]] w fun e w' => e = .returned (.agg #[.int .i64 r1, .int .i64 r2]) ∧ Below w.heap.size w w' := by
  have hu55 := Try.underlying55
  have hu37 := Try.underlying37
  have HB := Aside0.mk (Below.refl w.heap.size w)
  have H : ((some (wrap64 (a0_0 * a1_0))).bind fun z550 => ((some (wrap64 (a0_1 * a1_1))).bind fun z551 => ((some (wrap64 (z550 + z551))).bind fun z552 => ((some (wrap64 (z552 + a0_4))).bind fun z553 => ((some (wrap64 (a0_2 * a1_0))).bind fun z554 => ((some (wrap64 (a0_3 * a1_1))).bind fun z555 => ((some (wrap64 (z554 + z555))).bind fun z556 => ((some (wrap64 (z556 + a0_5))).bind fun z557 => (some (z553, z557)))))))))) = some (r1, r2) := h
  clear h
  obtain ⟨z550, E30, H⟩ := oc H
  have E3w : (IntKind.i64.wrap (a0_0 * a1_0)) = z550 := (i64_w _).trans E30
  obtain ⟨z551, E40, H⟩ := oc H
  have E4w : (IntKind.i64.wrap (a0_1 * a1_1)) = z551 := (i64_w _).trans E40
  obtain ⟨z552, E50, H⟩ := oc H
  have E5w : (IntKind.i64.wrap (z550 + z551)) = z552 := (i64_w _).trans E50
  obtain ⟨z553, E60, H⟩ := oc H
  have E6w : (IntKind.i64.wrap (z552 + a0_4)) = z553 := (i64_w _).trans E60
  obtain ⟨z554, E70, H⟩ := oc H
  have E7w : (IntKind.i64.wrap (a0_2 * a1_0)) = z554 := (i64_w _).trans E70
  obtain ⟨z555, E80, H⟩ := oc H
  have E8w : (IntKind.i64.wrap (a0_3 * a1_1)) = z555 := (i64_w _).trans E80
  obtain ⟨z556, E90, H⟩ := oc H
  have E9w : (IntKind.i64.wrap (z554 + z555)) = z556 := (i64_w _).trans E90
  obtain ⟨z557, E100, H⟩ := oc H
  have E10w : (IntKind.i64.wrap (z556 + a0_5)) = z557 := (i64_w _).trans E100
  simp only [Option.some.injEq, Prod.mk.injEq] at H
  obtain ⟨rfl, rfl⟩ := H
  go_enter Try.func63, Try.ntmps63
  go_wp2_with (first | ((with_reducible refine gate_dst (N := 2) rfl ?_); refine bx 2 #[.int .i64 a0_0, .int .i64 a0_1, .int .i64 a0_2, .int .i64 a0_3, .int .i64 a0_4, .int .i64 a0_5] 55 fun gb547 hg w11 BK547 hb => ?_; have GW547 := gw hg HB; have GE547 := gw hg HB; replace HB := bst HB hb; clear hb hg) | ((with_reducible refine gate_dst (N := 3) rfl ?_); refine bx 3 #[.int .i64 a1_0, .int .i64 a1_1] 37 fun gb548 hg w12 BK548 hb => ?_; have GW548 := gw hg HB; have GE548 := gw hg HB; have NB547_548 := nlt hg BK547; have NB548_547 := ngt hg BK547; replace BK547 := bb BK547 hb; replace HB := bst HB hb; clear hb hg) | ((with_reducible refine gate_dst (N := 4) rfl ?_); refine bx 4 #[.int .i64 0, .int .i64 0] 37 fun gb549 hg w13 BK549 hb => ?_; have GW549 := gw hg HB; have GE549 := gw hg HB; have NB547_549 := nlt hg BK547; have NB549_547 := ngt hg BK547; have NB548_549 := nlt hg BK548; have NB549_548 := ngt hg BK548; replace BK547 := bb BK547 hb; replace BK548 := bb BK548 hb; replace HB := bst HB hb; clear hb hg; have hnb14 := NB547_548.out; have hnc14 := NB548_547.out; have hnb15 := NB547_549.out; have hnc15 := NB549_547.out; have ⟨hcz16_0, hcz16_1, hcz16_2, hcz16_3, hcz16_4, hcz16_5, hfz16_0, hfz16_1, hfz16_2, hfz16_3, hfz16_4, hfz16_5⟩ := cf6 BK547; have hnb17 := NB548_549.out; have hnc17 := NB549_548.out; have ⟨hcz18_0, hcz18_1, hfz18_0, hfz18_1⟩ := cf2 BK548; have ⟨hcz19_0, hcz19_1, hfz19_0, hfz19_1⟩ := cf2 BK549))
  refine bodyPost_ret (results_cell_row rfl _ _ gb549 37 #[.int .i64 z553, .int .i64 z557] (0, 0) _ rfl (by (with_reducible repeat (first | refine blk_drewN ?_ _ | refine blk_drew ?_ | refine blk_alloc ?_ _)); refine blk_put (cs := #[.int .i64 z553, .int .i64 0]) ?_ 1 _ rfl; (with_reducible repeat (first | refine blk_drewN ?_ _ | refine blk_drew ?_ | refine blk_alloc ?_ _)); refine blk_put (cs := #[.int .i64 0, .int .i64 0]) ?_ 0 _ rfl; (with_reducible repeat (first | refine blk_drewN ?_ _ | refine blk_drew ?_ | refine blk_alloc ?_ _)); exact BK549.out) Try.underlying37 rfl (by kernel_rfl)) rfl ?_
  exact rt HB
end
section
/-! ### grids_Apply: function 27 -/
def grids_Apply.j0 : Nat → Bool → Int → Int → Int → Int → Int → Int → Int → Int → Option (Int × Int × Int)
  | 0, _, _, _, _, _, _, _, _, _ => none
  | k + 1, x15, x559000, x559001, x559002, x559003, x559004, x559005, x560000, x560001 => if x15 = true then (some (0, 0, 2)) else ((grids_image.f x559000 x559001 x559002 x559003 x559004 x559005 x560000 x560001).bind fun bt566 => ((grids_point.f k (([(⟨bt566.1, bt566.2⟩ : S37)] : List (S37)))).bind fun t572 => (if t572 = true then (some (bt566.1, bt566.2, 0)) else (some (0, 0, 7)))))
def grids_Apply.f (k : Nat) (a0_0 : Int) (a0_1 : Int) (a0_2 : Int) (a0_3 : Int) (a0_4 : Int) (a0_5 : Int) (a1_0 : Int) (a1_1 : Int) : Option (Int × Int × Int) := (grids_move.f k a0_0 a0_1 a0_2 a0_3 a0_4 a0_5).bind fun t561 => (if t561 = true then ((grids_point.f k (([(⟨a1_0, a1_1⟩ : S37)] : List (S37)))).bind fun t565 => (grids_Apply.j0 k (!t565) a0_0 a0_1 a0_2 a0_3 a0_4 a0_5 a1_0 a1_1)) else (grids_Apply.j0 k true a0_0 a0_1 a0_2 a0_3 a0_4 a0_5 a1_0 a1_1))
theorem grids_Apply.mono_l : ∀ k, (∀ y0 y1 y2 y3 y4 y5 y6 y7 y8, LeO (grids_Apply.j0 k y0 y1 y2 y3 y4 y5 y6 y7 y8) (grids_Apply.j0 (k + 1) y0 y1 y2 y3 y4 y5 y6 y7 y8))
  | 0 => fun _ _ _ _ _ _ _ _ _ r h => by simp [grids_Apply.j0] at h
  | k + 1 => by
    have ih0 := grids_Apply.mono_l k
    · intro y0 y1 y2 y3 y4 y5 y6 y7 y8
      unfold grids_Apply.j0
      repeat' first
      | (with_reducible exact ih0 _ _ _ _ _ _ _ _ _)
      | (with_reducible exact grids_move.mono _ _ _ _ _ _ _)
      | (with_reducible exact grids_point.mono _ _)
      | (with_reducible exact LeO.refl _)
      | (with_reducible exact LeO.none _)
      | (with_reducible refine LeO.ite ?_ ?_)
      | (with_reducible refine LeO.bind ?_ (fun _ => ?_))
      | exact ih0 _ _ _ _ _ _ _ _ _
      | exact grids_move.mono _ _ _ _ _ _ _
      | exact grids_point.mono _ _
      | exact LeO.none _
      | refine LeO.ite ?_ ?_
      | refine LeO.bind ?_ (fun _ => ?_)
theorem grids_Apply.mono : ∀ a0 a1 a2 a3 a4 a5 a6 a7 k, LeO (grids_Apply.f k a0 a1 a2 a3 a4 a5 a6 a7) (grids_Apply.f (k + 1) a0 a1 a2 a3 a4 a5 a6 a7) := by
  intro a0 a1 a2 a3 a4 a5 a6 a7 k
  have ih0 := grids_Apply.mono_l k
  unfold grids_Apply.f
  repeat' first
      | (with_reducible exact ih0 _ _ _ _ _ _ _ _ _)
      | (with_reducible exact grids_move.mono _ _ _ _ _ _ _)
      | (with_reducible exact grids_point.mono _ _)
      | (with_reducible exact LeO.refl _)
      | (with_reducible exact LeO.none _)
      | (with_reducible refine LeO.ite ?_ ?_)
      | (with_reducible refine LeO.bind ?_ (fun _ => ?_))
      | exact ih0 _ _ _ _ _ _ _ _ _
      | exact grids_move.mono _ _ _ _ _ _ _
      | exact grids_point.mono _ _
      | exact LeO.none _
      | refine LeO.ite ?_ ?_
      | refine LeO.bind ?_ (fun _ => ?_)
set_option maxHeartbeats 8000000 in
set_option maxRecDepth 100000 in
theorem grids_Apply.calls (k : Nat) (a0_0 : Int) (a0_1 : Int) (a0_2 : Int) (a0_3 : Int) (a0_4 : Int) (a0_5 : Int) (a1_0 : Int) (a1_1 : Int) (r1 : Int) (r2 : Int) (r3 : Int) (w : World) (h : grids_Apply.f k a0_0 a0_1 a0_2 a0_3 a0_4 a0_5 a1_0 a1_1 = some (r1, r2, r3)) :
    Calls Try.prog 27 #[.agg #[.int .i64 a0_0, .int .i64 a0_1, .int .i64 a0_2, .int .i64 a0_3, .int .i64 a0_4, .int .i64 a0_5], .agg #[.int .i64 a1_0, .int .i64 a1_1]] w fun e w' => e = .returned (.tuple #[.agg #[.int .i64 r1, .int .i64 r2], .int .i64 r3]) ∧ Below w.heap.size w w' := by
  have hu55 := Try.underlying55
  have hu37 := Try.underlying37
  have HB := Aside0.mk (Below.refl w.heap.size w)
  have H : ((grids_move.f k a0_0 a0_1 a0_2 a0_3 a0_4 a0_5).bind fun t561 => (if t561 = true then ((grids_point.f k (([(⟨a1_0, a1_1⟩ : S37)] : List (S37)))).bind fun t565 => (grids_Apply.j0 k (!t565) a0_0 a0_1 a0_2 a0_3 a0_4 a0_5 a1_0 a1_1)) else (grids_Apply.j0 k true a0_0 a0_1 a0_2 a0_3 a0_4 a0_5 a1_0 a1_1))) = some (r1, r2, r3) := h
  clear h
  have HC3 := Aside0.mk H
  clear H
  go_enter Try.func27, Try.ntmps27
  go_upto_region 1 with (first | ((with_reducible refine gate_dst (N := 2) rfl ?_); (try (refine gate_guard (by rfl) ?_; dsimp only)); refine bx 2 #[.int .i64 a0_0, .int .i64 a0_1, .int .i64 a0_2, .int .i64 a0_3, .int .i64 a0_4, .int .i64 a0_5] 55 fun gb558 hg w4 BK558 hb => ?_; have GW558 := gw hg HB; have GE558 := gw hg HB; replace HB := bst HB hb; clear hb hg) | ((with_reducible refine gate_dst (N := 3) rfl ?_); (try (refine gate_guard (by rfl) ?_; dsimp only)); refine bx 3 #[.int .i64 a1_0, .int .i64 a1_1] 37 fun gb559 hg w5 BK559 hb => ?_; have GW559 := gw hg HB; have GE559 := gw hg HB; have NB558_559 := nlt hg BK558; have NB559_558 := ngt hg BK558; replace BK558 := bb BK558 hb; replace HB := bst HB hb; clear hb hg) | ((with_reducible refine gate_dst (N := 4) rfl ?_); (try (refine gate_guard (by rfl) ?_; dsimp only)); refine bx 4 #[.int .i64 0, .int .i64 0] 37 fun gb560 hg w6 BK560 hb => ?_; have GW560 := gw hg HB; have GE560 := gw hg HB; have NB558_560 := nlt hg BK558; have NB560_558 := ngt hg BK558; have NB559_560 := nlt hg BK559; have NB560_559 := ngt hg BK559; replace BK558 := bb BK558 hb; replace BK559 := bb BK559 hb; replace HB := bst HB hb; clear hb hg))
  (try simp only [Act.put, List.setIfInBounds_toArray, List.set_cons_zero, List.set_cons_succ])
  go_cut [15] (fun v15 wc => ∃ (kq : Nat) (x15_2 : Bool), v15 = .bool x15_2 ∧ Aside0 (grids_Apply.j0 kq x15_2 a0_0 a0_1 a0_2 a0_3 a0_4 a0_5 a1_0 a1_1 = some (r1, r2, r3)) ∧ Aside0 (kq ≤ k) ∧ Aside0 (wc.heap[gb558]? = some (.cells #[.int .i64 a0_0, .int .i64 a0_1, .int .i64 a0_2, .int .i64 a0_3, .int .i64 a0_4, .int .i64 a0_5] 55 (0, 0))) ∧ Aside0 (wc.heap[gb559]? = some (.cells #[.int .i64 a1_0, .int .i64 a1_1] 37 (0, 0))) ∧ Aside0 (wc.heap[gb560]? = some (.cells #[.int .i64 0, .int .i64 0] 37 (0, 0))) ∧ Aside0 (Below w.heap.size w wc))
  case first =>
    have H := HC3.out
    clear HC3
    obtain ⟨t561, A7, H⟩ := ob H
    by_cases c8 : t561 = true
    · subst c8
      have H1 : ((grids_point.f k (([(⟨a1_0, a1_1⟩ : S37)] : List (S37)))).bind fun t565 => (grids_Apply.j0 k (!t565) a0_0 a0_1 a0_2 a0_3 a0_4 a0_5 a1_0 a1_1)) = some (r1, r2, r3) := by rw [if_pos rfl] at H; exact H
      clear H
      have H := H1
      clear H1
      obtain ⟨y562, hy562⟩ : ∃ y_ : List (S37), y_ = (([(⟨a1_0, a1_1⟩ : S37)] : List (S37))) := ⟨_, rfl⟩
      replace H : ((grids_point.f k y562).bind fun t565 => (grids_Apply.j0 k (!t565) a0_0 a0_1 a0_2 a0_3 a0_4 a0_5 a1_0 a1_1)) = some (r1, r2, r3) := by first | (rw [hy562]; with_reducible exact H) | (have H2_ := (Option.bind_some _ _).symm.trans H; rw [hy562]; with_reducible exact H2_) | (have H2_ := (Option.bind_some _ _).symm.trans H; with_reducible exact H2_) | with_reducible exact H | (rw [hy562]; exact H) | exact H
      have Ny562 := Aside0.mk hy562
      clear hy562
      obtain ⟨t565, A9, H⟩ := ob H
      have H' := Aside0.mk H
      clear H
      have hnb10 := NB558_559.out
      have hnc10 := NB559_558.out
      have hnb11 := NB558_560.out
      have hnc11 := NB560_558.out
      have ⟨hcz12_0, hcz12_1, hcz12_2, hcz12_3, hcz12_4, hcz12_5, hfz12_0, hfz12_1, hfz12_2, hfz12_3, hfz12_4, hfz12_5⟩ := cf6 BK558
      go_wp2_with (first | ((with_reducible refine gate_callee (f := 62) rfl ?_); refine gl 8 Try.func62 (grids_move.calls k a0_0 a0_1 a0_2 a0_3 a0_4 a0_5 true _ A7.out) ?_; rintro e w13 ⟨rfl, hb⟩; refine ⟨_, rfl, ?_⟩; replace BK558 := bb BK558 hb; replace BK559 := bb BK559 hb; replace BK560 := bb BK560 hb; replace HB := bst HB hb; clear hb; have hnb14 := NB559_560.out; have hnc14 := NB560_559.out; have ⟨hcz15_0, hcz15_1, hfz15_0, hfz15_1⟩ := cf2 BK559) | ((with_reducible refine gate_dst (N := 12) rfl ?_); (try (refine gate_guard (by rfl) ?_; dsimp only)); refine Kd.R_lit k37 _ 37 ?hg (N := 12) ?hd (xs := ([(⟨a1_0, a1_1⟩ : S37)] : List (S37))) (inner := [.int .i64 a1_0, .int .i64 a1_1]) (ok := fun _ => True) (okp := fun _ => True) ?hr ?hp (fun _ hk => hk) trivial (Below.refl _ _) (Nat.le_refl _) (by simp) ?_; (case hd => rfl); (case hg => rfl); (case hr => first | (go_simp; done) | (go_simp; rfl)); (case hp => exact (Reps.c2 (show Kd.M k37 _ _ _ (⟨a1_0, a1_1⟩ : S37) [.int .i64 a1_0, .int .i64 a1_1] from (k37_mkM _ _ _ (⟨a1_0, a1_1⟩ : S37) )) (Reps.none _ _))); intro v563 w16 ho17 hb hg_ hnew_; clear hg_ hnew_; (first | rw [← Ny562.out] at ho17 | (simp only [Int.reduceToNat] at ho17; rw [← Ny562.out] at ho17)); have HO564 := Aside0.mk (Kd.R_lower (Kd.R_newB (Kd.R_newB ho17 (g := gb559) (o := .cells #[.int .i64 a1_0, .int .i64 a1_1] 37 (0, 0)) (pk BK559)) (g := gb560) (o := .cells #[.int .i64 0, .int .i64 0] 37 (0, 0)) (pk BK560)) (below_size (bnow HB))); replace BK558 := bb BK558 hb; replace BK559 := bb BK559 hb; replace BK560 := bb BK560 hb; replace HB := bst HB hb; clear hb ho17; obtain ⟨Ao18, co18, eo18⟩ := Kd.R_slice HO564.out; subst eo18) | (go_at_call 49; (with_reducible refine (grids_point.calls k _ _ y562 t565 _ ?side1 ?side2 A9.out).mono ?_); (case side1 => repeat (first | exact (Kd.R_reads' HO564.out).2.2 | (with_reducible refine Kd.C_alloc ?_ _) | (with_reducible refine Kd.C_drewN ?_ _) | (with_reducible refine Kd.C_drew ?_))); (case side2 => exact (Kd.R_reads' HO564.out).2.1); rintro e w19 ⟨rfl, hb⟩; replace HO564 := Aside0.mk (Kd.R_below (by (with_reducible repeat (first | apply Kd.R_alloc | apply Kd.R_drewN | apply Kd.R_drew)); exact HO564.out) hb); replace BK558 := bb BK558 hb; replace BK559 := bb BK559 hb; replace BK560 := bb BK560 hb; replace HB := bst HB hb; (try clear hb); (try clear hb2); (try clear hk); (try clear hi)))
      go_meet
      case rel => exact ⟨_, (!t565), (by first | rfl | (simp; done) | (simp [*]; done)), H', ⟨by first | omega | exact Nat.le_refl _⟩, ⟨pk BK558⟩, ⟨pk BK559⟩, ⟨pk BK560⟩, ⟨bnow HB⟩⟩
    · replace c8 := Bool.eq_false_iff.mpr c8
      subst c8
      have H1 : (grids_Apply.j0 k true a0_0 a0_1 a0_2 a0_3 a0_4 a0_5 a1_0 a1_1) = some (r1, r2, r3) := by rw [if_neg (show ¬ (false = true) by decide)] at H; exact H
      clear H
      have H := H1
      clear H1
      have H' := Aside0.mk H
      clear H
      have hnb20 := NB558_559.out
      have hnc20 := NB559_558.out
      have hnb21 := NB558_560.out
      have hnc21 := NB560_558.out
      have ⟨hcz22_0, hcz22_1, hcz22_2, hcz22_3, hcz22_4, hcz22_5, hfz22_0, hfz22_1, hfz22_2, hfz22_3, hfz22_4, hfz22_5⟩ := cf6 BK558
      go_wp2_with (first | ((with_reducible refine gate_callee (f := 62) rfl ?_); refine gl 8 Try.func62 (grids_move.calls k a0_0 a0_1 a0_2 a0_3 a0_4 a0_5 false _ A7.out) ?_; rintro e w23 ⟨rfl, hb⟩; refine ⟨_, rfl, ?_⟩; replace BK558 := bb BK558 hb; replace BK559 := bb BK559 hb; replace BK560 := bb BK560 hb; replace HB := bst HB hb; clear hb))
      go_meet
      case rel => exact ⟨_, (true), (by first | rfl | (simp; done) | (simp [*]; done)), H', ⟨by first | omega | exact Nat.le_refl _⟩, ⟨pk BK558⟩, ⟨pk BK559⟩, ⟨pk BK560⟩, ⟨bnow HB⟩⟩
  case rest =>
    clear HC3
    try clear c1; try clear c2; try clear p2; try clear c6; try clear c8; try clear c10; try clear c11; try clear c14; try clear c20; try clear c21; try clear hcz12_0; try clear hcz12_1; try clear hcz12_2; try clear hcz12_3; try clear hcz12_4; try clear hcz12_5; try clear hcz15_0; try clear hcz15_1; try clear hcz22_0; try clear hcz22_1; try clear hcz22_2; try clear hcz22_3; try clear hcz22_4; try clear hcz22_5; try clear hfz12_0; try clear hfz12_1; try clear hfz12_2; try clear hfz12_3; try clear hfz12_4; try clear hfz12_5; try clear hfz15_0; try clear hfz15_1; try clear hfz22_0; try clear hfz22_1; try clear hfz22_2; try clear hfz22_3; try clear hfz22_4; try clear hfz22_5
    obtain ⟨kq, x15_2, rfl, HA, HJ2, BK558, BK559, BK560, HB⟩ := hcut
    cases kq with
    | zero => exact absurd HA.out (by simp [grids_Apply.j0])
    | succ kj2 =>
      have H := HA.out
      clear HA
      simp only [grids_Apply.j0] at H
      by_cases c24 : x15_2 = true
      · subst c24
        have H1 : (some (0, 0, 2)) = some (r1, r2, r3) := by rw [if_pos rfl] at H; exact H
        clear H
        have H := H1
        clear H1
        simp only [Option.some.injEq, Prod.mk.injEq] at H
        obtain ⟨rfl, rfl, rfl⟩ := H
        have hnb25 := NB560_558.out
        have hnc25 := NB558_560.out
        have hnb26 := NB560_559.out
        have hnc26 := NB559_560.out
        have ⟨hcz27_0, hcz27_1, hfz27_0, hfz27_1⟩ := cf2 BK560
        go_wp2
        refine bodyPost_ret (results_ct rfl _ _ gb560 37 #[.int .i64 0, .int .i64 0] (0, 0) _ rfl (by (with_reducible repeat (first | refine blk_drewN ?_ _ | refine blk_drew ?_ | refine blk_alloc ?_ _)); refine blk_put (cs := #[.int .i64 0, .int .i64 0]) ?_ 1 _ rfl; (with_reducible repeat (first | refine blk_drewN ?_ _ | refine blk_drew ?_ | refine blk_alloc ?_ _)); refine blk_put (cs := #[.int .i64 0, .int .i64 0]) ?_ 0 _ rfl; (with_reducible repeat (first | refine blk_drewN ?_ _ | refine blk_drew ?_ | refine blk_alloc ?_ _)); exact BK560.out) Try.underlying37 rfl (by kernel_rfl)) rfl ?_
        exact rt HB
      · replace c24 := Bool.eq_false_iff.mpr c24
        subst c24
        have H1 : ((grids_image.f a0_0 a0_1 a0_2 a0_3 a0_4 a0_5 a1_0 a1_1).bind fun bt566 => ((grids_point.f kj2 (([(⟨bt566.1, bt566.2⟩ : S37)] : List (S37)))).bind fun t572 => (if t572 = true then (some (bt566.1, bt566.2, 0)) else (some (0, 0, 7))))) = some (r1, r2, r3) := by rw [if_neg (show ¬ (false = true) by decide)] at H; exact H
        clear H
        have H := H1
        clear H1
        obtain ⟨⟨t566, t567⟩, A28, H⟩ := ob H
        obtain ⟨y569, hy569⟩ : ∃ y_ : List (S37), y_ = (([(⟨t566, t567⟩ : S37)] : List (S37))) := ⟨_, rfl⟩
        replace H : ((grids_point.f kj2 y569).bind fun t572 => (if t572 = true then (some (t566, t567, 0)) else (some (0, 0, 7)))) = some (r1, r2, r3) := by first | (rw [hy569]; with_reducible exact H) | (have H2_ := (Option.bind_some _ _).symm.trans H; rw [hy569]; with_reducible exact H2_) | (have H2_ := (Option.bind_some _ _).symm.trans H; with_reducible exact H2_) | with_reducible exact H | (rw [hy569]; exact H) | exact H
        have Ny569 := Aside0.mk hy569
        clear hy569
        obtain ⟨t572, A29, H⟩ := ob H
        by_cases c30 : t572 = true
        · subst c30
          have H1 : (some (t566, t567, 0)) = some (r1, r2, r3) := by rw [if_pos rfl] at H; exact H
          clear H
          have H := H1
          clear H1
          simp only [Option.some.injEq, Prod.mk.injEq] at H
          obtain ⟨rfl, rfl, rfl⟩ := H
          have hnb31 := NB558_559.out
          have hnc31 := NB559_558.out
          have hnb32 := NB558_560.out
          have hnc32 := NB560_558.out
          have ⟨hcz33_0, hcz33_1, hcz33_2, hcz33_3, hcz33_4, hcz33_5, hfz33_0, hfz33_1, hfz33_2, hfz33_3, hfz33_4, hfz33_5⟩ := cf6 BK558
          have hnb34 := NB559_560.out
          have hnc34 := NB560_559.out
          have ⟨hcz35_0, hcz35_1, hfz35_0, hfz35_1⟩ := cf2 BK559
          go_wp2_with (first | ((with_reducible refine gate_callee (f := 63) rfl ?_); refine gl 19 Try.func63 (grids_image.calls a0_0 a0_1 a0_2 a0_3 a0_4 a0_5 a1_0 a1_1 t566 t567 _ A28.out) ?_; rintro e w36 ⟨rfl, hb⟩; refine ⟨_, rfl, ?_⟩; replace BK558 := bb BK558 hb; replace BK559 := bb BK559 hb; replace BK560 := bb BK560 hb; replace HB := bst HB hb; clear hb) | ((with_reducible refine gate_dst (N := 6) rfl ?_); (try (refine gate_guard (by rfl) ?_; dsimp only)); refine bx 6 #[.int .i64 0, .int .i64 0] 37 fun gb568 hg w37 BK568 hb => ?_; have GW568 := gw hg HB; have GE568 := gw hg HB; have NB558_568 := nlt hg BK558; have NB568_558 := ngt hg BK558; have NB559_568 := nlt hg BK559; have NB568_559 := ngt hg BK559; have NB560_568 := nlt hg BK560; have NB568_560 := ngt hg BK560; replace BK558 := bb BK558 hb; replace BK559 := bb BK559 hb; replace BK560 := bb BK560 hb; replace HB := bst HB hb; clear hb hg; have hnb38 := NB568_558.out; have hnc38 := NB558_568.out; have hnb39 := NB568_559.out; have hnc39 := NB559_568.out; have hnb40 := NB568_560.out; have hnc40 := NB560_568.out; have ⟨hcz41_0, hcz41_1, hfz41_0, hfz41_1⟩ := cf2 BK568) | ((with_reducible refine gate_dst (N := 21) rfl ?_); (try (refine gate_guard (by rfl) ?_; dsimp only)); refine Kd.R_lit k37 _ 37 ?hg (N := 21) ?hd (xs := ([(⟨t566, t567⟩ : S37)] : List (S37))) (inner := [.int .i64 t566, .int .i64 t567]) (ok := fun _ => True) (okp := fun _ => True) ?hr ?hp (fun _ hk => hk) trivial (Below.refl _ _) (Nat.le_refl _) (by simp) ?_; (case hd => rfl); (case hg => rfl); (case hr => first | (go_simp; done) | (go_simp; rfl)); (case hp => exact (Reps.c2 (show Kd.M k37 _ _ _ (⟨t566, t567⟩ : S37) [.int .i64 t566, .int .i64 t567] from (k37_mkM _ _ _ (⟨t566, t567⟩ : S37) )) (Reps.none _ _))); intro v570 w42 ho43 hb hg_ hnew_; clear hg_ hnew_; (first | rw [← Ny569.out] at ho43 | (simp only [Int.reduceToNat] at ho43; rw [← Ny569.out] at ho43)); have HO571 := Aside0.mk (Kd.R_lower (Kd.R_newB (Kd.R_newB (Kd.R_newB ho43 (g := gb559) (o := .cells #[.int .i64 a1_0, .int .i64 a1_1] 37 (0, 0)) (by (with_reducible repeat (first | refine blk_drewN ?_ _ | refine blk_drew ?_ | refine blk_alloc ?_ _)); refine blk_far ?_ NB559_568.out _; (with_reducible repeat (first | refine blk_drewN ?_ _ | refine blk_drew ?_ | refine blk_alloc ?_ _)); refine blk_far ?_ NB559_568.out _; (with_reducible repeat (first | refine blk_drewN ?_ _ | refine blk_drew ?_ | refine blk_alloc ?_ _)); exact BK559.out)) (g := gb560) (o := .cells #[.int .i64 0, .int .i64 0] 37 (0, 0)) (by (with_reducible repeat (first | refine blk_drewN ?_ _ | refine blk_drew ?_ | refine blk_alloc ?_ _)); refine blk_far ?_ NB560_568.out _; (with_reducible repeat (first | refine blk_drewN ?_ _ | refine blk_drew ?_ | refine blk_alloc ?_ _)); refine blk_far ?_ NB560_568.out _; (with_reducible repeat (first | refine blk_drewN ?_ _ | refine blk_drew ?_ | refine blk_alloc ?_ _)); exact BK560.out)) (g := gb568) (o := .cells #[.int .i64 t566, .int .i64 t567] 37 (0, 0)) (by (with_reducible repeat (first | refine blk_drewN ?_ _ | refine blk_drew ?_ | refine blk_alloc ?_ _)); refine blk_put (cs := #[.int .i64 t566, .int .i64 0]) ?_ 1 _ rfl; (with_reducible repeat (first | refine blk_drewN ?_ _ | refine blk_drew ?_ | refine blk_alloc ?_ _)); refine blk_put (cs := #[.int .i64 0, .int .i64 0]) ?_ 0 _ rfl; (with_reducible repeat (first | refine blk_drewN ?_ _ | refine blk_drew ?_ | refine blk_alloc ?_ _)); exact BK568.out)) (below_size (bnow HB))); replace BK558 := Aside0.mk (blk_below (g := gb558) (o := .cells #[.int .i64 a0_0, .int .i64 a0_1, .int .i64 a0_2, .int .i64 a0_3, .int .i64 a0_4, .int .i64 a0_5] 55 (0, 0)) (by (with_reducible repeat (first | refine blk_drewN ?_ _ | refine blk_drew ?_ | refine blk_alloc ?_ _)); refine blk_far ?_ NB558_568.out _; (with_reducible repeat (first | refine blk_drewN ?_ _ | refine blk_drew ?_ | refine blk_alloc ?_ _)); refine blk_far ?_ NB558_568.out _; (with_reducible repeat (first | refine blk_drewN ?_ _ | refine blk_drew ?_ | refine blk_alloc ?_ _)); exact BK558.out) hb); replace BK559 := Aside0.mk (blk_below (g := gb559) (o := .cells #[.int .i64 a1_0, .int .i64 a1_1] 37 (0, 0)) (by (with_reducible repeat (first | refine blk_drewN ?_ _ | refine blk_drew ?_ | refine blk_alloc ?_ _)); refine blk_far ?_ NB559_568.out _; (with_reducible repeat (first | refine blk_drewN ?_ _ | refine blk_drew ?_ | refine blk_alloc ?_ _)); refine blk_far ?_ NB559_568.out _; (with_reducible repeat (first | refine blk_drewN ?_ _ | refine blk_drew ?_ | refine blk_alloc ?_ _)); exact BK559.out) hb); replace BK560 := Aside0.mk (blk_below (g := gb560) (o := .cells #[.int .i64 0, .int .i64 0] 37 (0, 0)) (by (with_reducible repeat (first | refine blk_drewN ?_ _ | refine blk_drew ?_ | refine blk_alloc ?_ _)); refine blk_far ?_ NB560_568.out _; (with_reducible repeat (first | refine blk_drewN ?_ _ | refine blk_drew ?_ | refine blk_alloc ?_ _)); refine blk_far ?_ NB560_568.out _; (with_reducible repeat (first | refine blk_drewN ?_ _ | refine blk_drew ?_ | refine blk_alloc ?_ _)); exact BK560.out) hb); replace BK568 := Aside0.mk (blk_below (g := gb568) (o := .cells #[.int .i64 t566, .int .i64 t567] 37 (0, 0)) (by (with_reducible repeat (first | refine blk_drewN ?_ _ | refine blk_drew ?_ | refine blk_alloc ?_ _)); refine blk_put (cs := #[.int .i64 t566, .int .i64 0]) ?_ 1 _ rfl; (with_reducible repeat (first | refine blk_drewN ?_ _ | refine blk_drew ?_ | refine blk_alloc ?_ _)); refine blk_put (cs := #[.int .i64 0, .int .i64 0]) ?_ 0 _ rfl; (with_reducible repeat (first | refine blk_drewN ?_ _ | refine blk_drew ?_ | refine blk_alloc ?_ _)); exact BK568.out) hb); replace HB := bst HB hb; clear hb ho43; obtain ⟨Ao44, co44, eo44⟩ := Kd.R_slice HO571.out; subst eo44) | ((with_reducible refine gate_callee (f := 49) rfl ?_); refine goesL_ (some 22) rfl rfl Try.func49 (by kernel_rfl) rfl #[.slice Ao44 y569.length co44] rfl am ?_; (with_reducible refine (grids_point.calls kj2 _ _ y569 true _ ?side1 ?side2 A29.out).mono ?_); (case side1 => repeat (first | exact (Kd.R_reads' HO571.out).2.2 | (with_reducible refine Kd.C_alloc ?_ _) | (with_reducible refine Kd.C_drewN ?_ _) | (with_reducible refine Kd.C_drew ?_))); (case side2 => exact (Kd.R_reads' HO571.out).2.1); rintro e w45 ⟨rfl, hb⟩; refine ⟨_, rfl, ?_⟩; replace HO571 := Aside0.mk (Kd.R_below (by (with_reducible repeat (first | apply Kd.R_alloc | apply Kd.R_drewN | apply Kd.R_drew)); exact HO571.out) hb); replace BK558 := bb BK558 hb; replace BK559 := bb BK559 hb; replace BK560 := bb BK560 hb; replace BK568 := bb BK568 hb; replace HB := bst HB hb; (try clear hb); (try clear hb2); (try clear hk); (try clear hi); have ⟨hcz46_0, hcz46_1, hfz46_0, hfz46_1⟩ := cf2 BK568; have ⟨hcz47_0, hcz47_1, hfz47_0, hfz47_1⟩ := cf2 BK560))
          refine bodyPost_ret (results_ct rfl _ _ gb560 37 #[.int .i64 t566, .int .i64 t567] (0, 0) _ rfl (by (with_reducible repeat (first | refine blk_drewN ?_ _ | refine blk_drew ?_ | refine blk_alloc ?_ _)); refine blk_put (cs := #[.int .i64 t566, .int .i64 0]) ?_ 1 _ rfl; (with_reducible repeat (first | refine blk_drewN ?_ _ | refine blk_drew ?_ | refine blk_alloc ?_ _)); refine blk_put (cs := #[.int .i64 0, .int .i64 0]) ?_ 0 _ rfl; (with_reducible repeat (first | refine blk_drewN ?_ _ | refine blk_drew ?_ | refine blk_alloc ?_ _)); exact BK560.out) Try.underlying37 rfl (by kernel_rfl)) rfl ?_
          exact rt HB
        · replace c30 := Bool.eq_false_iff.mpr c30
          subst c30
          have H1 : (some (0, 0, 7)) = some (r1, r2, r3) := by rw [if_neg (show ¬ (false = true) by decide)] at H; exact H
          clear H
          have H := H1
          clear H1
          simp only [Option.some.injEq, Prod.mk.injEq] at H
          obtain ⟨rfl, rfl, rfl⟩ := H
          have hnb48 := NB558_559.out
          have hnc48 := NB559_558.out
          have hnb49 := NB558_560.out
          have hnc49 := NB560_558.out
          have ⟨hcz50_0, hcz50_1, hcz50_2, hcz50_3, hcz50_4, hcz50_5, hfz50_0, hfz50_1, hfz50_2, hfz50_3, hfz50_4, hfz50_5⟩ := cf6 BK558
          have hnb51 := NB559_560.out
          have hnc51 := NB560_559.out
          have ⟨hcz52_0, hcz52_1, hfz52_0, hfz52_1⟩ := cf2 BK559
          go_wp2_with (first | ((with_reducible refine gate_callee (f := 63) rfl ?_); refine gl 19 Try.func63 (grids_image.calls a0_0 a0_1 a0_2 a0_3 a0_4 a0_5 a1_0 a1_1 t566 t567 _ A28.out) ?_; rintro e w53 ⟨rfl, hb⟩; refine ⟨_, rfl, ?_⟩; replace BK558 := bb BK558 hb; replace BK559 := bb BK559 hb; replace BK560 := bb BK560 hb; replace HB := bst HB hb; clear hb) | ((with_reducible refine gate_dst (N := 6) rfl ?_); (try (refine gate_guard (by rfl) ?_; dsimp only)); refine bx 6 #[.int .i64 0, .int .i64 0] 37 fun gb568 hg w54 BK568 hb => ?_; have GW568 := gw hg HB; have GE568 := gw hg HB; have NB558_568 := nlt hg BK558; have NB568_558 := ngt hg BK558; have NB559_568 := nlt hg BK559; have NB568_559 := ngt hg BK559; have NB560_568 := nlt hg BK560; have NB568_560 := ngt hg BK560; replace BK558 := bb BK558 hb; replace BK559 := bb BK559 hb; replace BK560 := bb BK560 hb; replace HB := bst HB hb; clear hb hg; have hnb55 := NB568_558.out; have hnc55 := NB558_568.out; have hnb56 := NB568_559.out; have hnc56 := NB559_568.out; have hnb57 := NB568_560.out; have hnc57 := NB560_568.out; have ⟨hcz58_0, hcz58_1, hfz58_0, hfz58_1⟩ := cf2 BK568) | ((with_reducible refine gate_dst (N := 21) rfl ?_); (try (refine gate_guard (by rfl) ?_; dsimp only)); refine Kd.R_lit k37 _ 37 ?hg (N := 21) ?hd (xs := ([(⟨t566, t567⟩ : S37)] : List (S37))) (inner := [.int .i64 t566, .int .i64 t567]) (ok := fun _ => True) (okp := fun _ => True) ?hr ?hp (fun _ hk => hk) trivial (Below.refl _ _) (Nat.le_refl _) (by simp) ?_; (case hd => rfl); (case hg => rfl); (case hr => first | (go_simp; done) | (go_simp; rfl)); (case hp => exact (Reps.c2 (show Kd.M k37 _ _ _ (⟨t566, t567⟩ : S37) [.int .i64 t566, .int .i64 t567] from (k37_mkM _ _ _ (⟨t566, t567⟩ : S37) )) (Reps.none _ _))); intro v570 w59 ho60 hb hg_ hnew_; clear hg_ hnew_; (first | rw [← Ny569.out] at ho60 | (simp only [Int.reduceToNat] at ho60; rw [← Ny569.out] at ho60)); have HO571 := Aside0.mk (Kd.R_lower (Kd.R_newB (Kd.R_newB (Kd.R_newB ho60 (g := gb559) (o := .cells #[.int .i64 a1_0, .int .i64 a1_1] 37 (0, 0)) (by (with_reducible repeat (first | refine blk_drewN ?_ _ | refine blk_drew ?_ | refine blk_alloc ?_ _)); refine blk_far ?_ NB559_568.out _; (with_reducible repeat (first | refine blk_drewN ?_ _ | refine blk_drew ?_ | refine blk_alloc ?_ _)); refine blk_far ?_ NB559_568.out _; (with_reducible repeat (first | refine blk_drewN ?_ _ | refine blk_drew ?_ | refine blk_alloc ?_ _)); exact BK559.out)) (g := gb560) (o := .cells #[.int .i64 0, .int .i64 0] 37 (0, 0)) (by (with_reducible repeat (first | refine blk_drewN ?_ _ | refine blk_drew ?_ | refine blk_alloc ?_ _)); refine blk_far ?_ NB560_568.out _; (with_reducible repeat (first | refine blk_drewN ?_ _ | refine blk_drew ?_ | refine blk_alloc ?_ _)); refine blk_far ?_ NB560_568.out _; (with_reducible repeat (first | refine blk_drewN ?_ _ | refine blk_drew ?_ | refine blk_alloc ?_ _)); exact BK560.out)) (g := gb568) (o := .cells #[.int .i64 t566, .int .i64 t567] 37 (0, 0)) (by (with_reducible repeat (first | refine blk_drewN ?_ _ | refine blk_drew ?_ | refine blk_alloc ?_ _)); refine blk_put (cs := #[.int .i64 t566, .int .i64 0]) ?_ 1 _ rfl; (with_reducible repeat (first | refine blk_drewN ?_ _ | refine blk_drew ?_ | refine blk_alloc ?_ _)); refine blk_put (cs := #[.int .i64 0, .int .i64 0]) ?_ 0 _ rfl; (with_reducible repeat (first | refine blk_drewN ?_ _ | refine blk_drew ?_ | refine blk_alloc ?_ _)); exact BK568.out)) (below_size (bnow HB))); replace BK558 := Aside0.mk (blk_below (g := gb558) (o := .cells #[.int .i64 a0_0, .int .i64 a0_1, .int .i64 a0_2, .int .i64 a0_3, .int .i64 a0_4, .int .i64 a0_5] 55 (0, 0)) (by (with_reducible repeat (first | refine blk_drewN ?_ _ | refine blk_drew ?_ | refine blk_alloc ?_ _)); refine blk_far ?_ NB558_568.out _; (with_reducible repeat (first | refine blk_drewN ?_ _ | refine blk_drew ?_ | refine blk_alloc ?_ _)); refine blk_far ?_ NB558_568.out _; (with_reducible repeat (first | refine blk_drewN ?_ _ | refine blk_drew ?_ | refine blk_alloc ?_ _)); exact BK558.out) hb); replace BK559 := Aside0.mk (blk_below (g := gb559) (o := .cells #[.int .i64 a1_0, .int .i64 a1_1] 37 (0, 0)) (by (with_reducible repeat (first | refine blk_drewN ?_ _ | refine blk_drew ?_ | refine blk_alloc ?_ _)); refine blk_far ?_ NB559_568.out _; (with_reducible repeat (first | refine blk_drewN ?_ _ | refine blk_drew ?_ | refine blk_alloc ?_ _)); refine blk_far ?_ NB559_568.out _; (with_reducible repeat (first | refine blk_drewN ?_ _ | refine blk_drew ?_ | refine blk_alloc ?_ _)); exact BK559.out) hb); replace BK560 := Aside0.mk (blk_below (g := gb560) (o := .cells #[.int .i64 0, .int .i64 0] 37 (0, 0)) (by (with_reducible repeat (first | refine blk_drewN ?_ _ | refine blk_drew ?_ | refine blk_alloc ?_ _)); refine blk_far ?_ NB560_568.out _; (with_reducible repeat (first | refine blk_drewN ?_ _ | refine blk_drew ?_ | refine blk_alloc ?_ _)); refine blk_far ?_ NB560_568.out _; (with_reducible repeat (first | refine blk_drewN ?_ _ | refine blk_drew ?_ | refine blk_alloc ?_ _)); exact BK560.out) hb); replace BK568 := Aside0.mk (blk_below (g := gb568) (o := .cells #[.int .i64 t566, .int .i64 t567] 37 (0, 0)) (by (with_reducible repeat (first | refine blk_drewN ?_ _ | refine blk_drew ?_ | refine blk_alloc ?_ _)); refine blk_put (cs := #[.int .i64 t566, .int .i64 0]) ?_ 1 _ rfl; (with_reducible repeat (first | refine blk_drewN ?_ _ | refine blk_drew ?_ | refine blk_alloc ?_ _)); refine blk_put (cs := #[.int .i64 0, .int .i64 0]) ?_ 0 _ rfl; (with_reducible repeat (first | refine blk_drewN ?_ _ | refine blk_drew ?_ | refine blk_alloc ?_ _)); exact BK568.out) hb); replace HB := bst HB hb; clear hb ho60; obtain ⟨Ao61, co61, eo61⟩ := Kd.R_slice HO571.out; subst eo61) | ((with_reducible refine gate_callee (f := 49) rfl ?_); refine goesL_ (some 22) rfl rfl Try.func49 (by kernel_rfl) rfl #[.slice Ao61 y569.length co61] rfl am ?_; (with_reducible refine (grids_point.calls kj2 _ _ y569 false _ ?side1 ?side2 A29.out).mono ?_); (case side1 => repeat (first | exact (Kd.R_reads' HO571.out).2.2 | (with_reducible refine Kd.C_alloc ?_ _) | (with_reducible refine Kd.C_drewN ?_ _) | (with_reducible refine Kd.C_drew ?_))); (case side2 => exact (Kd.R_reads' HO571.out).2.1); rintro e w62 ⟨rfl, hb⟩; refine ⟨_, rfl, ?_⟩; replace HO571 := Aside0.mk (Kd.R_below (by (with_reducible repeat (first | apply Kd.R_alloc | apply Kd.R_drewN | apply Kd.R_drew)); exact HO571.out) hb); replace BK558 := bb BK558 hb; replace BK559 := bb BK559 hb; replace BK560 := bb BK560 hb; replace BK568 := bb BK568 hb; replace HB := bst HB hb; (try clear hb); (try clear hb2); (try clear hk); (try clear hi); have ⟨hcz63_0, hcz63_1, hfz63_0, hfz63_1⟩ := cf2 BK560))
          refine bodyPost_ret (results_ct rfl _ _ gb560 37 #[.int .i64 0, .int .i64 0] (0, 0) _ rfl (by (with_reducible repeat (first | refine blk_drewN ?_ _ | refine blk_drew ?_ | refine blk_alloc ?_ _)); refine blk_put (cs := #[.int .i64 0, .int .i64 0]) ?_ 1 _ rfl; (with_reducible repeat (first | refine blk_drewN ?_ _ | refine blk_drew ?_ | refine blk_alloc ?_ _)); refine blk_put (cs := #[.int .i64 0, .int .i64 0]) ?_ 0 _ rfl; (with_reducible repeat (first | refine blk_drewN ?_ _ | refine blk_drew ?_ | refine blk_alloc ?_ _)); exact BK560.out) Try.underlying37 rfl (by kernel_rfl)) rfl ?_
          exact rt HB
end
section
attribute [local go_sem high] eqA25
/-! ### grids_Order: function 33 -/
mutual
def grids_Order.j0 : Nat → Int → Int → Bool → Option (Int × Int)
  | 0, _, _, _ => none
  | k + 1, x5, x6, x28 => if x28 = true then (some (3, 0)) else (if x5 = 1 then (grids_Order.j1 k x5 x6 (x6 == 0)) else (grids_Order.j1 k x5 x6 false))
def grids_Order.j1 : Nat → Int → Int → Bool → Option (Int × Int)
  | 0, _, _, _ => none
  | k + 1, x5, x6, x35 => if x35 = true then (some (4, 0)) else (if x5 = 1 then (if x6 = 1 then (some (6, 0)) else (some (0, 0))) else (some (0, 0)))
end
def grids_Order.f (k : Nat) (a0_0 : Int) (a0_1 : Int) (a0_2 : Int) (a0_3 : Int) : Option (Int × Int) := (grids_matrix.f a0_0 a0_1 a0_2 a0_3).bind fun t574 => (if t574 = true then ((grids_det.f a0_0 a0_1 a0_2 a0_3).bind fun t576 => ((some (wrap64 (a0_0 + a0_3))).bind fun z577 => (if (a0_0 == 1 && (a0_1 == 0 && (a0_2 == 0 && (a0_3 == 1)))) = true then (some (1, 0)) else ((grids_times.f a0_0 a0_1 a0_2 a0_3 a0_0 a0_1 a0_2 a0_3).bind fun bt578 => (if (bt578.1 == 1 && (bt578.2.1 == 0 && (bt578.2.2.1 == 0 && (bt578.2.2.2 == 1)))) = true then (some (2, 0)) else (if t576 = 1 then (grids_Order.j0 k t576 z577 (z577 == (-1))) else (grids_Order.j0 k t576 z577 false))))))) else (some (0, 2)))
theorem grids_Order.mono_l : ∀ k, (∀ y0 y1 y2, LeO (grids_Order.j0 k y0 y1 y2) (grids_Order.j0 (k + 1) y0 y1 y2)) ∧ (∀ y0 y1 y2, LeO (grids_Order.j1 k y0 y1 y2) (grids_Order.j1 (k + 1) y0 y1 y2))
  | 0 => ⟨fun _ _ _ r h => by simp [grids_Order.j0] at h, fun _ _ _ r h => by simp [grids_Order.j1] at h⟩
  | k + 1 => by
    obtain ⟨ih0, ih1⟩ := grids_Order.mono_l k
    refine ⟨?_, ?_⟩
    · intro y0 y1 y2
      unfold grids_Order.j0
      repeat' first
      | (with_reducible exact ih0 _ _ _)
      | (with_reducible exact ih1 _ _ _)
      | (with_reducible exact LeO.refl _)
      | (with_reducible exact LeO.none _)
      | (with_reducible refine LeO.ite ?_ ?_)
      | (with_reducible refine LeO.bind ?_ (fun _ => ?_))
      | exact ih0 _ _ _
      | exact ih1 _ _ _
      | exact LeO.none _
      | refine LeO.ite ?_ ?_
      | refine LeO.bind ?_ (fun _ => ?_)
    · intro y0 y1 y2
      unfold grids_Order.j1
      repeat' first
      | (with_reducible exact ih0 _ _ _)
      | (with_reducible exact ih1 _ _ _)
      | (with_reducible exact LeO.refl _)
      | (with_reducible exact LeO.none _)
      | (with_reducible refine LeO.ite ?_ ?_)
      | (with_reducible refine LeO.bind ?_ (fun _ => ?_))
      | exact ih0 _ _ _
      | exact ih1 _ _ _
      | exact LeO.none _
      | refine LeO.ite ?_ ?_
      | refine LeO.bind ?_ (fun _ => ?_)
theorem grids_Order.mono : ∀ a0 a1 a2 a3 k, LeO (grids_Order.f k a0 a1 a2 a3) (grids_Order.f (k + 1) a0 a1 a2 a3) := by
  intro a0 a1 a2 a3 k
  obtain ⟨ih0, ih1⟩ := grids_Order.mono_l k
  unfold grids_Order.f
  repeat' first
      | (with_reducible exact ih0 _ _ _)
      | (with_reducible exact ih1 _ _ _)
      | (with_reducible exact LeO.refl _)
      | (with_reducible exact LeO.none _)
      | (with_reducible refine LeO.ite ?_ ?_)
      | (with_reducible refine LeO.bind ?_ (fun _ => ?_))
      | exact ih0 _ _ _
      | exact ih1 _ _ _
      | exact LeO.none _
      | refine LeO.ite ?_ ?_
      | refine LeO.bind ?_ (fun _ => ?_)
def grids_Order.T4 : Bool × List (List Nat × List Nat) := (true, [([], []), ([0], [0]), ([], []), ([2], [2]), ([], []), ([4], [4]), ([3, 5], [3, 5]), ([1, 1, 0, 1], [1]), ([6, 7, 0, 1, 2, 3, 4, 5, 6, 7], [6])])
def grids_Order.B4 : List Nat := [0, 1, 0, 4, 0, 16, 60, 3, 255]
theorem grids_Order.tab4 : rtab .any (opsOf Try.f33 4) = grids_Order.T4 := by kernel_rfl
theorem grids_Order.bits4 : waitsOk grids_Order.T4.2 grids_Order.B4 = true := by kernel_rfl
set_option maxHeartbeats 8000000 in
set_option maxRecDepth 100000 in
theorem grids_Order.calls (k : Nat) (a0_0 : Int) (a0_1 : Int) (a0_2 : Int) (a0_3 : Int) (r1 : Int) (r2 : Int) (w : World) (h : grids_Order.f k a0_0 a0_1 a0_2 a0_3 = some (r1, r2)) :
    Calls Try.prog 33 #[.agg #[.int .i64 a0_0, .int .i64 a0_1, .int .i64 a0_2, .int .i64 a0_3]] w fun e w' => e = .returned (.tuple #[.int .i64 r1, .int .i64 r2]) ∧ Below w.heap.size w w' := by
  have hu25 := Try.underlying25
  have HB := Aside0.mk (Below.refl w.heap.size w)
  have H : ((grids_matrix.f a0_0 a0_1 a0_2 a0_3).bind fun t574 => (if t574 = true then ((grids_det.f a0_0 a0_1 a0_2 a0_3).bind fun t576 => ((some (wrap64 (a0_0 + a0_3))).bind fun z577 => (if (a0_0 == 1 && (a0_1 == 0 && (a0_2 == 0 && (a0_3 == 1)))) = true then (some (1, 0)) else ((grids_times.f a0_0 a0_1 a0_2 a0_3 a0_0 a0_1 a0_2 a0_3).bind fun bt578 => (if (bt578.1 == 1 && (bt578.2.1 == 0 && (bt578.2.2.1 == 0 && (bt578.2.2.2 == 1)))) = true then (some (2, 0)) else (if t576 = 1 then (grids_Order.j0 k t576 z577 (z577 == (-1))) else (grids_Order.j0 k t576 z577 false))))))) else (some (0, 2)))) = some (r1, r2) := h
  clear h
  obtain ⟨t574, A2, H⟩ := ob H
  by_cases c3 : t574 = true
  · subst c3
    have H1 : ((grids_det.f a0_0 a0_1 a0_2 a0_3).bind fun t576 => ((some (wrap64 (a0_0 + a0_3))).bind fun z577 => (if (a0_0 == 1 && (a0_1 == 0 && (a0_2 == 0 && (a0_3 == 1)))) = true then (some (1, 0)) else ((grids_times.f a0_0 a0_1 a0_2 a0_3 a0_0 a0_1 a0_2 a0_3).bind fun bt578 => (if (bt578.1 == 1 && (bt578.2.1 == 0 && (bt578.2.2.1 == 0 && (bt578.2.2.2 == 1)))) = true then (some (2, 0)) else (if t576 = 1 then (grids_Order.j0 k t576 z577 (z577 == (-1))) else (grids_Order.j0 k t576 z577 false))))))) = some (r1, r2) := by rw [if_pos rfl] at H; exact H
    clear H
    have H := H1
    clear H1
    obtain ⟨t576, A4, H⟩ := ob H
    obtain ⟨z577, E50, H⟩ := oc H
    have E5w : (IntKind.i64.wrap (a0_0 + a0_3)) = z577 := (i64_w _).trans E50
    by_cases c6 : (a0_0 == 1 && (a0_1 == 0 && (a0_2 == 0 && (a0_3 == 1)))) = true
    · rw [if_pos c6] at H
      have c6b0 : (a0_0 == 1 && (a0_1 == 0 && (a0_2 == 0 && (a0_3 == 1)))) = true := c6
      (try (have c6b1 : decide (a0_0 = 1 && (a0_1 == 0 && (a0_2 == 0 && (a0_3 == 1)))) = true := by simpa using c6))
      (try (have c6b2 : (a0_0 == 1 && (a0_1 == 0 && (a0_2 == 0 && (a0_3 == 1)))) = true := by simpa using c6))
      clear c6
      simp only [Option.some.injEq, Prod.mk.injEq] at H
      obtain ⟨rfl, rfl⟩ := H
      go_enter Try.func33, Try.ntmps33
      try go_wp2_with (first | ((with_reducible refine gate_dst (N := 1) rfl ?_); refine bx 1 #[.int .i64 a0_0, .int .i64 a0_1, .int .i64 a0_2, .int .i64 a0_3] 25 fun gb573 hg w7 BK573 hb => ?_; have GW573 := gw hg HB; have GE573 := gw hg HB; replace HB := bst HB hb; clear hb hg; have ⟨hcz8_0, hcz8_1, hcz8_2, hcz8_3, hfz8_0, hfz8_1, hfz8_2, hfz8_3⟩ := cf4 BK573) | ((with_reducible refine gate_callee (f := 59) rfl ?_); refine gl 8 Try.func59 (grids_matrix.calls a0_0 a0_1 a0_2 a0_3 true _ A2.out) ?_; rintro e w9 ⟨rfl, hb⟩; refine ⟨_, rfl, ?_⟩; replace BK573 := bb BK573 hb; replace HB := bst HB hb; clear hb) | ((with_reducible refine gate_dst (N := 4) rfl ?_); refine bx 4 #[.int .i64 0, .int .i64 0, .int .i64 0, .int .i64 0] 25 fun gb575 hg w10 BK575 hb => ?_; have GW575 := gw hg HB; have GE575 := gw hg HB; have NB573_575 := nlt hg BK573; have NB575_573 := ngt hg BK573; replace BK573 := bb BK573 hb; replace HB := bst HB hb; clear hb hg; have hnb11 := NB575_573.out; have hnc11 := NB573_575.out; have ⟨hcz12_0, hcz12_1, hcz12_2, hcz12_3, hfz12_0, hfz12_1, hfz12_2, hfz12_3⟩ := cf4 BK575) | ((with_reducible refine gate_store (t := 25) (p := 4) rfl ?_); refine sx 25 4 (((((w10.setCell ⟨gb575, 0, none⟩ (.int .i64 1)).setCell ⟨gb575, 1, none⟩ (.int .i64 0)).setCell ⟨gb575, 2, none⟩ (.int .i64 0)).setCell ⟨gb575, 3, none⟩ (.int .i64 1))) fun w13 hw => ?_; replace BK573 := fw hw BK573; replace BK575 := pw4 hw BK575; replace HB := bw hw HB; clear hw))
      replace BK573 := bd BK573
      replace BK575 := bd BK575
      replace HB := bdn HB
      refine start_ (n := 9) (S := fun w' => w'.cell? ⟨gb573, 0, none⟩ = some (.int .i64 a0_0) ∧ w'.cell? ⟨gb573, 1, none⟩ = some (.int .i64 a0_1) ∧ w'.cell? ⟨gb573, 2, none⟩ = some (.int .i64 a0_2) ∧ w'.cell? ⟨gb573, 3, none⟩ = some (.int .i64 a0_3)) (ds := []) #[false, false, false, false, false, false, false, false, false] (by kernel_rfl) rfl rfl ⟨(blk_cell BK573.out 0).trans rfl, (blk_cell BK573.out 1).trans rfl, (blk_cell BK573.out 2).trans rfl, (blk_cell BK573.out 3).trans rfl⟩ (fun hHeld => ?_); refine with_tabW grids_Order.tab4 grids_Order.bits4 (fun HT_ HW_ => ?_)
      generalize w13.drew = w14 at BK573 BK575 HB hHeld ⊢
      refine pz 2 13 HT_ ?_
      refine pz 4 15 HT_ ?_
      refine tz 0 11 HT_ HW_ hHeld ?_
      refine tz 3 14 HT_ HW_ hHeld ?_
      refine tz 5 16 HT_ HW_ hHeld ?_
      refine pz 6 17 HT_ ?_
      refine one_ (i := 1) (N := some 12) #[true, true, true, true, true, true, true, false, false] rfl rfl (one_of HT_.out (by kernel_rfl)) (by decide) (fun K hK => ?_)
      refine gs _ Try.func68 (grids_det.calls a0_0 a0_1 a0_2 a0_3 t576 _ A4.out) ?_
      rintro e w15 ⟨rfl, hb⟩
      refine ⟨_, rfl, ?_⟩
      replace BK573 := bb BK573 hb
      replace BK575 := bb BK575 hb
      replace HB := bst HB hb
      (try clear hb)
      (try clear hb2)
      (try clear hk)
      (try clear hi)
      refine hK.out _ _ ⟨(blk_cell BK573.out 0).trans rfl, (blk_cell BK573.out 1).trans rfl, (blk_cell BK573.out 2).trans rfl, (blk_cell BK573.out 3).trans rfl⟩ (fun hHeld => ?_)
      clear hK K
      refine norm_ (a' := ?_) ?_ ?_
      rotate_left
      · show Act.put _ (some 12) _ = _
        simp only [Act.put, List.setIfInBounds_toArray, List.set_cons_zero, List.set_cons_succ, i64_w, i32_w]
        rfl
      refine pz 7 5 HT_ ?_
      refine pz 8 6 HT_ ?_
      refine done_ (done_of HT_.out (by kernel_rfl)) ?_
      have ⟨hcz16_0, hcz16_1, hcz16_2, hcz16_3, hfz16_0, hfz16_1, hfz16_2, hfz16_3⟩ := cf4 BK573
      have ⟨hcz17_0, hcz17_1, hcz17_2, hcz17_3, hfz17_0, hfz17_1, hfz17_2, hfz17_3⟩ := cf4 BK575
      try go_wp2
      go_ret2
      exact rt HB
    · rw [if_neg c6] at H
      have c6b0 : (a0_0 == 1 && (a0_1 == 0 && (a0_2 == 0 && (a0_3 == 1)))) = false := by simpa using c6
      (try (have c6b1 : decide (a0_0 = 1 && (a0_1 == 0 && (a0_2 == 0 && (a0_3 == 1)))) = false := by simpa using c6))
      (try (have c6b2 : (a0_0 == 1 && (a0_1 == 0 && (a0_2 == 0 && (a0_3 == 1)))) = false := by simpa using c6))
      (try (have c6b3 : ¬ (a0_0 = 1 && (a0_1 == 0 && (a0_2 == 0 && (a0_3 == 1)))) := by simpa using c6))
      clear c6
      obtain ⟨⟨t578, t579, t580, t581⟩, A18, H⟩ := ob H
      by_cases c19 : (t578 == 1 && (t579 == 0 && (t580 == 0 && (t581 == 1)))) = true
      · rw [if_pos c19] at H
        have c19b0 : (t578 == 1 && (t579 == 0 && (t580 == 0 && (t581 == 1)))) = true := c19
        (try (have c19b1 : decide (t578 = 1 && (t579 == 0 && (t580 == 0 && (t581 == 1)))) = true := by simpa using c19))
        (try (have c19b2 : (t578 == 1 && (t579 == 0 && (t580 == 0 && (t581 == 1)))) = true := by simpa using c19))
        clear c19
        simp only [Option.some.injEq, Prod.mk.injEq] at H
        obtain ⟨rfl, rfl⟩ := H
        go_enter Try.func33, Try.ntmps33
        try go_wp2_with (first | ((with_reducible refine gate_dst (N := 1) rfl ?_); refine bx 1 #[.int .i64 a0_0, .int .i64 a0_1, .int .i64 a0_2, .int .i64 a0_3] 25 fun gb573 hg w20 BK573 hb => ?_; have GW573 := gw hg HB; have GE573 := gw hg HB; replace HB := bst HB hb; clear hb hg; have ⟨hcz21_0, hcz21_1, hcz21_2, hcz21_3, hfz21_0, hfz21_1, hfz21_2, hfz21_3⟩ := cf4 BK573) | ((with_reducible refine gate_callee (f := 59) rfl ?_); refine gl 8 Try.func59 (grids_matrix.calls a0_0 a0_1 a0_2 a0_3 true _ A2.out) ?_; rintro e w22 ⟨rfl, hb⟩; refine ⟨_, rfl, ?_⟩; replace BK573 := bb BK573 hb; replace HB := bst HB hb; clear hb) | ((with_reducible refine gate_dst (N := 4) rfl ?_); refine bx 4 #[.int .i64 0, .int .i64 0, .int .i64 0, .int .i64 0] 25 fun gb575 hg w23 BK575 hb => ?_; have GW575 := gw hg HB; have GE575 := gw hg HB; have NB573_575 := nlt hg BK573; have NB575_573 := ngt hg BK573; replace BK573 := bb BK573 hb; replace HB := bst HB hb; clear hb hg; have hnb24 := NB575_573.out; have hnc24 := NB573_575.out; have ⟨hcz25_0, hcz25_1, hcz25_2, hcz25_3, hfz25_0, hfz25_1, hfz25_2, hfz25_3⟩ := cf4 BK575) | ((with_reducible refine gate_store (t := 25) (p := 4) rfl ?_); refine sx 25 4 (((((w23.setCell ⟨gb575, 0, none⟩ (.int .i64 1)).setCell ⟨gb575, 1, none⟩ (.int .i64 0)).setCell ⟨gb575, 2, none⟩ (.int .i64 0)).setCell ⟨gb575, 3, none⟩ (.int .i64 1))) fun w26 hw => ?_; replace BK573 := fw hw BK573; replace BK575 := pw4 hw BK575; replace HB := bw hw HB; clear hw))
        replace BK573 := bd BK573
        replace BK575 := bd BK575
        replace HB := bdn HB
        refine start_ (n := 9) (S := fun w' => w'.cell? ⟨gb573, 0, none⟩ = some (.int .i64 a0_0) ∧ w'.cell? ⟨gb573, 1, none⟩ = some (.int .i64 a0_1) ∧ w'.cell? ⟨gb573, 2, none⟩ = some (.int .i64 a0_2) ∧ w'.cell? ⟨gb573, 3, none⟩ = some (.int .i64 a0_3)) (ds := []) #[false, false, false, false, false, false, false, false, false] (by kernel_rfl) rfl rfl ⟨(blk_cell BK573.out 0).trans rfl, (blk_cell BK573.out 1).trans rfl, (blk_cell BK573.out 2).trans rfl, (blk_cell BK573.out 3).trans rfl⟩ (fun hHeld => ?_); refine with_tabW grids_Order.tab4 grids_Order.bits4 (fun HT_ HW_ => ?_)
        generalize w26.drew = w27 at BK573 BK575 HB hHeld ⊢
        refine pz 2 13 HT_ ?_
        refine pz 4 15 HT_ ?_
        refine tz 0 11 HT_ HW_ hHeld ?_
        refine tz 3 14 HT_ HW_ hHeld ?_
        refine tz 5 16 HT_ HW_ hHeld ?_
        refine pz 6 17 HT_ ?_
        refine one_ (i := 1) (N := some 12) #[true, true, true, true, true, true, true, false, false] rfl rfl (one_of HT_.out (by kernel_rfl)) (by decide) (fun K hK => ?_)
        refine gs _ Try.func68 (grids_det.calls a0_0 a0_1 a0_2 a0_3 t576 _ A4.out) ?_
        rintro e w28 ⟨rfl, hb⟩
        refine ⟨_, rfl, ?_⟩
        replace BK573 := bb BK573 hb
        replace BK575 := bb BK575 hb
        replace HB := bst HB hb
        (try clear hb)
        (try clear hb2)
        (try clear hk)
        (try clear hi)
        refine hK.out _ _ ⟨(blk_cell BK573.out 0).trans rfl, (blk_cell BK573.out 1).trans rfl, (blk_cell BK573.out 2).trans rfl, (blk_cell BK573.out 3).trans rfl⟩ (fun hHeld => ?_)
        clear hK K
        refine norm_ (a' := ?_) ?_ ?_
        rotate_left
        · show Act.put _ (some 12) _ = _
          simp only [Act.put, List.setIfInBounds_toArray, List.set_cons_zero, List.set_cons_succ, i64_w, i32_w]
          rfl
        refine pz 7 5 HT_ ?_
        refine pz 8 6 HT_ ?_
        refine done_ (done_of HT_.out (by kernel_rfl)) ?_
        have ⟨hcz29_0, hcz29_1, hcz29_2, hcz29_3, hfz29_0, hfz29_1, hfz29_2, hfz29_3⟩ := cf4 BK573
        have ⟨hcz30_0, hcz30_1, hcz30_2, hcz30_3, hfz30_0, hfz30_1, hfz30_2, hfz30_3⟩ := cf4 BK575
        try go_wp2
        replace BK573 := bd BK573
        replace BK575 := bd BK575
        replace HB := bdn HB
        refine start_ (n := 6) (S := fun w' => w'.cell? ⟨gb573, 0, none⟩ = some (.int .i64 a0_0) ∧ w'.cell? ⟨gb573, 1, none⟩ = some (.int .i64 a0_1) ∧ w'.cell? ⟨gb573, 2, none⟩ = some (.int .i64 a0_2) ∧ w'.cell? ⟨gb573, 3, none⟩ = some (.int .i64 a0_3) ∧ w'.cell? ⟨gb575, 0, none⟩ = some (.int .i64 1) ∧ w'.cell? ⟨gb575, 1, none⟩ = some (.int .i64 0) ∧ w'.cell? ⟨gb575, 2, none⟩ = some (.int .i64 0) ∧ w'.cell? ⟨gb575, 3, none⟩ = some (.int .i64 1)) (ds := []) #[false, false, false, false, false, false] (by kernel_rfl) rfl rfl ⟨(blk_cell BK573.out 0).trans rfl, (blk_cell BK573.out 1).trans rfl, (blk_cell BK573.out 2).trans rfl, (blk_cell BK573.out 3).trans rfl, (blk_cell BK575.out 0).trans rfl, (blk_cell BK575.out 1).trans rfl, (blk_cell BK575.out 2).trans rfl, (blk_cell BK575.out 3).trans rfl⟩ (fun hHeld => ?_)
        generalize w28.drew = w31 at BK573 BK575 HB hHeld ⊢
        refine take_ (i := 0) (N := some 23) (v := ?_) (a' := ?_) #[true, false, false, false, false, false] rfl rfl (by kernel_rfl) (fun _ _ _ h => h) (Or.inl ⟨by rfl, ?_⟩) hHeld ?_ ?_
        rotate_left
        · rintro w' ⟨s0, s1, s2, s3, s4, s5, s6, s7⟩
          go_simp
          with_reducible rfl
        rotate_left
        · simp only [Act.put, List.setIfInBounds_toArray, List.set_cons_zero, List.set_cons_succ, i64_w, i32_w]
          rfl
        refine take_ (i := 1) (N := some 24) (v := ?_) (a' := ?_) #[true, true, false, false, false, false] rfl rfl (by kernel_rfl) (fun _ _ _ h => h) (Or.inl ⟨by rfl, ?_⟩) hHeld ?_ ?_
        rotate_left
        · rintro w' ⟨s0, s1, s2, s3, s4, s5, s6, s7⟩
          go_simp
          with_reducible rfl
        rotate_left
        · simp only [Act.put, List.setIfInBounds_toArray, List.set_cons_zero, List.set_cons_succ, i64_w, i32_w]
          rfl
        refine take_ (i := 3) (N := some 26) (v := ?_) (a' := ?_) #[true, true, false, true, false, false] rfl rfl (by kernel_rfl) (fun _ _ _ h => h) (Or.inl ⟨by rfl, ?_⟩) hHeld ?_ ?_
        rotate_left
        · rintro w' ⟨s0, s1, s2, s3, s4, s5, s6, s7⟩
          go_simp
          with_reducible rfl
        rotate_left
        · simp only [Act.put, List.setIfInBounds_toArray, List.set_cons_zero, List.set_cons_succ, i64_w, i32_w]
          rfl
        refine one_ (i := 2) (N := some 25) #[true, true, true, true, false, false] rfl rfl (by kernel_rfl) (by decide) (fun K hK => ?_)
        refine gs _ Try.func40 (grids_times.calls a0_0 a0_1 a0_2 a0_3 a0_0 a0_1 a0_2 a0_3 t578 t579 t580 t581 _ A18.out) ?_
        rintro e w32 ⟨rfl, hb⟩
        refine ⟨_, rfl, ?_⟩
        replace BK573 := bb BK573 hb
        replace BK575 := bb BK575 hb
        replace HB := bst HB hb
        (try clear hb)
        (try clear hb2)
        (try clear hk)
        (try clear hi)
        refine hK.out _ _ ⟨(blk_cell BK573.out 0).trans rfl, (blk_cell BK573.out 1).trans rfl, (blk_cell BK573.out 2).trans rfl, (blk_cell BK573.out 3).trans rfl, (blk_cell BK575.out 0).trans rfl, (blk_cell BK575.out 1).trans rfl, (blk_cell BK575.out 2).trans rfl, (blk_cell BK575.out 3).trans rfl⟩ (fun hHeld => ?_)
        clear hK K
        refine norm_ (a' := ?_) ?_ ?_
        rotate_left
        · show Act.put _ (some 25) _ = _
          simp only [Act.put, List.setIfInBounds_toArray, List.set_cons_zero, List.set_cons_succ, i64_w, i32_w]
          rfl
        refine pure_ (i := 4) (N := some 27) (v := ?_) (a' := ?_) #[true, true, true, true, true, false] rfl rfl (by kernel_rfl) (fun _ _ _ h => h) (Or.inl ⟨by rfl, ?_⟩) ?_ ?_
        rotate_left
        · intro w'
          go_simp
          with_reducible rfl
        rotate_left
        · simp only [Act.put, List.setIfInBounds_toArray, List.set_cons_zero, List.set_cons_succ, i64_w, i32_w]
          rfl
        refine pure_ (i := 5) (N := some 22) (v := ?_) (a' := ?_) #[true, true, true, true, true, true] rfl rfl (by kernel_rfl) (fun _ _ _ h => h) (Or.inl ⟨by rfl, ?_⟩) ?_ ?_
        rotate_left
        · intro w'
          go_simp
          with_reducible rfl
        rotate_left
        · simp only [Act.put, List.setIfInBounds_toArray, List.set_cons_zero, List.set_cons_succ, i64_w, i32_w]
          rfl
        refine done_ (by kernel_rfl) ?_
        try go_wp2
        go_ret2
        exact rt HB
      · rw [if_neg c19] at H
        have c19b0 : (t578 == 1 && (t579 == 0 && (t580 == 0 && (t581 == 1)))) = false := by simpa using c19
        (try (have c19b1 : decide (t578 = 1 && (t579 == 0 && (t580 == 0 && (t581 == 1)))) = false := by simpa using c19))
        (try (have c19b2 : (t578 == 1 && (t579 == 0 && (t580 == 0 && (t581 == 1)))) = false := by simpa using c19))
        (try (have c19b3 : ¬ (t578 = 1 && (t579 == 0 && (t580 == 0 && (t581 == 1)))) := by simpa using c19))
        clear c19
        have HC33 := Aside0.mk H
        clear H
        go_enter Try.func33, Try.ntmps33
        try go_wp2_with (first | ((with_reducible refine gate_dst (N := 1) rfl ?_); refine bx 1 #[.int .i64 a0_0, .int .i64 a0_1, .int .i64 a0_2, .int .i64 a0_3] 25 fun gb573 hg w34 BK573 hb => ?_; have GW573 := gw hg HB; have GE573 := gw hg HB; replace HB := bst HB hb; clear hb hg; have ⟨hcz35_0, hcz35_1, hcz35_2, hcz35_3, hfz35_0, hfz35_1, hfz35_2, hfz35_3⟩ := cf4 BK573) | ((with_reducible refine gate_callee (f := 59) rfl ?_); refine gl 8 Try.func59 (grids_matrix.calls a0_0 a0_1 a0_2 a0_3 true _ A2.out) ?_; rintro e w36 ⟨rfl, hb⟩; refine ⟨_, rfl, ?_⟩; replace BK573 := bb BK573 hb; replace HB := bst HB hb; clear hb) | ((with_reducible refine gate_dst (N := 4) rfl ?_); refine bx 4 #[.int .i64 0, .int .i64 0, .int .i64 0, .int .i64 0] 25 fun gb575 hg w37 BK575 hb => ?_; have GW575 := gw hg HB; have GE575 := gw hg HB; have NB573_575 := nlt hg BK573; have NB575_573 := ngt hg BK573; replace BK573 := bb BK573 hb; replace HB := bst HB hb; clear hb hg; have hnb38 := NB575_573.out; have hnc38 := NB573_575.out; have ⟨hcz39_0, hcz39_1, hcz39_2, hcz39_3, hfz39_0, hfz39_1, hfz39_2, hfz39_3⟩ := cf4 BK575) | ((with_reducible refine gate_store (t := 25) (p := 4) rfl ?_); refine sx 25 4 (((((w37.setCell ⟨gb575, 0, none⟩ (.int .i64 1)).setCell ⟨gb575, 1, none⟩ (.int .i64 0)).setCell ⟨gb575, 2, none⟩ (.int .i64 0)).setCell ⟨gb575, 3, none⟩ (.int .i64 1))) fun w40 hw => ?_; replace BK573 := fw hw BK573; replace BK575 := pw4 hw BK575; replace HB := bw hw HB; clear hw))
        replace BK573 := bd BK573
        replace BK575 := bd BK575
        replace HB := bdn HB
        refine start_ (n := 9) (S := fun w' => w'.cell? ⟨gb573, 0, none⟩ = some (.int .i64 a0_0) ∧ w'.cell? ⟨gb573, 1, none⟩ = some (.int .i64 a0_1) ∧ w'.cell? ⟨gb573, 2, none⟩ = some (.int .i64 a0_2) ∧ w'.cell? ⟨gb573, 3, none⟩ = some (.int .i64 a0_3)) (ds := []) #[false, false, false, false, false, false, false, false, false] (by kernel_rfl) rfl rfl ⟨(blk_cell BK573.out 0).trans rfl, (blk_cell BK573.out 1).trans rfl, (blk_cell BK573.out 2).trans rfl, (blk_cell BK573.out 3).trans rfl⟩ (fun hHeld => ?_); refine with_tabW grids_Order.tab4 grids_Order.bits4 (fun HT_ HW_ => ?_)
        generalize w40.drew = w41 at BK573 BK575 HB hHeld ⊢
        refine pz 2 13 HT_ ?_
        refine pz 4 15 HT_ ?_
        refine tz 0 11 HT_ HW_ hHeld ?_
        refine tz 3 14 HT_ HW_ hHeld ?_
        refine tz 5 16 HT_ HW_ hHeld ?_
        refine pz 6 17 HT_ ?_
        refine one_ (i := 1) (N := some 12) #[true, true, true, true, true, true, true, false, false] rfl rfl (one_of HT_.out (by kernel_rfl)) (by decide) (fun K hK => ?_)
        refine gs _ Try.func68 (grids_det.calls a0_0 a0_1 a0_2 a0_3 t576 _ A4.out) ?_
        rintro e w42 ⟨rfl, hb⟩
        refine ⟨_, rfl, ?_⟩
        replace BK573 := bb BK573 hb
        replace BK575 := bb BK575 hb
        replace HB := bst HB hb
        (try clear hb)
        (try clear hb2)
        (try clear hk)
        (try clear hi)
        refine hK.out _ _ ⟨(blk_cell BK573.out 0).trans rfl, (blk_cell BK573.out 1).trans rfl, (blk_cell BK573.out 2).trans rfl, (blk_cell BK573.out 3).trans rfl⟩ (fun hHeld => ?_)
        clear hK K
        refine norm_ (a' := ?_) ?_ ?_
        rotate_left
        · show Act.put _ (some 12) _ = _
          simp only [Act.put, List.setIfInBounds_toArray, List.set_cons_zero, List.set_cons_succ, i64_w, i32_w]
          rfl
        refine pz 7 5 HT_ ?_
        refine pz 8 6 HT_ ?_
        refine done_ (done_of HT_.out (by kernel_rfl)) ?_
        have ⟨hcz43_0, hcz43_1, hcz43_2, hcz43_3, hfz43_0, hfz43_1, hfz43_2, hfz43_3⟩ := cf4 BK573
        have ⟨hcz44_0, hcz44_1, hcz44_2, hcz44_3, hfz44_0, hfz44_1, hfz44_2, hfz44_3⟩ := cf4 BK575
        try go_wp2
        replace BK573 := bd BK573
        replace BK575 := bd BK575
        replace HB := bdn HB
        refine start_ (n := 6) (S := fun w' => w'.cell? ⟨gb573, 0, none⟩ = some (.int .i64 a0_0) ∧ w'.cell? ⟨gb573, 1, none⟩ = some (.int .i64 a0_1) ∧ w'.cell? ⟨gb573, 2, none⟩ = some (.int .i64 a0_2) ∧ w'.cell? ⟨gb573, 3, none⟩ = some (.int .i64 a0_3) ∧ w'.cell? ⟨gb575, 0, none⟩ = some (.int .i64 1) ∧ w'.cell? ⟨gb575, 1, none⟩ = some (.int .i64 0) ∧ w'.cell? ⟨gb575, 2, none⟩ = some (.int .i64 0) ∧ w'.cell? ⟨gb575, 3, none⟩ = some (.int .i64 1)) (ds := []) #[false, false, false, false, false, false] (by kernel_rfl) rfl rfl ⟨(blk_cell BK573.out 0).trans rfl, (blk_cell BK573.out 1).trans rfl, (blk_cell BK573.out 2).trans rfl, (blk_cell BK573.out 3).trans rfl, (blk_cell BK575.out 0).trans rfl, (blk_cell BK575.out 1).trans rfl, (blk_cell BK575.out 2).trans rfl, (blk_cell BK575.out 3).trans rfl⟩ (fun hHeld => ?_)
        generalize w42.drew = w45 at BK573 BK575 HB hHeld ⊢
        refine take_ (i := 0) (N := some 23) (v := ?_) (a' := ?_) #[true, false, false, false, false, false] rfl rfl (by kernel_rfl) (fun _ _ _ h => h) (Or.inl ⟨by rfl, ?_⟩) hHeld ?_ ?_
        rotate_left
        · rintro w' ⟨s0, s1, s2, s3, s4, s5, s6, s7⟩
          go_simp
          with_reducible rfl
        rotate_left
        · simp only [Act.put, List.setIfInBounds_toArray, List.set_cons_zero, List.set_cons_succ, i64_w, i32_w]
          rfl
        refine take_ (i := 1) (N := some 24) (v := ?_) (a' := ?_) #[true, true, false, false, false, false] rfl rfl (by kernel_rfl) (fun _ _ _ h => h) (Or.inl ⟨by rfl, ?_⟩) hHeld ?_ ?_
        rotate_left
        · rintro w' ⟨s0, s1, s2, s3, s4, s5, s6, s7⟩
          go_simp
          with_reducible rfl
        rotate_left
        · simp only [Act.put, List.setIfInBounds_toArray, List.set_cons_zero, List.set_cons_succ, i64_w, i32_w]
          rfl
        refine take_ (i := 3) (N := some 26) (v := ?_) (a' := ?_) #[true, true, false, true, false, false] rfl rfl (by kernel_rfl) (fun _ _ _ h => h) (Or.inl ⟨by rfl, ?_⟩) hHeld ?_ ?_
        rotate_left
        · rintro w' ⟨s0, s1, s2, s3, s4, s5, s6, s7⟩
          go_simp
          with_reducible rfl
        rotate_left
        · simp only [Act.put, List.setIfInBounds_toArray, List.set_cons_zero, List.set_cons_succ, i64_w, i32_w]
          rfl
        refine one_ (i := 2) (N := some 25) #[true, true, true, true, false, false] rfl rfl (by kernel_rfl) (by decide) (fun K hK => ?_)
        refine gs _ Try.func40 (grids_times.calls a0_0 a0_1 a0_2 a0_3 a0_0 a0_1 a0_2 a0_3 t578 t579 t580 t581 _ A18.out) ?_
        rintro e w46 ⟨rfl, hb⟩
        refine ⟨_, rfl, ?_⟩
        replace BK573 := bb BK573 hb
        replace BK575 := bb BK575 hb
        replace HB := bst HB hb
        (try clear hb)
        (try clear hb2)
        (try clear hk)
        (try clear hi)
        refine hK.out _ _ ⟨(blk_cell BK573.out 0).trans rfl, (blk_cell BK573.out 1).trans rfl, (blk_cell BK573.out 2).trans rfl, (blk_cell BK573.out 3).trans rfl, (blk_cell BK575.out 0).trans rfl, (blk_cell BK575.out 1).trans rfl, (blk_cell BK575.out 2).trans rfl, (blk_cell BK575.out 3).trans rfl⟩ (fun hHeld => ?_)
        clear hK K
        refine norm_ (a' := ?_) ?_ ?_
        rotate_left
        · show Act.put _ (some 25) _ = _
          simp only [Act.put, List.setIfInBounds_toArray, List.set_cons_zero, List.set_cons_succ, i64_w, i32_w]
          rfl
        refine pure_ (i := 4) (N := some 27) (v := ?_) (a' := ?_) #[true, true, true, true, true, false] rfl rfl (by kernel_rfl) (fun _ _ _ h => h) (Or.inl ⟨by rfl, ?_⟩) ?_ ?_
        rotate_left
        · intro w'
          go_simp
          with_reducible rfl
        rotate_left
        · simp only [Act.put, List.setIfInBounds_toArray, List.set_cons_zero, List.set_cons_succ, i64_w, i32_w]
          rfl
        refine pure_ (i := 5) (N := some 22) (v := ?_) (a' := ?_) #[true, true, true, true, true, true] rfl rfl (by kernel_rfl) (fun _ _ _ h => h) (Or.inl ⟨by rfl, ?_⟩) ?_ ?_
        rotate_left
        · intro w'
          go_simp
          with_reducible rfl
        rotate_left
        · simp only [Act.put, List.setIfInBounds_toArray, List.set_cons_zero, List.set_cons_succ, i64_w, i32_w]
          rfl
        refine done_ (by kernel_rfl) ?_
        go_upto_region 9 with (fail)
        go_cut [28] (fun v28 wc => ∃ (kq : Nat) (x28_32 : Bool), v28 = .bool x28_32 ∧ Aside0 (grids_Order.j0 kq t576 z577 x28_32 = some (r1, r2)) ∧ Aside0 (kq ≤ k) ∧ Aside0 (wc.heap[gb573]? = some (.cells #[.int .i64 a0_0, .int .i64 a0_1, .int .i64 a0_2, .int .i64 a0_3] 25 (0, 0))) ∧ Aside0 (wc.heap[gb575]? = some (.cells #[.int .i64 1, .int .i64 0, .int .i64 0, .int .i64 1] 25 (0, 0))) ∧ Aside0 (Below w.heap.size w wc))
        case first =>
          have H := HC33.out
          clear HC33
          by_cases c47 : t576 = 1
          · rw [if_pos c47] at H
            have c47b0 : (t576 == 1) = true := beq_iff_eq.mpr c47
            have c47b1 : (t576 != 1) = false := bne_eq_false_iff_eq.mpr c47
            clear c47
            (first | rw [c47b0] | (simp only [i64_w, i32_w]; rw [c47b0]) | skip)
            have H' := Aside0.mk H
            clear H
            go_wp2
            go_meet
            case rel => exact ⟨_, ((z577 == (-1))), (by first | rfl | (simp; done) | (simp [*]; done)), H', ⟨by first | omega | exact Nat.le_refl _⟩, ⟨pk BK573⟩, ⟨pk BK575⟩, ⟨bnow HB⟩⟩
          · rw [if_neg c47] at H
            have c47b0 : (t576 == 1) = false := beq_eq_false_iff_ne.mpr c47
            have c47b1 : (t576 != 1) = true := bne_iff_ne.mpr c47
            (first | rw [c47b0] | (simp only [i64_w, i32_w]; rw [c47b0]) | skip)
            have H' := Aside0.mk H
            clear H
            go_wp2
            go_meet
            case rel => exact ⟨_, (false), (by first | rfl | (simp; done) | (simp [*]; done)), H', ⟨by first | omega | exact Nat.le_refl _⟩, ⟨pk BK573⟩, ⟨pk BK575⟩, ⟨bnow HB⟩⟩
        case rest =>
          clear HC33
          try clear c1; try clear c2; try clear p2; try clear c3; try clear c4; try clear c5; try clear c6; try clear c6b0; try clear c6b1; try clear c6b2; try clear p6; try clear c11; try clear c19; try clear c19b0; try clear c19b1; try clear c19b2; try clear c24; try clear c33; try clear c38; try clear c40; try clear c47; try clear c47b0; try clear c47b1; try clear hcz12_0; try clear hcz12_1; try clear hcz12_2; try clear hcz12_3; try clear hcz16_0; try clear hcz16_1; try clear hcz16_2; try clear hcz16_3; try clear hcz17_0; try clear hcz17_1; try clear hcz17_2; try clear hcz17_3; try clear hcz21_0; try clear hcz21_1; try clear hcz21_2; try clear hcz21_3; try clear hcz25_0; try clear hcz25_1; try clear hcz25_2; try clear hcz25_3; try clear hcz29_0; try clear hcz29_1; try clear hcz29_2; try clear hcz29_3; try clear hcz30_0; try clear hcz30_1; try clear hcz30_2; try clear hcz30_3; try clear hcz35_0; try clear hcz35_1; try clear hcz35_2; try clear hcz35_3; try clear hcz39_0; try clear hcz39_1; try clear hcz39_2; try clear hcz39_3; try clear hcz43_0; try clear hcz43_1; try clear hcz43_2; try clear hcz43_3; try clear hcz44_0; try clear hcz44_1; try clear hcz44_2; try clear hcz44_3; try clear hcz8_0; try clear hcz8_1; try clear hcz8_2; try clear hcz8_3; try clear hfz12_0; try clear hfz12_1; try clear hfz12_2; try clear hfz12_3; try clear hfz16_0; try clear hfz16_1; try clear hfz16_2; try clear hfz16_3; try clear hfz17_0; try clear hfz17_1; try clear hfz17_2; try clear hfz17_3; try clear hfz21_0; try clear hfz21_1; try clear hfz21_2; try clear hfz21_3; try clear hfz25_0; try clear hfz25_1; try clear hfz25_2; try clear hfz25_3; try clear hfz29_0; try clear hfz29_1; try clear hfz29_2; try clear hfz29_3; try clear hfz30_0; try clear hfz30_1; try clear hfz30_2; try clear hfz30_3; try clear hfz35_0; try clear hfz35_1; try clear hfz35_2; try clear hfz35_3; try clear hfz39_0; try clear hfz39_1; try clear hfz39_2; try clear hfz39_3; try clear hfz43_0; try clear hfz43_1; try clear hfz43_2; try clear hfz43_3; try clear hfz44_0; try clear hfz44_1; try clear hfz44_2; try clear hfz44_3; try clear hfz8_0; try clear hfz8_1; try clear hfz8_2; try clear hfz8_3
          obtain ⟨kq, x28_32, rfl, HA, HJ32, BK573, BK575, HB⟩ := hcut
          cases kq with
          | zero => exact absurd HA.out (by simp [grids_Order.j0])
          | succ kj32 =>
            have H := HA.out
            clear HA
            simp only [grids_Order.j0] at H
            by_cases c48 : x28_32 = true
            · subst c48
              have H1 : (some (3, 0)) = some (r1, r2) := by rw [if_pos rfl] at H; exact H
              clear H
              have H := H1
              clear H1
              simp only [Option.some.injEq, Prod.mk.injEq] at H
              obtain ⟨rfl, rfl⟩ := H
              go_wp2
              go_ret2
              exact rt HB
            · replace c48 := Bool.eq_false_iff.mpr c48
              subst c48
              have H1 : (if t576 = 1 then (grids_Order.j1 kj32 t576 z577 (z577 == 0)) else (grids_Order.j1 kj32 t576 z577 false)) = some (r1, r2) := by rw [if_neg (show ¬ (false = true) by decide)] at H; exact H
              clear H
              have H := H1
              clear H1
              have HC49 := Aside0.mk H
              clear H
              go_upto_region 11 with (fail)
              go_cut [35] (fun v35 wc => ∃ (kq : Nat) (x35_48 : Bool), v35 = .bool x35_48 ∧ Aside0 (grids_Order.j1 kq t576 z577 x35_48 = some (r1, r2)) ∧ Aside0 (kq ≤ kj32) ∧ Aside0 (wc.heap[gb573]? = some (.cells #[.int .i64 a0_0, .int .i64 a0_1, .int .i64 a0_2, .int .i64 a0_3] 25 (0, 0))) ∧ Aside0 (wc.heap[gb575]? = some (.cells #[.int .i64 1, .int .i64 0, .int .i64 0, .int .i64 1] 25 (0, 0))) ∧ Aside0 (Below w.heap.size w wc))
              case first =>
                have H := HC49.out
                clear HC49
                by_cases c50 : t576 = 1
                · rw [if_pos c50] at H
                  have c50b0 : (t576 == 1) = true := beq_iff_eq.mpr c50
                  have c50b1 : (t576 != 1) = false := bne_eq_false_iff_eq.mpr c50
                  clear c50
                  (first | rw [c50b0] | (simp only [i64_w, i32_w]; rw [c50b0]) | skip)
                  have H' := Aside0.mk H
                  clear H
                  go_wp2
                  go_meet
                  case rel => exact ⟨_, ((z577 == 0)), (by first | rfl | (simp; done) | (simp [*]; done)), H', ⟨by have := HJ32.out; first | omega | exact Nat.le_refl _⟩, ⟨pk BK573⟩, ⟨pk BK575⟩, ⟨bnow HB⟩⟩
                · rw [if_neg c50] at H
                  have c50b0 : (t576 == 1) = false := beq_eq_false_iff_ne.mpr c50
                  have c50b1 : (t576 != 1) = true := bne_iff_ne.mpr c50
                  (first | rw [c50b0] | (simp only [i64_w, i32_w]; rw [c50b0]) | skip)
                  have H' := Aside0.mk H
                  clear H
                  go_wp2
                  go_meet
                  case rel => exact ⟨_, (false), (by first | rfl | (simp; done) | (simp [*]; done)), H', ⟨by have := HJ32.out; first | omega | exact Nat.le_refl _⟩, ⟨pk BK573⟩, ⟨pk BK575⟩, ⟨bnow HB⟩⟩
              case rest =>
                clear HC49
                try clear c1; try clear c2; try clear p2; try clear c3; try clear c4; try clear c5; try clear c6; try clear c6b0; try clear c6b1; try clear c6b2; try clear p6; try clear c11; try clear c19; try clear c19b0; try clear c19b1; try clear c19b2; try clear c24; try clear c33; try clear c38; try clear c40; try clear c47; try clear c47b0; try clear c47b1; try clear c48; try clear c50; try clear c50b0; try clear c50b1; try clear hcz12_0; try clear hcz12_1; try clear hcz12_2; try clear hcz12_3; try clear hcz16_0; try clear hcz16_1; try clear hcz16_2; try clear hcz16_3; try clear hcz17_0; try clear hcz17_1; try clear hcz17_2; try clear hcz17_3; try clear hcz21_0; try clear hcz21_1; try clear hcz21_2; try clear hcz21_3; try clear hcz25_0; try clear hcz25_1; try clear hcz25_2; try clear hcz25_3; try clear hcz29_0; try clear hcz29_1; try clear hcz29_2; try clear hcz29_3; try clear hcz30_0; try clear hcz30_1; try clear hcz30_2; try clear hcz30_3; try clear hcz35_0; try clear hcz35_1; try clear hcz35_2; try clear hcz35_3; try clear hcz39_0; try clear hcz39_1; try clear hcz39_2; try clear hcz39_3; try clear hcz43_0; try clear hcz43_1; try clear hcz43_2; try clear hcz43_3; try clear hcz44_0; try clear hcz44_1; try clear hcz44_2; try clear hcz44_3; try clear hcz8_0; try clear hcz8_1; try clear hcz8_2; try clear hcz8_3; try clear hfz12_0; try clear hfz12_1; try clear hfz12_2; try clear hfz12_3; try clear hfz16_0; try clear hfz16_1; try clear hfz16_2; try clear hfz16_3; try clear hfz17_0; try clear hfz17_1; try clear hfz17_2; try clear hfz17_3; try clear hfz21_0; try clear hfz21_1; try clear hfz21_2; try clear hfz21_3; try clear hfz25_0; try clear hfz25_1; try clear hfz25_2; try clear hfz25_3; try clear hfz29_0; try clear hfz29_1; try clear hfz29_2; try clear hfz29_3; try clear hfz30_0; try clear hfz30_1; try clear hfz30_2; try clear hfz30_3; try clear hfz35_0; try clear hfz35_1; try clear hfz35_2; try clear hfz35_3; try clear hfz39_0; try clear hfz39_1; try clear hfz39_2; try clear hfz39_3; try clear hfz43_0; try clear hfz43_1; try clear hfz43_2; try clear hfz43_3; try clear hfz44_0; try clear hfz44_1; try clear hfz44_2; try clear hfz44_3; try clear hfz8_0; try clear hfz8_1; try clear hfz8_2; try clear hfz8_3; try clear p2; try clear p6
                obtain ⟨kq, x35_48, rfl, HA, HJ48, BK573, BK575, HB⟩ := hcut
                cases kq with
                | zero => exact absurd HA.out (by simp [grids_Order.j1])
                | succ kj48 =>
                  have H := HA.out
                  clear HA
                  simp only [grids_Order.j1] at H
                  by_cases c51 : x35_48 = true
                  · subst c51
                    have H1 : (some (4, 0)) = some (r1, r2) := by rw [if_pos rfl] at H; exact H
                    clear H
                    have H := H1
                    clear H1
                    simp only [Option.some.injEq, Prod.mk.injEq] at H
                    obtain ⟨rfl, rfl⟩ := H
                    go_wp2
                    go_ret2
                    exact rt HB
                  · replace c51 := Bool.eq_false_iff.mpr c51
                    subst c51
                    have H1 : (if t576 = 1 then (if z577 = 1 then (some (6, 0)) else (some (0, 0))) else (some (0, 0))) = some (r1, r2) := by rw [if_neg (show ¬ (false = true) by decide)] at H; exact H
                    clear H
                    have H := H1
                    clear H1
                    by_cases c52 : t576 = 1
                    · rw [if_pos c52] at H
                      have c52b0 : (t576 == 1) = true := beq_iff_eq.mpr c52
                      have c52b1 : (t576 != 1) = false := bne_eq_false_iff_eq.mpr c52
                      clear c52
                      by_cases c53 : z577 = 1
                      · rw [if_pos c53] at H
                        have c53b0 : (z577 == 1) = true := beq_iff_eq.mpr c53
                        have c53b1 : (z577 != 1) = false := bne_eq_false_iff_eq.mpr c53
                        clear c53
                        simp only [Option.some.injEq, Prod.mk.injEq] at H
                        obtain ⟨rfl, rfl⟩ := H
                        go_wp2
                        go_ret2
                        exact rt HB
                      · rw [if_neg c53] at H
                        have c53b0 : (z577 == 1) = false := beq_eq_false_iff_ne.mpr c53
                        have c53b1 : (z577 != 1) = true := bne_iff_ne.mpr c53
                        simp only [Option.some.injEq, Prod.mk.injEq] at H
                        obtain ⟨rfl, rfl⟩ := H
                        go_wp2
                        go_ret2
                        exact rt HB
                    · rw [if_neg c52] at H
                      have c52b0 : (t576 == 1) = false := beq_eq_false_iff_ne.mpr c52
                      have c52b1 : (t576 != 1) = true := bne_iff_ne.mpr c52
                      simp only [Option.some.injEq, Prod.mk.injEq] at H
                      obtain ⟨rfl, rfl⟩ := H
                      go_wp2
                      go_ret2
                      exact rt HB
  · replace c3 := Bool.eq_false_iff.mpr c3
    subst c3
    have H1 : (some (0, 2)) = some (r1, r2) := by rw [if_neg (show ¬ (false = true) by decide)] at H; exact H
    clear H
    have H := H1
    clear H1
    simp only [Option.some.injEq, Prod.mk.injEq] at H
    obtain ⟨rfl, rfl⟩ := H
    go_enter Try.func33, Try.ntmps33
    go_wp2_with (first | ((with_reducible refine gate_dst (N := 1) rfl ?_); refine bx 1 #[.int .i64 a0_0, .int .i64 a0_1, .int .i64 a0_2, .int .i64 a0_3] 25 fun gb573 hg w54 BK573 hb => ?_; have GW573 := gw hg HB; have GE573 := gw hg HB; replace HB := bst HB hb; clear hb hg; have ⟨hcz55_0, hcz55_1, hcz55_2, hcz55_3, hfz55_0, hfz55_1, hfz55_2, hfz55_3⟩ := cf4 BK573) | ((with_reducible refine gate_callee (f := 59) rfl ?_); refine gl 8 Try.func59 (grids_matrix.calls a0_0 a0_1 a0_2 a0_3 false _ A2.out) ?_; rintro e w56 ⟨rfl, hb⟩; refine ⟨_, rfl, ?_⟩; replace BK573 := bb BK573 hb; replace HB := bst HB hb; clear hb))
    go_ret2
    exact rt HB
end
section
attribute [local go_sem high] eqA23 eqA25 eqA37
/-! ### torchonlaw06_awake: function 13 -/
def torchonlaw06_awake.j0 : Nat → Int → Int → Int → List (S25) → Int → Bool → Int → Int → Int → Int → Int → Int → Int → Int → Int → Option (Bool)
  | 0, _, _, _, _, _, _, _, _, _, _, _, _, _, _, _ => none
  | k + 1, x2, x4, x6, x8, x12, x89, x623000, x623001, x638000, x638001, x638002, x639000, x639001, x639002, x639003 => if x89 = true then (none) else (if x2 = 6 then (if x4 = 1 then (if x6 = 1 then (if (x8.length : Int) = 12 then ((torchonlaw06_pt.f 1 5).bind fun bt639 => (if (x623000 == bt639.1 && (x623001 == bt639.2)) = true then (if x12 = 6 then (if (x638000 == 1 && (x638001 == 0 && (x638002 == 1))) = true then ((torchonlaw06_mat.f (-3) (-1) 2 1).bind fun bt641 => (some (x639000 == bt641.1 && (x639001 == bt641.2.1 && (x639002 == bt641.2.2.1 && (x639003 == bt641.2.2.2)))))) else (none)) else (none)) else (none))) else (none)) else (none)) else (none)) else (none))
def torchonlaw06_awake.f (k : Nat)  : Option (Bool) := (torchonlaw06_pt.f 0 0).bind fun bt583 => ((torchonlaw06_pt.f 1 1).bind fun bt585 => ((grids_Square.f k 2 1 2 bt583.1 bt583.2 bt585.1 bt585.2).bind fun bt587 => ((torchonlaw06_pt.f 0 0).bind fun bt589 => ((torchonlaw06_pt.f 1 0).bind fun bt591 => ((torchonlaw06_pt.f 0 1).bind fun bt593 => ((grids_Side.f k bt589.1 bt589.2 bt591.1 bt591.2 bt593.1 bt593.2).bind fun bt595 => ((torchonlaw06_pt.f 0 0).bind fun bt597 => ((torchonlaw06_pt.f 1 0).bind fun bt599 => ((torchonlaw06_pt.f 1 (-1)).bind fun bt601 => ((torchonlaw06_pt.f 0 1).bind fun bt603 => ((grids_Turn.f k bt597.1 bt597.2 bt599.1 bt599.2 bt601.1 bt601.2 bt603.1 bt603.2).bind fun bt605 => ((grids_Group.f k 2 1 2).bind fun bt607 => ((torchonlaw06_mat.f 0 (-1) 1 0).bind fun bt611 => ((torchonlaw06_pt.f 3 4).bind fun bt615 => ((torchonlaw06_pt.f 1 2).bind fun bt617 => ((grids_Apply.f k bt611.1 bt611.2.1 bt611.2.2.1 bt611.2.2.2 bt615.1 bt615.2 bt617.1 bt617.2).bind fun bt619 => ((torchonlaw06_mat.f 1 (-1) 1 0).bind fun bt623 => ((grids_Order.f k bt623.1 bt623.2.1 bt623.2.2.1 bt623.2.2.2).bind fun bt627 => ((grids_Reduce.f k 5 7 10).bind fun bt629 => (if bt587.2 = 0 then (if bt595.2 = 0 then (if bt605.2 = 0 then (if bt607.2 = 0 then (if bt619.2.2 = 0 then (if bt627.2 = 0 then (torchonlaw06_awake.j0 k bt587.1 bt595.1 bt605.1 bt607.1 bt627.1 (bt629.2.2.2.2.2.2.2 != 0) bt619.1 bt619.2.1 bt629.1 bt629.2.1 bt629.2.2.1 bt629.2.2.2.1 bt629.2.2.2.2.1 bt629.2.2.2.2.2.1 bt629.2.2.2.2.2.2.1) else (torchonlaw06_awake.j0 k bt587.1 bt595.1 bt605.1 bt607.1 bt627.1 true bt619.1 bt619.2.1 bt629.1 bt629.2.1 bt629.2.2.1 bt629.2.2.2.1 bt629.2.2.2.2.1 bt629.2.2.2.2.2.1 bt629.2.2.2.2.2.2.1)) else (torchonlaw06_awake.j0 k bt587.1 bt595.1 bt605.1 bt607.1 bt627.1 true bt619.1 bt619.2.1 bt629.1 bt629.2.1 bt629.2.2.1 bt629.2.2.2.1 bt629.2.2.2.2.1 bt629.2.2.2.2.2.1 bt629.2.2.2.2.2.2.1)) else (torchonlaw06_awake.j0 k bt587.1 bt595.1 bt605.1 bt607.1 bt627.1 true bt619.1 bt619.2.1 bt629.1 bt629.2.1 bt629.2.2.1 bt629.2.2.2.1 bt629.2.2.2.2.1 bt629.2.2.2.2.2.1 bt629.2.2.2.2.2.2.1)) else (torchonlaw06_awake.j0 k bt587.1 bt595.1 bt605.1 bt607.1 bt627.1 true bt619.1 bt619.2.1 bt629.1 bt629.2.1 bt629.2.2.1 bt629.2.2.2.1 bt629.2.2.2.2.1 bt629.2.2.2.2.2.1 bt629.2.2.2.2.2.2.1)) else (torchonlaw06_awake.j0 k bt587.1 bt595.1 bt605.1 bt607.1 bt627.1 true bt619.1 bt619.2.1 bt629.1 bt629.2.1 bt629.2.2.1 bt629.2.2.2.1 bt629.2.2.2.2.1 bt629.2.2.2.2.2.1 bt629.2.2.2.2.2.2.1)) else (torchonlaw06_awake.j0 k bt587.1 bt595.1 bt605.1 bt607.1 bt627.1 true bt619.1 bt619.2.1 bt629.1 bt629.2.1 bt629.2.2.1 bt629.2.2.2.1 bt629.2.2.2.2.1 bt629.2.2.2.2.2.1 bt629.2.2.2.2.2.2.1)))))))))))))))))))))
theorem torchonlaw06_awake.mono_l : ∀ k, (∀ y0 y1 y2 y3 y4 y5 y6 y7 y8 y9 y10 y11 y12 y13 y14, LeO (torchonlaw06_awake.j0 k y0 y1 y2 y3 y4 y5 y6 y7 y8 y9 y10 y11 y12 y13 y14) (torchonlaw06_awake.j0 (k + 1) y0 y1 y2 y3 y4 y5 y6 y7 y8 y9 y10 y11 y12 y13 y14))
  | 0 => fun _ _ _ _ _ _ _ _ _ _ _ _ _ _ _ r h => by simp [torchonlaw06_awake.j0] at h
  | k + 1 => by
    have ih0 := torchonlaw06_awake.mono_l k
    · intro y0 y1 y2 y3 y4 y5 y6 y7 y8 y9 y10 y11 y12 y13 y14
      unfold torchonlaw06_awake.j0
      repeat' first
      | (with_reducible exact ih0 _ _ _ _ _ _ _ _ _ _ _ _ _ _ _)
      | (with_reducible exact grids_Apply.mono _ _ _ _ _ _ _ _ _)
      | (with_reducible exact grids_Group.mono _ _ _ _)
      | (with_reducible exact grids_Order.mono _ _ _ _ _)
      | (with_reducible exact grids_Reduce.mono _ _ _ _)
      | (with_reducible exact grids_Side.mono _ _ _ _ _ _ _)
      | (with_reducible exact grids_Square.mono _ _ _ _ _ _ _ _)
      | (with_reducible exact grids_Turn.mono _ _ _ _ _ _ _ _ _)
      | (with_reducible exact LeO.refl _)
      | (with_reducible exact LeO.none _)
      | (with_reducible refine LeO.ite ?_ ?_)
      | (with_reducible refine LeO.bind ?_ (fun _ => ?_))
      | exact ih0 _ _ _ _ _ _ _ _ _ _ _ _ _ _ _
      | exact grids_Apply.mono _ _ _ _ _ _ _ _ _
      | exact grids_Group.mono _ _ _ _
      | exact grids_Order.mono _ _ _ _ _
      | exact grids_Reduce.mono _ _ _ _
      | exact grids_Side.mono _ _ _ _ _ _ _
      | exact grids_Square.mono _ _ _ _ _ _ _ _
      | exact grids_Turn.mono _ _ _ _ _ _ _ _ _
      | exact LeO.none _
      | refine LeO.ite ?_ ?_
      | refine LeO.bind ?_ (fun _ => ?_)
theorem torchonlaw06_awake.mono : ∀ k, LeO (torchonlaw06_awake.f k ) (torchonlaw06_awake.f (k + 1) ) := by
  intro  k
  have ih0 := torchonlaw06_awake.mono_l k
  unfold torchonlaw06_awake.f
  repeat' first
      | (with_reducible exact ih0 _ _ _ _ _ _ _ _ _ _ _ _ _ _ _)
      | (with_reducible exact grids_Apply.mono _ _ _ _ _ _ _ _ _)
      | (with_reducible exact grids_Group.mono _ _ _ _)
      | (with_reducible exact grids_Order.mono _ _ _ _ _)
      | (with_reducible exact grids_Reduce.mono _ _ _ _)
      | (with_reducible exact grids_Side.mono _ _ _ _ _ _ _)
      | (with_reducible exact grids_Square.mono _ _ _ _ _ _ _ _)
      | (with_reducible exact grids_Turn.mono _ _ _ _ _ _ _ _ _)
      | (with_reducible exact LeO.refl _)
      | (with_reducible exact LeO.none _)
      | (with_reducible refine LeO.ite ?_ ?_)
      | (with_reducible refine LeO.bind ?_ (fun _ => ?_))
      | exact ih0 _ _ _ _ _ _ _ _ _ _ _ _ _ _ _
      | exact grids_Apply.mono _ _ _ _ _ _ _ _ _
      | exact grids_Group.mono _ _ _ _
      | exact grids_Order.mono _ _ _ _ _
      | exact grids_Reduce.mono _ _ _ _
      | exact grids_Side.mono _ _ _ _ _ _ _
      | exact grids_Square.mono _ _ _ _ _ _ _ _
      | exact grids_Turn.mono _ _ _ _ _ _ _ _ _
      | exact LeO.none _
      | refine LeO.ite ?_ ?_
      | refine LeO.bind ?_ (fun _ => ?_)
def torchonlaw06_awake.T2 : Bool × List (List Nat × List Nat) := (true, [([], []), ([], []), ([1], []), ([0, 1, 2, 2], [0, 1, 2]), ([3], [3]), ([4], [4]), ([4], [4]), ([5, 3, 0, 1, 2, 3, 4, 5], [5]), ([6, 7, 0, 1, 2, 3, 4, 5, 6, 7], [6])])
def torchonlaw06_awake.B2 : List Nat := [0, 0, 2, 7, 15, 31, 31, 63, 255]
theorem torchonlaw06_awake.tab2 : rtab .any (opsOf Try.f13 2) = torchonlaw06_awake.T2 := by kernel_rfl
theorem torchonlaw06_awake.bits2 : waitsOk torchonlaw06_awake.T2.2 torchonlaw06_awake.B2 = true := by kernel_rfl
def torchonlaw06_awake.T11 : Bool × List (List Nat × List Nat) := (true, [([], []), ([0], [0]), ([1], [1]), ([2], [2]), ([3, 2], [2, 3]), ([2, 4], [2, 4]), ([5, 2], [5]), ([6], [6]), ([7, 6], [6, 7]), ([6, 8], [6, 8]), ([9, 6], [9]), ([10], [10]), ([11, 10], [10, 11]), ([12, 10], [10, 12]), ([10, 13], [10, 13]), ([14, 10], [14]), ([15], [15]), ([15, 15], [15]), ([16, 17, 15], [15, 16, 17]), ([15, 18], [15, 18]), ([19, 17], [19]), ([20], [20]), ([21, 20], [20, 21]), ([20, 22], [20, 22]), ([23, 20], [23]), ([24], [24]), ([24], [24]), ([25, 26, 24], [24, 25, 26]), ([24, 27], [24, 27]), ([28, 24], [28]), ([29], [29]), ([29, 29], [29]), ([30, 31, 29], [29, 30, 31]), ([29, 32], [29, 32]), ([33, 31, 0, 1, 2, 3, 4, 5, 6, 7, 8, 9, 10, 11, 12, 13, 14, 15, 16, 17, 18, 19, 20, 21, 22, 23, 24, 25, 26, 27, 28, 29, 30, 31, 32, 33], [33])])
def torchonlaw06_awake.B11 : List Nat := [0, 1, 3, 7, 15, 31, 63, 127, 255, 511, 1023, 2047, 4095, 8191, 16383, 32767, 65535, 65535, 262143, 524287, 1048575, 2097151, 4194303, 8388607, 16777215, 33554431, 33554431, 134217727, 268435455, 536870911, 1073741823, 1073741823, 4294967295, 8589934591, 17179869183]
theorem torchonlaw06_awake.tab11 : rtab .any (opsOf Try.f13 11) = torchonlaw06_awake.T11 := by kernel_rfl
theorem torchonlaw06_awake.bits11 : waitsOk torchonlaw06_awake.T11.2 torchonlaw06_awake.B11 = true := by kernel_rfl
set_option maxHeartbeats 8000000 in
set_option maxRecDepth 100000 in
theorem torchonlaw06_awake.calls (k : Nat)  (r : Bool) (w : World) (h : torchonlaw06_awake.f k  = some r) :
    Calls Try.prog 13 #[] w fun e w' => e = .returned (.bool r) ∧ Below w.heap.size w w' := by
  have hu23 := Try.underlying23
  have hu55 := Try.underlying55
  have hu37 := Try.underlying37
  have hu25 := Try.underlying25
  have HB := Aside0.mk (Below.refl w.heap.size w)
  have H : ((torchonlaw06_pt.f 0 0).bind fun bt583 => ((torchonlaw06_pt.f 1 1).bind fun bt585 => ((grids_Square.f k 2 1 2 bt583.1 bt583.2 bt585.1 bt585.2).bind fun bt587 => ((torchonlaw06_pt.f 0 0).bind fun bt589 => ((torchonlaw06_pt.f 1 0).bind fun bt591 => ((torchonlaw06_pt.f 0 1).bind fun bt593 => ((grids_Side.f k bt589.1 bt589.2 bt591.1 bt591.2 bt593.1 bt593.2).bind fun bt595 => ((torchonlaw06_pt.f 0 0).bind fun bt597 => ((torchonlaw06_pt.f 1 0).bind fun bt599 => ((torchonlaw06_pt.f 1 (-1)).bind fun bt601 => ((torchonlaw06_pt.f 0 1).bind fun bt603 => ((grids_Turn.f k bt597.1 bt597.2 bt599.1 bt599.2 bt601.1 bt601.2 bt603.1 bt603.2).bind fun bt605 => ((grids_Group.f k 2 1 2).bind fun bt607 => ((torchonlaw06_mat.f 0 (-1) 1 0).bind fun bt611 => ((torchonlaw06_pt.f 3 4).bind fun bt615 => ((torchonlaw06_pt.f 1 2).bind fun bt617 => ((grids_Apply.f k bt611.1 bt611.2.1 bt611.2.2.1 bt611.2.2.2 bt615.1 bt615.2 bt617.1 bt617.2).bind fun bt619 => ((torchonlaw06_mat.f 1 (-1) 1 0).bind fun bt623 => ((grids_Order.f k bt623.1 bt623.2.1 bt623.2.2.1 bt623.2.2.2).bind fun bt627 => ((grids_Reduce.f k 5 7 10).bind fun bt629 => (if bt587.2 = 0 then (if bt595.2 = 0 then (if bt605.2 = 0 then (if bt607.2 = 0 then (if bt619.2.2 = 0 then (if bt627.2 = 0 then (torchonlaw06_awake.j0 k bt587.1 bt595.1 bt605.1 bt607.1 bt627.1 (bt629.2.2.2.2.2.2.2 != 0) bt619.1 bt619.2.1 bt629.1 bt629.2.1 bt629.2.2.1 bt629.2.2.2.1 bt629.2.2.2.2.1 bt629.2.2.2.2.2.1 bt629.2.2.2.2.2.2.1) else (torchonlaw06_awake.j0 k bt587.1 bt595.1 bt605.1 bt607.1 bt627.1 true bt619.1 bt619.2.1 bt629.1 bt629.2.1 bt629.2.2.1 bt629.2.2.2.1 bt629.2.2.2.2.1 bt629.2.2.2.2.2.1 bt629.2.2.2.2.2.2.1)) else (torchonlaw06_awake.j0 k bt587.1 bt595.1 bt605.1 bt607.1 bt627.1 true bt619.1 bt619.2.1 bt629.1 bt629.2.1 bt629.2.2.1 bt629.2.2.2.1 bt629.2.2.2.2.1 bt629.2.2.2.2.2.1 bt629.2.2.2.2.2.2.1)) else (torchonlaw06_awake.j0 k bt587.1 bt595.1 bt605.1 bt607.1 bt627.1 true bt619.1 bt619.2.1 bt629.1 bt629.2.1 bt629.2.2.1 bt629.2.2.2.1 bt629.2.2.2.2.1 bt629.2.2.2.2.2.1 bt629.2.2.2.2.2.2.1)) else (torchonlaw06_awake.j0 k bt587.1 bt595.1 bt605.1 bt607.1 bt627.1 true bt619.1 bt619.2.1 bt629.1 bt629.2.1 bt629.2.2.1 bt629.2.2.2.1 bt629.2.2.2.2.1 bt629.2.2.2.2.2.1 bt629.2.2.2.2.2.2.1)) else (torchonlaw06_awake.j0 k bt587.1 bt595.1 bt605.1 bt607.1 bt627.1 true bt619.1 bt619.2.1 bt629.1 bt629.2.1 bt629.2.2.1 bt629.2.2.2.1 bt629.2.2.2.2.1 bt629.2.2.2.2.2.1 bt629.2.2.2.2.2.2.1)) else (torchonlaw06_awake.j0 k bt587.1 bt595.1 bt605.1 bt607.1 bt627.1 true bt619.1 bt619.2.1 bt629.1 bt629.2.1 bt629.2.2.1 bt629.2.2.2.1 bt629.2.2.2.2.1 bt629.2.2.2.2.2.1 bt629.2.2.2.2.2.2.1)))))))))))))))))))))) = some r := h
  clear h
  obtain ⟨⟨t583, t584⟩, A1, H⟩ := ob H
  obtain ⟨⟨t585, t586⟩, A2, H⟩ := ob H
  obtain ⟨⟨t587, t588⟩, A3, H⟩ := ob H
  obtain ⟨⟨t589, t590⟩, A4, H⟩ := ob H
  obtain ⟨⟨t591, t592⟩, A5, H⟩ := ob H
  obtain ⟨⟨t593, t594⟩, A6, H⟩ := ob H
  obtain ⟨⟨t595, t596⟩, A7, H⟩ := ob H
  obtain ⟨⟨t597, t598⟩, A8, H⟩ := ob H
  obtain ⟨⟨t599, t600⟩, A9, H⟩ := ob H
  obtain ⟨⟨t601, t602⟩, A10, H⟩ := ob H
  obtain ⟨⟨t603, t604⟩, A11, H⟩ := ob H
  obtain ⟨⟨t605, t606⟩, A12, H⟩ := ob H
  obtain ⟨⟨t607, t610⟩, A13, H⟩ := ob H
  obtain ⟨⟨t611, t612, t613, t614⟩, A14, H⟩ := ob H
  obtain ⟨⟨t615, t616⟩, A15, H⟩ := ob H
  obtain ⟨⟨t617, t618⟩, A16, H⟩ := ob H
  obtain ⟨⟨t619, t620, t621⟩, A17, H⟩ := ob H
  obtain ⟨⟨t623, t624, t625, t626⟩, A18, H⟩ := ob H
  obtain ⟨⟨t627, t628⟩, A19, H⟩ := ob H
  obtain ⟨⟨t629, t630, t631, t632, t633, t634, t635, t636⟩, A20, H⟩ := ob H
  have HC21 := Aside0.mk H
  clear H
  go_enter Try.func13, Try.ntmps13
  try go_wp2_with (first | ((with_reducible refine gate_dst (N := 1) rfl ?_); (try (refine gate_guard (by rfl) ?_; dsimp only)); refine bx 1 #[.int .i64 0, .int .i64 0, .int .i64 0] 23 fun gb582 hg w22 BK582 hb => ?_; have GW582 := gw hg HB; have GE582 := gw hg HB; replace HB := bst HB hb; clear hb hg; have ⟨hcz23_0, hcz23_1, hcz23_2, hfz23_0, hfz23_1, hfz23_2⟩ := cf3 BK582) | ((with_reducible refine gate_store (t := 23) (p := 1) rfl ?_); refine sx 23 1 ((((w22.setCell ⟨gb582, 0, none⟩ (.int .i64 2)).setCell ⟨gb582, 1, none⟩ (.int .i64 1)).setCell ⟨gb582, 2, none⟩ (.int .i64 2))) fun w24 hw => ?_; replace BK582 := pw3 hw BK582; replace HB := bw hw HB; clear hw))
  replace BK582 := bd BK582
  replace HB := bdn HB
  refine start_ (n := 9) (S := fun w' => w'.cell? ⟨gb582, 0, none⟩ = some (.int .i64 2) ∧ w'.cell? ⟨gb582, 1, none⟩ = some (.int .i64 1) ∧ w'.cell? ⟨gb582, 2, none⟩ = some (.int .i64 2)) (ds := []) #[false, false, false, false, false, false, false, false, false] (by kernel_rfl) rfl rfl ⟨(blk_cell BK582.out 0).trans rfl, (blk_cell BK582.out 1).trans rfl, (blk_cell BK582.out 2).trans rfl⟩ (fun hHeld => ?_); refine with_tabW torchonlaw06_awake.tab2 torchonlaw06_awake.bits2 (fun HT_ HW_ => ?_)
  generalize w24.drew = w25 at BK582 HB hHeld ⊢
  refine tz 0 19 HT_ HW_ hHeld ?_
  refine one_ (i := 1) (N := some 20) #[true, true, false, false, false, false, false, false, false] rfl rfl (one_of HT_.out (by kernel_rfl)) (by decide) (fun K hK => ?_)
  refine gs _ Try.func19 (torchonlaw06_pt.calls 0 0 t583 t584 _ A1.out) ?_
  rintro e w26 ⟨rfl, hb⟩
  refine ⟨_, rfl, ?_⟩
  replace BK582 := bb BK582 hb
  replace HB := bst HB hb
  (try clear hb)
  (try clear hb2)
  (try clear hk)
  (try clear hi)
  refine hK.out _ _ ⟨(blk_cell BK582.out 0).trans rfl, (blk_cell BK582.out 1).trans rfl, (blk_cell BK582.out 2).trans rfl⟩ (fun hHeld => ?_)
  clear hK K
  refine norm_ (a' := ?_) ?_ ?_
  rotate_left
  · show Act.put _ (some 20) _ = _
    simp only [Act.put, List.setIfInBounds_toArray, List.set_cons_zero, List.set_cons_succ, i64_w, i32_w]
    rfl
  refine one_ (i := 2) (N := some 21) #[true, true, true, false, false, false, false, false, false] rfl rfl (one_of HT_.out (by kernel_rfl)) (by decide) (fun K hK => ?_)
  refine gs _ Try.func19 (torchonlaw06_pt.calls 1 1 t585 t586 _ A2.out) ?_
  rintro e w27 ⟨rfl, hb⟩
  refine ⟨_, rfl, ?_⟩
  replace BK582 := bb BK582 hb
  replace HB := bst HB hb
  (try clear hb)
  (try clear hb2)
  (try clear hk)
  (try clear hi)
  refine hK.out _ _ ⟨(blk_cell BK582.out 0).trans rfl, (blk_cell BK582.out 1).trans rfl, (blk_cell BK582.out 2).trans rfl⟩ (fun hHeld => ?_)
  clear hK K
  refine norm_ (a' := ?_) ?_ ?_
  rotate_left
  · show Act.put _ (some 21) _ = _
    simp only [Act.put, List.setIfInBounds_toArray, List.set_cons_zero, List.set_cons_succ, i64_w, i32_w]
    rfl
  refine one_ (i := 3) (N := some 22) #[true, true, true, true, false, false, false, false, false] rfl rfl (one_of HT_.out (by kernel_rfl)) (by decide) (fun K hK => ?_)
  refine gs _ Try.func20 (grids_Square.calls k 2 1 2 t583 t584 t585 t586 t587 t588 _ A3.out) ?_
  rintro e w28 ⟨rfl, hb⟩
  refine ⟨_, rfl, ?_⟩
  replace BK582 := bb BK582 hb
  replace HB := bst HB hb
  (try clear hb)
  (try clear hb2)
  (try clear hk)
  (try clear hi)
  refine hK.out _ _ ⟨(blk_cell BK582.out 0).trans rfl, (blk_cell BK582.out 1).trans rfl, (blk_cell BK582.out 2).trans rfl⟩ (fun hHeld => ?_)
  clear hK K
  refine norm_ (a' := ?_) ?_ ?_
  rotate_left
  · show Act.put _ (some 22) _ = _
    simp only [Act.put, List.setIfInBounds_toArray, List.set_cons_zero, List.set_cons_succ, i64_w, i32_w]
    rfl
  refine pz 4 18 HT_ ?_
  refine pz 5 23 HT_ ?_
  refine pz 6 24 HT_ ?_
  refine pz 7 2 HT_ ?_
  refine pz 8 3 HT_ ?_
  refine done_ (done_of HT_.out (by kernel_rfl)) ?_
  go_upto_region 9 with (first | ((with_reducible refine gate_callee (f := 19) rfl ?_); refine gl 26 Try.func19 (torchonlaw06_pt.calls 0 0 t589 t590 _ A4.out) ?_; rintro e w29 ⟨rfl, hb⟩; refine ⟨_, rfl, ?_⟩; replace BK582 := bb BK582 hb; replace HB := bst HB hb; clear hb) | ((with_reducible refine gate_callee (f := 19) rfl ?_); refine gl 27 Try.func19 (torchonlaw06_pt.calls 1 0 t591 t592 _ A5.out) ?_; rintro e w30 ⟨rfl, hb⟩; refine ⟨_, rfl, ?_⟩; replace BK582 := bb BK582 hb; replace HB := bst HB hb; clear hb) | ((with_reducible refine gate_callee (f := 19) rfl ?_); refine gl 28 Try.func19 (torchonlaw06_pt.calls 0 1 t593 t594 _ A6.out) ?_; rintro e w31 ⟨rfl, hb⟩; refine ⟨_, rfl, ?_⟩; replace BK582 := bb BK582 hb; replace HB := bst HB hb; clear hb) | ((with_reducible refine gate_callee (f := 21) rfl ?_); refine gl 29 Try.func21 (grids_Side.calls k t589 t590 t591 t592 t593 t594 t595 t596 _ A7.out) ?_; rintro e w32 ⟨rfl, hb⟩; refine ⟨_, rfl, ?_⟩; replace BK582 := bb BK582 hb; replace HB := bst HB hb; clear hb) | ((with_reducible refine gate_callee (f := 19) rfl ?_); refine gl 33 Try.func19 (torchonlaw06_pt.calls 0 0 t597 t598 _ A8.out) ?_; rintro e w33 ⟨rfl, hb⟩; refine ⟨_, rfl, ?_⟩; replace BK582 := bb BK582 hb; replace HB := bst HB hb; clear hb) | ((with_reducible refine gate_callee (f := 19) rfl ?_); refine gl 34 Try.func19 (torchonlaw06_pt.calls 1 0 t599 t600 _ A9.out) ?_; rintro e w34 ⟨rfl, hb⟩; refine ⟨_, rfl, ?_⟩; replace BK582 := bb BK582 hb; replace HB := bst HB hb; clear hb) | ((with_reducible refine gate_callee (f := 19) rfl ?_); refine gl 35 Try.func19 (torchonlaw06_pt.calls 1 (-1) t601 t602 _ A10.out) ?_; rintro e w35 ⟨rfl, hb⟩; refine ⟨_, rfl, ?_⟩; replace BK582 := bb BK582 hb; replace HB := bst HB hb; clear hb) | ((with_reducible refine gate_callee (f := 19) rfl ?_); refine gl 36 Try.func19 (torchonlaw06_pt.calls 0 1 t603 t604 _ A11.out) ?_; rintro e w36 ⟨rfl, hb⟩; refine ⟨_, rfl, ?_⟩; replace BK582 := bb BK582 hb; replace HB := bst HB hb; clear hb) | ((with_reducible refine gate_callee (f := 18) rfl ?_); refine gl 37 Try.func18 (grids_Turn.calls k t597 t598 t599 t600 t601 t602 t603 t604 t605 t606 _ A12.out) ?_; rintro e w37 ⟨rfl, hb⟩; refine ⟨_, rfl, ?_⟩; replace BK582 := bb BK582 hb; replace HB := bst HB hb; clear hb; have ⟨hcz38_0, hcz38_1, hcz38_2, hfz38_0, hfz38_1, hfz38_2⟩ := cf3 BK582) | ((with_reducible refine gate_callee (f := 22) rfl ?_); refine goesL_ (some 42) rfl rfl Try.func22 (by kernel_rfl) rfl #[.agg #[.int .i64 2, .int .i64 1, .int .i64 2]] rfl am ?_; (with_reducible refine (grids_Group.calls k 2 1 2 t607 t610 _ A13.out).mono ?_); rintro e w39 ⟨v608, rfl, ho0, hb⟩; refine ⟨_, rfl, ?_⟩; have HO609 := Aside0.mk (Kd.R_lower ho0 (below_size (bnow HB))); replace BK582 := bb BK582 hb; replace HB := bst HB hb; (try clear hb); (try clear hb2); (try clear hk); (try clear hi); (try clear ho0)) | ((with_reducible refine gate_callee (f := 17) rfl ?_); refine gl 46 Try.func17 (torchonlaw06_mat.calls 0 (-1) 1 0 t611 t612 t613 t614 _ A14.out) ?_; rintro e w40 ⟨rfl, hb⟩; refine ⟨_, rfl, ?_⟩; replace HO609 := Aside0.mk (Kd.R_below (by (with_reducible repeat (first | apply Kd.R_alloc | apply Kd.R_drewN | apply Kd.R_drew)); exact HO609.out) hb); replace BK582 := bb BK582 hb; replace HB := bst HB hb; (try clear hb); (try clear hb2); (try clear hk); (try clear hi)) | ((with_reducible refine gate_callee (f := 19) rfl ?_); refine gl 47 Try.func19 (torchonlaw06_pt.calls 3 4 t615 t616 _ A15.out) ?_; rintro e w41 ⟨rfl, hb⟩; refine ⟨_, rfl, ?_⟩; replace HO609 := Aside0.mk (Kd.R_below (by (with_reducible repeat (first | apply Kd.R_alloc | apply Kd.R_drewN | apply Kd.R_drew)); exact HO609.out) hb); replace BK582 := bb BK582 hb; replace HB := bst HB hb; (try clear hb); (try clear hb2); (try clear hk); (try clear hi)) | ((with_reducible refine gate_callee (f := 19) rfl ?_); refine gl 49 Try.func19 (torchonlaw06_pt.calls 1 2 t617 t618 _ A16.out) ?_; rintro e w42 ⟨rfl, hb⟩; refine ⟨_, rfl, ?_⟩; replace HO609 := Aside0.mk (Kd.R_below (by (with_reducible repeat (first | apply Kd.R_alloc | apply Kd.R_drewN | apply Kd.R_drew)); exact HO609.out) hb); replace BK582 := bb BK582 hb; replace HB := bst HB hb; (try clear hb); (try clear hb2); (try clear hk); (try clear hi)) | ((with_reducible refine gate_callee (f := 27) rfl ?_); refine gl 50 Try.func27 (grids_Apply.calls k t611 t612 t613 t614 t615 t616 t617 t618 t619 t620 t621 _ A17.out) ?_; rintro e w43 ⟨rfl, hb⟩; refine ⟨_, rfl, ?_⟩; replace HO609 := Aside0.mk (Kd.R_below (by (with_reducible repeat (first | apply Kd.R_alloc | apply Kd.R_drewN | apply Kd.R_drew)); exact HO609.out) hb); replace BK582 := bb BK582 hb; replace HB := bst HB hb; (try clear hb); (try clear hb2); (try clear hk); (try clear hi)) | ((with_reducible refine gate_dst (N := 10) rfl ?_); (try (refine gate_guard (by rfl) ?_; dsimp only)); refine box_event ?hg (N := 10) ?hd (cs := #[.int .i64 0, .int .i64 0]) (t := 37) ?hr ?_; (case hd => rfl); (case hg => rfl); (case hr => first | (go_simp; done) | (go_simp; rfl)); intro gb622 hg w44 hbox hb; have BK622 := Aside0.mk (hbox); have GW622 := gw hg HB; have GE622 := gw hg HB; have NB582_622 := nlt hg BK582; have NB622_582 := ngt hg BK582; replace HO609 := Aside0.mk (Kd.R_below (by (with_reducible repeat (first | apply Kd.R_alloc | apply Kd.R_drewN | apply Kd.R_drew)); exact HO609.out) hb); replace BK582 := bb BK582 hb; replace HB := bst HB hb; clear hb hg; have hnb45 := NB622_582.out; have hnc45 := NB582_622.out; have ⟨hcz46_0, hcz46_1, hfz46_0, hfz46_1⟩ := cf2 BK622) | ((with_reducible refine gate_callee (f := 17) rfl ?_); refine gl 54 Try.func17 (torchonlaw06_mat.calls 1 (-1) 1 0 t623 t624 t625 t626 _ A18.out) ?_; rintro e w47 ⟨rfl, hb⟩; refine ⟨_, rfl, ?_⟩; have n0_ := Aside0.mk (Kd.R_below (by (with_reducible repeat (first | apply Kd.R_alloc | apply Kd.R_drewN | apply Kd.R_drew)); exact (Kd.R_mono (Kd.R_far (p := ⟨gb622, 1, none⟩) (Kd.R_far (p := ⟨gb622, 0, none⟩) (Kd.R_types HO609.out BK622.out (by decide)) (fun _ hk => hk.2) (.int .i64 t619)) (fun _ hk => hk.2) (.int .i64 t620)) (fun _ h_ => h_.1))) hb); have n1_ := Aside0.mk (blk_below (g := gb582) (o := .cells #[.int .i64 2, .int .i64 1, .int .i64 2] 23 (0, 0)) (by (with_reducible repeat (first | refine blk_drewN ?_ _ | refine blk_drew ?_ | refine blk_alloc ?_ _)); refine blk_far ?_ NB582_622.out _; (with_reducible repeat (first | refine blk_drewN ?_ _ | refine blk_drew ?_ | refine blk_alloc ?_ _)); refine blk_far ?_ NB582_622.out _; (with_reducible repeat (first | refine blk_drewN ?_ _ | refine blk_drew ?_ | refine blk_alloc ?_ _)); exact BK582.out) hb); have n2_ := Aside0.mk (blk_below (g := gb622) (o := .cells #[.int .i64 t619, .int .i64 t620] 37 (0, 0)) (by (with_reducible repeat (first | refine blk_drewN ?_ _ | refine blk_drew ?_ | refine blk_alloc ?_ _)); refine blk_put (cs := #[.int .i64 t619, .int .i64 0]) ?_ 1 _ rfl; (with_reducible repeat (first | refine blk_drewN ?_ _ | refine blk_drew ?_ | refine blk_alloc ?_ _)); refine blk_put (cs := #[.int .i64 0, .int .i64 0]) ?_ 0 _ rfl; (with_reducible repeat (first | refine blk_drewN ?_ _ | refine blk_drew ?_ | refine blk_alloc ?_ _)); exact BK622.out) hb); have n3_ := bst HB hb; clear HO609; clear BK582; clear BK622; clear HB; have HO609 := n0_; have BK582 := n1_; have BK622 := n2_; have HB := n3_; clear n0_ n1_ n2_ n3_; (try clear hb); (try clear hb2); (try clear hk); (try clear hi)) | ((with_reducible refine gate_callee (f := 33) rfl ?_); refine gl 55 Try.func33 (grids_Order.calls k t623 t624 t625 t626 t627 t628 _ A19.out) ?_; rintro e w48 ⟨rfl, hb⟩; refine ⟨_, rfl, ?_⟩; replace HO609 := Aside0.mk (Kd.R_below (by (with_reducible repeat (first | apply Kd.R_alloc | apply Kd.R_drewN | apply Kd.R_drew)); exact HO609.out) hb); replace BK582 := bb BK582 hb; replace BK622 := bb BK622 hb; replace HB := bst HB hb; (try clear hb); (try clear hb2); (try clear hk); (try clear hi)) | ((with_reducible refine gate_callee (f := 11) rfl ?_); refine gl 60 Try.func11 (grids_Reduce.calls k 5 7 10 t629 t630 t631 t632 t633 t634 t635 t636 _ A20.out) ?_; rintro e w49 ⟨rfl, hb⟩; refine ⟨_, rfl, ?_⟩; replace HO609 := Aside0.mk (Kd.R_below (by (with_reducible repeat (first | apply Kd.R_alloc | apply Kd.R_drewN | apply Kd.R_drew)); exact HO609.out) hb); replace BK582 := bb BK582 hb; replace BK622 := bb BK622 hb; replace HB := bst HB hb; (try clear hb); (try clear hb2); (try clear hk); (try clear hi)) | ((with_reducible refine gate_dst (N := 14) rfl ?_); (try (refine gate_guard (by rfl) ?_; dsimp only)); refine box_event ?hg (N := 14) ?hd (cs := #[.int .i64 0, .int .i64 0, .int .i64 0]) (t := 23) ?hr ?_; (case hd => rfl); (case hg => rfl); (case hr => first | (go_simp; done) | (go_simp; rfl)); intro gb637 hg w50 hbox hb; have BK637 := Aside0.mk (hbox); have GW637 := gw hg HB; have GE637 := gw hg HB; have NB582_637 := nlt hg BK582; have NB637_582 := ngt hg BK582; have NB622_637 := nlt hg BK622; have NB637_622 := ngt hg BK622; replace HO609 := Aside0.mk (Kd.R_below (by (with_reducible repeat (first | apply Kd.R_alloc | apply Kd.R_drewN | apply Kd.R_drew)); exact HO609.out) hb); replace BK582 := bb BK582 hb; replace BK622 := bb BK622 hb; replace HB := bst HB hb; clear hb hg) | ((with_reducible refine gate_dst (N := 15) rfl ?_); (try (refine gate_guard (by rfl) ?_; dsimp only)); refine box_event ?hg (N := 15) ?hd (cs := #[.int .i64 0, .int .i64 0, .int .i64 0, .int .i64 0]) (t := 25) ?hr ?_; (case hd => rfl); (case hg => rfl); (case hr => first | (go_simp; done) | (go_simp; rfl)); intro gb638 hg w51 hbox hb; have BK638 := Aside0.mk (hbox); have GW638 := gw hg HB; have GE638 := gw hg HB; have NB582_638 := nlt hg BK582; have NB638_582 := ngt hg BK582; have NB622_638 := nlt hg BK622; have NB638_622 := ngt hg BK622; have NB637_638 := nlt hg BK637; have NB638_637 := ngt hg BK637; replace HO609 := Aside0.mk (Kd.R_below (Kd.R_elderB (by (with_reducible repeat (first | apply Kd.R_alloc | apply Kd.R_drewN | apply Kd.R_drew)); exact HO609.out) gb638 (Nat.le_of_eq hg.symm)) hb); replace BK582 := bb BK582 hb; replace BK622 := bb BK622 hb; replace BK637 := bb BK637 hb; replace HB := bst HB hb; clear hb hg; have hnb52 := NB637_582.out; have hnc52 := NB582_637.out; have hnb53 := NB637_622.out; have hnc53 := NB622_637.out; have hnb54 := NB637_638.out; have hnc54 := NB638_637.out; have ⟨hcz55_0, hcz55_1, hcz55_2, hfz55_0, hfz55_1, hfz55_2⟩ := cf3 BK637) | ((with_reducible refine gate_store (t := 23) (p := 14) rfl ?_); refine sx 23 14 ((((w51.setCell ⟨gb637, 0, none⟩ (.int .i64 t629)).setCell ⟨gb637, 1, none⟩ (.int .i64 t630)).setCell ⟨gb637, 2, none⟩ (.int .i64 t631))) fun w56 hw => ?_; have n0_ : Aside0 (Kd.R k25 25 w56 w.heap.size (fun k_ => k_ ≠ gb638) v608 t607) := ⟨(by rw [hw]; exact (by (with_reducible repeat (first | apply Kd.R_alloc | apply Kd.R_drewN | apply Kd.R_drew)); exact Kd.R_mono (Kd.R_far (p := ⟨gb637, 2, none⟩) (Kd.R_far (p := ⟨gb637, 1, none⟩) (Kd.R_far (p := ⟨gb637, 0, none⟩) (Kd.R_types HO609.out BK637.out (by decide)) (fun _ hk => hk.2) (.int .i64 t629)) (fun _ hk => hk.2) (.int .i64 t630)) (fun _ hk => hk.2) (.int .i64 t631)) (fun _ hk => hk.1.2)))⟩; have n1_ := fw hw BK582; have n2_ := fw hw BK622; have n3_ := pw3 hw BK637; have n4_ := fw hw BK638; have n5_ := bw hw HB; clear hw; clear HO609; clear BK582; clear BK622; clear BK637; clear BK638; clear HB; have HO609 := n0_; have BK582 := n1_; have BK622 := n2_; have BK637 := n3_; have BK638 := n4_; have HB := n5_; clear n0_ n1_ n2_ n3_ n4_ n5_; have hnb57 := NB638_582.out; have hnc57 := NB582_638.out; have hnb58 := NB638_622.out; have hnc58 := NB622_638.out; have ⟨hcz59_0, hcz59_1, hcz59_2, hcz59_3, hfz59_0, hfz59_1, hfz59_2, hfz59_3⟩ := cf4 BK638) | ((with_reducible refine gate_store (t := 25) (p := 15) rfl ?_); refine sx 25 15 (((((w56.setCell ⟨gb638, 0, none⟩ (.int .i64 t632)).setCell ⟨gb638, 1, none⟩ (.int .i64 t633)).setCell ⟨gb638, 2, none⟩ (.int .i64 t634)).setCell ⟨gb638, 3, none⟩ (.int .i64 t635))) fun w60 hw => ?_; have n0_ : Aside0 (Kd.R k25 25 w60 w.heap.size (fun k_ => k_ ≠ gb638) v608 t607) := ⟨(by rw [hw]; exact (by (with_reducible repeat (first | apply Kd.R_alloc | apply Kd.R_drewN | apply Kd.R_drew)); exact Kd.R_mono (Kd.R_far (p := ⟨gb638, 3, none⟩) (Kd.R_far (p := ⟨gb638, 2, none⟩) (Kd.R_far (p := ⟨gb638, 1, none⟩) (Kd.R_far (p := ⟨gb638, 0, none⟩) (Kd.R_mono HO609.out (fun k_ hk => (⟨hk, hk⟩ : _ ∧ k_ ≠ gb638))) (fun _ hk => hk.2) (.int .i64 t632)) (fun _ hk => hk.2) (.int .i64 t633)) (fun _ hk => hk.2) (.int .i64 t634)) (fun _ hk => hk.2) (.int .i64 t635)) (fun _ hk => hk.1)))⟩; have n1_ := fw hw BK582; have n2_ := fw hw BK622; have n3_ := fw hw BK637; have n4_ := pw4 hw BK638; have n5_ := bw hw HB; clear hw; clear HO609; clear BK582; clear BK622; clear BK637; clear BK638; clear HB; have HO609 := n0_; have BK582 := n1_; have BK622 := n2_; have BK637 := n3_; have BK638 := n4_; have HB := n5_; clear n0_ n1_ n2_ n3_ n4_ n5_))
  (try simp only [Act.put, List.setIfInBounds_toArray, List.set_cons_zero, List.set_cons_succ])
  go_cut [89] (fun v89 wc => ∃ (kq : Nat) (x89_20 : Bool), v89 = .bool x89_20 ∧ Aside0 (torchonlaw06_awake.j0 kq t587 t595 t605 t607 t627 x89_20 t619 t620 t629 t630 t631 t632 t633 t634 t635 = some r) ∧ Aside0 (kq ≤ k) ∧ Aside0 (Kd.R k25 25 wc w.heap.size (fun k_ => k_ ≠ gb638) v608 t607) ∧ Aside0 (wc.heap[gb582]? = some (.cells #[.int .i64 2, .int .i64 1, .int .i64 2] 23 (0, 0))) ∧ Aside0 (wc.heap[gb622]? = some (.cells #[.int .i64 t619, .int .i64 t620] 37 (0, 0))) ∧ Aside0 (wc.heap[gb637]? = some (.cells #[.int .i64 t629, .int .i64 t630, .int .i64 t631] 23 (0, 0))) ∧ Aside0 (wc.heap[gb638]? = some (.cells #[.int .i64 t632, .int .i64 t633, .int .i64 t634, .int .i64 t635] 25 (0, 0))) ∧ Aside0 (Below w.heap.size w wc))
  case first =>
    have H := HC21.out
    clear HC21
    by_cases c61 : t588 = 0
    · rw [if_pos c61] at H
      have c61b0 : (t588 == 0) = true := beq_iff_eq.mpr c61
      have c61b1 : (t588 != 0) = false := bne_eq_false_iff_eq.mpr c61
      clear c61
      (first | rw [c61b0] | (simp only [i64_w, i32_w]; rw [c61b0]) | skip)
      by_cases c62 : t596 = 0
      · rw [if_pos c62] at H
        have c62b0 : (t596 == 0) = true := beq_iff_eq.mpr c62
        have c62b1 : (t596 != 0) = false := bne_eq_false_iff_eq.mpr c62
        clear c62
        by_cases c63 : t606 = 0
        · rw [if_pos c63] at H
          have c63b0 : (t606 == 0) = true := beq_iff_eq.mpr c63
          have c63b1 : (t606 != 0) = false := bne_eq_false_iff_eq.mpr c63
          clear c63
          by_cases c64 : t610 = 0
          · rw [if_pos c64] at H
            have c64b0 : (t610 == 0) = true := beq_iff_eq.mpr c64
            have c64b1 : (t610 != 0) = false := bne_eq_false_iff_eq.mpr c64
            clear c64
            by_cases c65 : t621 = 0
            · rw [if_pos c65] at H
              have c65b0 : (t621 == 0) = true := beq_iff_eq.mpr c65
              have c65b1 : (t621 != 0) = false := bne_eq_false_iff_eq.mpr c65
              clear c65
              by_cases c66 : t628 = 0
              · rw [if_pos c66] at H
                have c66b0 : (t628 == 0) = true := beq_iff_eq.mpr c66
                have c66b1 : (t628 != 0) = false := bne_eq_false_iff_eq.mpr c66
                clear c66
                have H' := Aside0.mk H
                clear H
                go_wp2
                go_meet
                case rel => exact ⟨_, ((t636 != 0)), (by first | rfl | (simp; done) | (simp [*]; done)), H', ⟨by first | omega | exact Nat.le_refl _⟩, ⟨by (with_reducible repeat (first | apply Kd.R_alloc | apply Kd.R_drewN | apply Kd.R_drew)); exact HO609.out⟩, ⟨pk BK582⟩, ⟨pk BK622⟩, ⟨pk BK637⟩, ⟨pk BK638⟩, ⟨bnow HB⟩⟩
              · rw [if_neg c66] at H
                have c66b0 : (t628 == 0) = false := beq_eq_false_iff_ne.mpr c66
                have c66b1 : (t628 != 0) = true := bne_iff_ne.mpr c66
                have H' := Aside0.mk H
                clear H
                go_wp2
                go_meet
                case rel => exact ⟨_, (true), (by first | rfl | (simp; done) | (simp [*]; done)), H', ⟨by first | omega | exact Nat.le_refl _⟩, ⟨by (with_reducible repeat (first | apply Kd.R_alloc | apply Kd.R_drewN | apply Kd.R_drew)); exact HO609.out⟩, ⟨pk BK582⟩, ⟨pk BK622⟩, ⟨pk BK637⟩, ⟨pk BK638⟩, ⟨bnow HB⟩⟩
            · rw [if_neg c65] at H
              have c65b0 : (t621 == 0) = false := beq_eq_false_iff_ne.mpr c65
              have c65b1 : (t621 != 0) = true := bne_iff_ne.mpr c65
              have H' := Aside0.mk H
              clear H
              go_wp2
              go_meet
              case rel => exact ⟨_, (true), (by first | rfl | (simp; done) | (simp [*]; done)), H', ⟨by first | omega | exact Nat.le_refl _⟩, ⟨by (with_reducible repeat (first | apply Kd.R_alloc | apply Kd.R_drewN | apply Kd.R_drew)); exact HO609.out⟩, ⟨pk BK582⟩, ⟨pk BK622⟩, ⟨pk BK637⟩, ⟨pk BK638⟩, ⟨bnow HB⟩⟩
          · rw [if_neg c64] at H
            have c64b0 : (t610 == 0) = false := beq_eq_false_iff_ne.mpr c64
            have c64b1 : (t610 != 0) = true := bne_iff_ne.mpr c64
            have H' := Aside0.mk H
            clear H
            go_wp2
            go_meet
            case rel => exact ⟨_, (true), (by first | rfl | (simp; done) | (simp [*]; done)), H', ⟨by first | omega | exact Nat.le_refl _⟩, ⟨by (with_reducible repeat (first | apply Kd.R_alloc | apply Kd.R_drewN | apply Kd.R_drew)); exact HO609.out⟩, ⟨pk BK582⟩, ⟨pk BK622⟩, ⟨pk BK637⟩, ⟨pk BK638⟩, ⟨bnow HB⟩⟩
        · rw [if_neg c63] at H
          have c63b0 : (t606 == 0) = false := beq_eq_false_iff_ne.mpr c63
          have c63b1 : (t606 != 0) = true := bne_iff_ne.mpr c63
          have H' := Aside0.mk H
          clear H
          go_wp2
          go_meet
          case rel => exact ⟨_, (true), (by first | rfl | (simp; done) | (simp [*]; done)), H', ⟨by first | omega | exact Nat.le_refl _⟩, ⟨by (with_reducible repeat (first | apply Kd.R_alloc | apply Kd.R_drewN | apply Kd.R_drew)); exact HO609.out⟩, ⟨pk BK582⟩, ⟨pk BK622⟩, ⟨pk BK637⟩, ⟨pk BK638⟩, ⟨bnow HB⟩⟩
      · rw [if_neg c62] at H
        have c62b0 : (t596 == 0) = false := beq_eq_false_iff_ne.mpr c62
        have c62b1 : (t596 != 0) = true := bne_iff_ne.mpr c62
        have H' := Aside0.mk H
        clear H
        go_wp2
        go_meet
        case rel => exact ⟨_, (true), (by first | rfl | (simp; done) | (simp [*]; done)), H', ⟨by first | omega | exact Nat.le_refl _⟩, ⟨by (with_reducible repeat (first | apply Kd.R_alloc | apply Kd.R_drewN | apply Kd.R_drew)); exact HO609.out⟩, ⟨pk BK582⟩, ⟨pk BK622⟩, ⟨pk BK637⟩, ⟨pk BK638⟩, ⟨bnow HB⟩⟩
    · rw [if_neg c61] at H
      have c61b0 : (t588 == 0) = false := beq_eq_false_iff_ne.mpr c61
      have c61b1 : (t588 != 0) = true := bne_iff_ne.mpr c61
      (first | rw [c61b0] | (simp only [i64_w, i32_w]; rw [c61b0]) | skip)
      have H' := Aside0.mk H
      clear H
      go_wp2
      go_meet
      case rel => exact ⟨_, (true), (by first | rfl | (simp; done) | (simp [*]; done)), H', ⟨by first | omega | exact Nat.le_refl _⟩, ⟨by (with_reducible repeat (first | apply Kd.R_alloc | apply Kd.R_drewN | apply Kd.R_drew)); exact HO609.out⟩, ⟨pk BK582⟩, ⟨pk BK622⟩, ⟨pk BK637⟩, ⟨pk BK638⟩, ⟨bnow HB⟩⟩
  case rest =>
    clear HC21
    try clear c1; try clear c2; try clear p2; try clear c3; try clear c4; try clear c5; try clear c6; try clear c11; try clear c13; try clear c17; try clear c18; try clear c19; try clear c20; try clear c21; try clear c22; try clear c27; try clear c33; try clear c45; try clear c52; try clear c53; try clear c54; try clear c57; try clear c58; try clear c61; try clear c61b0; try clear c61b1; try clear c62; try clear c62b0; try clear c62b1; try clear c63; try clear c63b0; try clear c63b1; try clear c64; try clear c64b0; try clear c64b1; try clear c65; try clear c65b0; try clear c65b1; try clear c66; try clear c66b0; try clear c66b1; try clear hcz23_0; try clear hcz23_1; try clear hcz23_2; try clear hcz38_0; try clear hcz38_1; try clear hcz38_2; try clear hcz46_0; try clear hcz46_1; try clear hcz55_0; try clear hcz55_1; try clear hcz55_2; try clear hcz59_0; try clear hcz59_1; try clear hcz59_2; try clear hcz59_3; try clear hfz23_0; try clear hfz23_1; try clear hfz23_2; try clear hfz38_0; try clear hfz38_1; try clear hfz38_2; try clear hfz46_0; try clear hfz46_1; try clear hfz55_0; try clear hfz55_1; try clear hfz55_2; try clear hfz59_0; try clear hfz59_1; try clear hfz59_2; try clear hfz59_3
    obtain ⟨kq, x89_20, rfl, HA, HJ20, HO_8, BK582, BK622, BK637, BK638, HB⟩ := hcut
    cases kq with
    | zero => exact absurd HA.out (by simp [torchonlaw06_awake.j0])
    | succ kj20 =>
      have H := HA.out
      clear HA
      simp only [torchonlaw06_awake.j0] at H
      by_cases c67 : x89_20 = true
      · subst c67
        have H1 : (none) = some r := by rw [if_pos rfl] at H; exact H
        clear H
        have H := H1
        clear H1
        exact absurd H (by simp)
      · replace c67 := Bool.eq_false_iff.mpr c67
        subst c67
        have H1 : (if t587 = 6 then (if t595 = 1 then (if t605 = 1 then (if (t607.length : Int) = 12 then ((torchonlaw06_pt.f 1 5).bind fun bt639 => (if (t619 == bt639.1 && (t620 == bt639.2)) = true then (if t627 = 6 then (if (t629 == 1 && (t630 == 0 && (t631 == 1))) = true then ((torchonlaw06_mat.f (-3) (-1) 2 1).bind fun bt641 => (some (t632 == bt641.1 && (t633 == bt641.2.1 && (t634 == bt641.2.2.1 && (t635 == bt641.2.2.2)))))) else (none)) else (none)) else (none))) else (none)) else (none)) else (none)) else (none)) = some r := by rw [if_neg (show ¬ (false = true) by decide)] at H; exact H
        clear H
        have H := H1
        clear H1
        by_cases c68 : t587 = 6
        · rw [if_pos c68] at H
          have c68b0 : (t587 == 6) = true := beq_iff_eq.mpr c68
          have c68b1 : (t587 != 6) = false := bne_eq_false_iff_eq.mpr c68
          clear c68
          by_cases c69 : t595 = 1
          · rw [if_pos c69] at H
            have c69b0 : (t595 == 1) = true := beq_iff_eq.mpr c69
            have c69b1 : (t595 != 1) = false := bne_eq_false_iff_eq.mpr c69
            clear c69
            by_cases c70 : t605 = 1
            · rw [if_pos c70] at H
              have c70b0 : (t605 == 1) = true := beq_iff_eq.mpr c70
              have c70b1 : (t605 != 1) = false := bne_eq_false_iff_eq.mpr c70
              clear c70
              by_cases c71 : (t607.length : Int) = 12
              · rw [if_pos c71] at H
                have c71b0 : ((t607.length : Int) == 12) = true := beq_iff_eq.mpr c71
                have c71b1 : ((t607.length : Int) != 12) = false := bne_eq_false_iff_eq.mpr c71
                clear c71
                obtain ⟨⟨t639, t640⟩, A72, H⟩ := ob H
                by_cases c73 : (t619 == t639 && (t620 == t640)) = true
                · rw [if_pos c73] at H
                  have c73b0 : (t619 == t639 && (t620 == t640)) = true := c73
                  (try (have c73b1 : decide (t619 = t639 && (t620 == t640)) = true := by simpa using c73))
                  (try (have c73b2 : (t619 == t639 && (t620 == t640)) = true := by simpa using c73))
                  clear c73
                  by_cases c74 : t627 = 6
                  · rw [if_pos c74] at H
                    have c74b0 : (t627 == 6) = true := beq_iff_eq.mpr c74
                    have c74b1 : (t627 != 6) = false := bne_eq_false_iff_eq.mpr c74
                    clear c74
                    by_cases c75 : (t629 == 1 && (t630 == 0 && (t631 == 1))) = true
                    · rw [if_pos c75] at H
                      have c75b0 : (t629 == 1 && (t630 == 0 && (t631 == 1))) = true := c75
                      (try (have c75b1 : decide (t629 = 1 && (t630 == 0 && (t631 == 1))) = true := by simpa using c75))
                      (try (have c75b2 : (t629 == 1 && (t630 == 0 && (t631 == 1))) = true := by simpa using c75))
                      clear c75
                      obtain ⟨⟨t641, t642, t643, t644⟩, A76, H⟩ := ob H
                      obtain rfl := Option.some.inj H
                      try go_wp2
                      replace HO_8 := Aside0.mk (Kd.R_drew HO_8.out)
                      replace BK582 := bd BK582
                      replace BK622 := bd BK622
                      replace BK637 := bd BK637
                      replace BK638 := bd BK638
                      replace HB := bdn HB
                      obtain ⟨Ao78, co78, eo78⟩ := Kd.R_slice HO_8.out
                      (first | subst eo78 | (injection eo78 with f1_ f2_ f3_; have f4_ := f1_.symm; have f5_ := f3_.symm; clear f1_ f2_ f3_; subst f4_; subst f5_))
                      refine start_ (n := 35) (S := fun w' => w'.cell? ⟨gb622, 0, none⟩ = some (.int .i64 t619) ∧ w'.cell? ⟨gb622, 1, none⟩ = some (.int .i64 t620) ∧ w'.cell? ⟨gb637, 0, none⟩ = some (.int .i64 t629) ∧ w'.cell? ⟨gb637, 1, none⟩ = some (.int .i64 t630) ∧ w'.cell? ⟨gb637, 2, none⟩ = some (.int .i64 t631) ∧ w'.cell? ⟨gb638, 0, none⟩ = some (.int .i64 t632) ∧ w'.cell? ⟨gb638, 1, none⟩ = some (.int .i64 t633) ∧ w'.cell? ⟨gb638, 2, none⟩ = some (.int .i64 t634) ∧ w'.cell? ⟨gb638, 3, none⟩ = some (.int .i64 t635)) (ds := []) #[false, false, false, false, false, false, false, false, false, false, false, false, false, false, false, false, false, false, false, false, false, false, false, false, false, false, false, false, false, false, false, false, false, false, false] (by kernel_rfl) rfl rfl ⟨(blk_cell BK622.out 0).trans rfl, (blk_cell BK622.out 1).trans rfl, (blk_cell BK637.out 0).trans rfl, (blk_cell BK637.out 1).trans rfl, (blk_cell BK637.out 2).trans rfl, (blk_cell BK638.out 0).trans rfl, (blk_cell BK638.out 1).trans rfl, (blk_cell BK638.out 2).trans rfl, (blk_cell BK638.out 3).trans rfl⟩ (fun hHeld => ?_); refine with_tabW torchonlaw06_awake.tab11 torchonlaw06_awake.bits11 (fun HT_ HW_ => ?_)
                      generalize wc.drew = w77 at HO_8 BK582 BK622 BK637 BK638 HB hHeld ⊢
                      refine pz 0 90 HT_ ?_
                      refine pz 1 91 HT_ ?_
                      refine pz 2 92 HT_ ?_
                      refine pz 3 93 HT_ ?_
                      refine pz 4 94 HT_ ?_
                      refine pz 5 95 HT_ ?_
                      refine pz 6 96 HT_ ?_
                      refine pz 7 97 HT_ ?_
                      refine pz 8 98 HT_ ?_
                      refine pz 9 99 HT_ ?_
                      refine pz 10 100 HT_ ?_
                      refine pz 11 101 HT_ ?_
                      refine pz 12 102 HT_ ?_
                      refine pz 13 103 HT_ ?_
                      refine pz 14 104 HT_ ?_
                      refine pz 15 105 HT_ ?_
                      refine tz 16 106 HT_ HW_ hHeld ?_
                      refine one_ (i := 17) (N := some 107) #[true, true, true, true, true, true, true, true, true, true, true, true, true, true, true, true, true, true, false, false, false, false, false, false, false, false, false, false, false, false, false, false, false, false, false] rfl rfl (one_of HT_.out (by kernel_rfl)) (by decide) (fun K hK => ?_)
                      refine gs _ Try.func19 (torchonlaw06_pt.calls 1 5 t639 t640 _ A72.out) ?_
                      rintro e w79 ⟨rfl, hb⟩
                      refine ⟨_, rfl, ?_⟩
                      have n0_ := Aside0.mk (Kd.R_below (by (with_reducible repeat (first | apply Kd.R_alloc | apply Kd.R_drewN | apply Kd.R_drew)); exact HO_8.out) hb)
                      have n1_ := bb BK582 hb
                      have n2_ := bb BK622 hb
                      have n3_ := bb BK637 hb
                      have n4_ := bb BK638 hb
                      have n5_ := bst HB hb
                      clear HO_8
                      clear BK582
                      clear BK622
                      clear BK637
                      clear BK638
                      clear HB
                      have HO_8 := n0_
                      have BK582 := n1_
                      have BK622 := n2_
                      have BK637 := n3_
                      have BK638 := n4_
                      have HB := n5_
                      clear n0_ n1_ n2_ n3_ n4_ n5_
                      (try clear hb)
                      (try clear hb2)
                      (try clear hk)
                      (try clear hi)
                      refine hK.out _ _ ⟨(blk_cell BK622.out 0).trans rfl, (blk_cell BK622.out 1).trans rfl, (blk_cell BK637.out 0).trans rfl, (blk_cell BK637.out 1).trans rfl, (blk_cell BK637.out 2).trans rfl, (blk_cell BK638.out 0).trans rfl, (blk_cell BK638.out 1).trans rfl, (blk_cell BK638.out 2).trans rfl, (blk_cell BK638.out 3).trans rfl⟩ (fun hHeld => ?_)
                      clear hK K
                      refine norm_ (a' := ?_) ?_ ?_
                      rotate_left
                      · show Act.put _ (some 107) _ = _
                        simp only [Act.put, List.setIfInBounds_toArray, List.set_cons_zero, List.set_cons_succ, i64_w, i32_w]
                        rfl
                      refine pz 18 108 HT_ ?_
                      refine pz 19 109 HT_ ?_
                      refine pz 20 110 HT_ ?_
                      refine pz 21 111 HT_ ?_
                      refine pz 22 112 HT_ ?_
                      refine pz 23 113 HT_ ?_
                      refine pz 24 114 HT_ ?_
                      refine pz 26 116 HT_ ?_
                      refine tz 25 115 HT_ HW_ hHeld ?_
                      refine pz 27 117 HT_ ?_
                      refine pz 28 118 HT_ ?_
                      refine pz 29 119 HT_ ?_
                      refine tz 30 120 HT_ HW_ hHeld ?_
                      refine one_ (i := 31) (N := some 121) #[true, true, true, true, true, true, true, true, true, true, true, true, true, true, true, true, true, true, true, true, true, true, true, true, true, true, true, true, true, true, true, true, false, false, false] rfl rfl (one_of HT_.out (by kernel_rfl)) (by decide) (fun K hK => ?_)
                      refine gs _ Try.func17 (torchonlaw06_mat.calls (-3) (-1) 2 1 t641 t642 t643 t644 _ A76.out) ?_
                      rintro e w80 ⟨rfl, hb⟩
                      refine ⟨_, rfl, ?_⟩
                      have n0_ := Aside0.mk (Kd.R_below (by (with_reducible repeat (first | apply Kd.R_alloc | apply Kd.R_drewN | apply Kd.R_drew)); exact HO_8.out) hb)
                      have n1_ := bb BK582 hb
                      have n2_ := bb BK622 hb
                      have n3_ := bb BK637 hb
                      have n4_ := bb BK638 hb
                      have n5_ := bst HB hb
                      clear HO_8
                      clear BK582
                      clear BK622
                      clear BK637
                      clear BK638
                      clear HB
                      have HO_8 := n0_
                      have BK582 := n1_
                      have BK622 := n2_
                      have BK637 := n3_
                      have BK638 := n4_
                      have HB := n5_
                      clear n0_ n1_ n2_ n3_ n4_ n5_
                      (try clear hb)
                      (try clear hb2)
                      (try clear hk)
                      (try clear hi)
                      refine hK.out _ _ ⟨(blk_cell BK622.out 0).trans rfl, (blk_cell BK622.out 1).trans rfl, (blk_cell BK637.out 0).trans rfl, (blk_cell BK637.out 1).trans rfl, (blk_cell BK637.out 2).trans rfl, (blk_cell BK638.out 0).trans rfl, (blk_cell BK638.out 1).trans rfl, (blk_cell BK638.out 2).trans rfl, (blk_cell BK638.out 3).trans rfl⟩ (fun hHeld => ?_)
                      clear hK K
                      refine norm_ (a' := ?_) ?_ ?_
                      rotate_left
                      · show Act.put _ (some 121) _ = _
                        simp only [Act.put, List.setIfInBounds_toArray, List.set_cons_zero, List.set_cons_succ, i64_w, i32_w]
                        rfl
                      refine pz 32 122 HT_ ?_
                      refine pz 33 123 HT_ ?_
                      refine pz 34 0 HT_ ?_
                      refine done_ (done_of HT_.out (by kernel_rfl)) ?_
                      try go_wp2
                      go_ret
                      exact rt HB
                    · rw [if_neg c75] at H
                      have c75b0 : (t629 == 1 && (t630 == 0 && (t631 == 1))) = false := by simpa using c75
                      (try (have c75b1 : decide (t629 = 1 && (t630 == 0 && (t631 == 1))) = false := by simpa using c75))
                      (try (have c75b2 : (t629 == 1 && (t630 == 0 && (t631 == 1))) = false := by simpa using c75))
                      (try (have c75b3 : ¬ (t629 = 1 && (t630 == 0 && (t631 == 1))) := by simpa using c75))
                      clear c75
                      exact absurd H (by simp)
                  · rw [if_neg c74] at H
                    have c74b0 : (t627 == 6) = false := beq_eq_false_iff_ne.mpr c74
                    have c74b1 : (t627 != 6) = true := bne_iff_ne.mpr c74
                    exact absurd H (by simp)
                · rw [if_neg c73] at H
                  have c73b0 : (t619 == t639 && (t620 == t640)) = false := by simpa using c73
                  (try (have c73b1 : decide (t619 = t639 && (t620 == t640)) = false := by simpa using c73))
                  (try (have c73b2 : (t619 == t639 && (t620 == t640)) = false := by simpa using c73))
                  (try (have c73b3 : ¬ (t619 = t639 && (t620 == t640)) := by simpa using c73))
                  clear c73
                  exact absurd H (by simp)
              · rw [if_neg c71] at H
                have c71b0 : ((t607.length : Int) == 12) = false := beq_eq_false_iff_ne.mpr c71
                have c71b1 : ((t607.length : Int) != 12) = true := bne_iff_ne.mpr c71
                exact absurd H (by simp)
            · rw [if_neg c70] at H
              have c70b0 : (t605 == 1) = false := beq_eq_false_iff_ne.mpr c70
              have c70b1 : (t605 != 1) = true := bne_iff_ne.mpr c70
              exact absurd H (by simp)
          · rw [if_neg c69] at H
            have c69b0 : (t595 == 1) = false := beq_eq_false_iff_ne.mpr c69
            have c69b1 : (t595 != 1) = true := bne_iff_ne.mpr c69
            exact absurd H (by simp)
        · rw [if_neg c68] at H
          have c68b0 : (t587 == 6) = false := beq_eq_false_iff_ne.mpr c68
          have c68b1 : (t587 != 6) = true := bne_iff_ne.mpr c68
          exact absurd H (by simp)
end
section
attribute [local go_sem high] eqA23 eqA25
/-! ### torchonlaw06_GridsReduces: function 3 -/
def torchonlaw06_GridsReduces.f (k : Nat) (a0_0 : Int) (a0_1 : Int) (a0_2 : Int) : Option (Bool) := (grids_Reduce.f k a0_0 a0_1 a0_2).bind fun bt646 => ((torchonref06_Reduce.f k a0_0 a0_1 a0_2).bind fun bt656 => (if (bt646.1 == bt656.1 && (bt646.2.1 == bt656.2.1 && (bt646.2.2.1 == bt656.2.2.1))) = true then (if (bt646.2.2.2.1 == bt656.2.2.2.1 && (bt646.2.2.2.2.1 == bt656.2.2.2.2.1 && (bt646.2.2.2.2.2.1 == bt656.2.2.2.2.2.1 && (bt646.2.2.2.2.2.2.1 == bt656.2.2.2.2.2.2.1)))) = true then (if bt646.2.2.2.2.2.2.2 = bt656.2.2.2.2.2.2.2 then ((torchonlaw06_awake.f k).bind fun t666 => (some t666)) else (none)) else (none)) else (none)))
theorem torchonlaw06_GridsReduces.mono : ∀ a0 a1 a2 k, LeO (torchonlaw06_GridsReduces.f k a0 a1 a2) (torchonlaw06_GridsReduces.f (k + 1) a0 a1 a2) := by
  intro a0 a1 a2 k
  unfold torchonlaw06_GridsReduces.f
  repeat' first
      | (with_reducible exact grids_Reduce.mono _ _ _ _)
      | (with_reducible exact torchonlaw06_awake.mono _)
      | (with_reducible exact torchonref06_Reduce.mono _ _ _ _)
      | (with_reducible exact LeO.refl _)
      | (with_reducible exact LeO.none _)
      | (with_reducible refine LeO.ite ?_ ?_)
      | (with_reducible refine LeO.bind ?_ (fun _ => ?_))
      | exact grids_Reduce.mono _ _ _ _
      | exact torchonlaw06_awake.mono _
      | exact torchonref06_Reduce.mono _ _ _ _
      | exact LeO.none _
      | refine LeO.ite ?_ ?_
      | refine LeO.bind ?_ (fun _ => ?_)
set_option maxHeartbeats 8000000 in
set_option maxRecDepth 100000 in
theorem torchonlaw06_GridsReduces.calls (k : Nat) (a0_0 : Int) (a0_1 : Int) (a0_2 : Int) (r : Bool) (w : World) (h : torchonlaw06_GridsReduces.f k a0_0 a0_1 a0_2 = some r) :
    Calls Try.prog 3 #[.agg #[.int .i64 a0_0, .int .i64 a0_1, .int .i64 a0_2]] w fun e w' => e = .returned (.bool r) ∧ Below w.heap.size w w' := by
  have hu23 := Try.underlying23
  have hu25 := Try.underlying25
  have HB := Aside0.mk (Below.refl w.heap.size w)
  have H : ((grids_Reduce.f k a0_0 a0_1 a0_2).bind fun bt646 => ((torchonref06_Reduce.f k a0_0 a0_1 a0_2).bind fun bt656 => (if (bt646.1 == bt656.1 && (bt646.2.1 == bt656.2.1 && (bt646.2.2.1 == bt656.2.2.1))) = true then (if (bt646.2.2.2.1 == bt656.2.2.2.1 && (bt646.2.2.2.2.1 == bt656.2.2.2.2.1 && (bt646.2.2.2.2.2.1 == bt656.2.2.2.2.2.1 && (bt646.2.2.2.2.2.2.1 == bt656.2.2.2.2.2.2.1)))) = true then (if bt646.2.2.2.2.2.2.2 = bt656.2.2.2.2.2.2.2 then ((torchonlaw06_awake.f k).bind fun t666 => (some t666)) else (none)) else (none)) else (none)))) = some r := h
  clear h
  obtain ⟨⟨t646, t647, t648, t649, t650, t651, t652, t653⟩, A2, H⟩ := ob H
  obtain ⟨⟨t656, t657, t658, t659, t660, t661, t662, t663⟩, A3, H⟩ := ob H
  by_cases c4 : (t646 == t656 && (t647 == t657 && (t648 == t658))) = true
  · rw [if_pos c4] at H
    have c4b0 : (t646 == t656 && (t647 == t657 && (t648 == t658))) = true := c4
    (try (have c4b1 : decide (t646 = t656 && (t647 == t657 && (t648 == t658))) = true := by simpa using c4))
    (try (have c4b2 : (t646 == t656 && (t647 == t657 && (t648 == t658))) = true := by simpa using c4))
    clear c4
    by_cases c5 : (t649 == t659 && (t650 == t660 && (t651 == t661 && (t652 == t662)))) = true
    · rw [if_pos c5] at H
      have c5b0 : (t649 == t659 && (t650 == t660 && (t651 == t661 && (t652 == t662)))) = true := c5
      (try (have c5b1 : decide (t649 = t659 && (t650 == t660 && (t651 == t661 && (t652 == t662)))) = true := by simpa using c5))
      (try (have c5b2 : (t649 == t659 && (t650 == t660 && (t651 == t661 && (t652 == t662)))) = true := by simpa using c5))
      clear c5
      by_cases c6 : t653 = t663
      · rw [if_pos c6] at H
        have c6b0 : (t653 == t663) = true := beq_iff_eq.mpr c6
        have c6b1 : (t653 != t663) = false := bne_eq_false_iff_eq.mpr c6
        clear c6
        obtain ⟨t666, A7, H⟩ := ob H
        obtain rfl := Option.some.inj H
        go_enter Try.func3, Try.ntmps3
        go_wp2_with (first | ((with_reducible refine gate_dst (N := 1) rfl ?_); refine bx 1 #[.int .i64 a0_0, .int .i64 a0_1, .int .i64 a0_2] 23 fun gb645 hg w8 BK645 hb => ?_; have GW645 := gw hg HB; have GE645 := gw hg HB; replace HB := bst HB hb; clear hb hg; have ⟨hcz9_0, hcz9_1, hcz9_2, hfz9_0, hfz9_1, hfz9_2⟩ := cf3 BK645) | ((with_reducible refine gate_callee (f := 11) rfl ?_); refine gl 11 Try.func11 (grids_Reduce.calls k a0_0 a0_1 a0_2 t646 t647 t648 t649 t650 t651 t652 t653 _ A2.out) ?_; rintro e w10 ⟨rfl, hb⟩; refine ⟨_, rfl, ?_⟩; replace BK645 := bb BK645 hb; replace HB := bst HB hb; clear hb) | ((with_reducible refine gate_dst (N := 3) rfl ?_); refine bx 3 #[.int .i64 0, .int .i64 0, .int .i64 0] 23 fun gb654 hg w11 BK654 hb => ?_; have GW654 := gw hg HB; have GE654 := gw hg HB; have NB645_654 := nlt hg BK645; have NB654_645 := ngt hg BK645; replace BK645 := bb BK645 hb; replace HB := bst HB hb; clear hb hg) | ((with_reducible refine gate_dst (N := 4) rfl ?_); refine bx 4 #[.int .i64 0, .int .i64 0, .int .i64 0, .int .i64 0] 25 fun gb655 hg w12 BK655 hb => ?_; have GW655 := gw hg HB; have GE655 := gw hg HB; have NB645_655 := nlt hg BK645; have NB655_645 := ngt hg BK645; have NB654_655 := nlt hg BK654; have NB655_654 := ngt hg BK654; replace BK645 := bb BK645 hb; replace BK654 := bb BK654 hb; replace HB := bst HB hb; clear hb hg; have hnb13 := NB654_645.out; have hnc13 := NB645_654.out; have hnb14 := NB654_655.out; have hnc14 := NB655_654.out; have ⟨hcz15_0, hcz15_1, hcz15_2, hfz15_0, hfz15_1, hfz15_2⟩ := cf3 BK654) | ((with_reducible refine gate_store (t := 23) (p := 3) rfl ?_); refine sx 23 3 ((((w12.setCell ⟨gb654, 0, none⟩ (.int .i64 t646)).setCell ⟨gb654, 1, none⟩ (.int .i64 t647)).setCell ⟨gb654, 2, none⟩ (.int .i64 t648))) fun w16 hw => ?_; replace BK645 := fw hw BK645; replace BK654 := pw3 hw BK654; replace BK655 := fw hw BK655; replace HB := bw hw HB; clear hw; have hnb17 := NB655_645.out; have hnc17 := NB645_655.out; have ⟨hcz18_0, hcz18_1, hcz18_2, hcz18_3, hfz18_0, hfz18_1, hfz18_2, hfz18_3⟩ := cf4 BK655) | ((with_reducible refine gate_store (t := 25) (p := 4) rfl ?_); refine sx 25 4 (((((w16.setCell ⟨gb655, 0, none⟩ (.int .i64 t649)).setCell ⟨gb655, 1, none⟩ (.int .i64 t650)).setCell ⟨gb655, 2, none⟩ (.int .i64 t651)).setCell ⟨gb655, 3, none⟩ (.int .i64 t652))) fun w19 hw => ?_; replace BK645 := fw hw BK645; replace BK654 := fw hw BK654; replace BK655 := pw4 hw BK655; replace HB := bw hw HB; clear hw; have ⟨hcz20_0, hcz20_1, hcz20_2, hfz20_0, hfz20_1, hfz20_2⟩ := cf3 BK645) | ((with_reducible refine gate_callee (f := 12) rfl ?_); refine gl 17 Try.func12 (torchonref06_Reduce.calls k a0_0 a0_1 a0_2 t656 t657 t658 t659 t660 t661 t662 t663 _ A3.out) ?_; rintro e w21 ⟨rfl, hb⟩; refine ⟨_, rfl, ?_⟩; replace BK645 := bb BK645 hb; replace BK654 := bb BK654 hb; replace BK655 := bb BK655 hb; replace HB := bst HB hb; clear hb) | ((with_reducible refine gate_dst (N := 6) rfl ?_); refine bx 6 #[.int .i64 0, .int .i64 0, .int .i64 0] 23 fun gb664 hg w22 BK664 hb => ?_; have GW664 := gw hg HB; have GE664 := gw hg HB; have NB645_664 := nlt hg BK645; have NB664_645 := ngt hg BK645; have NB654_664 := nlt hg BK654; have NB664_654 := ngt hg BK654; have NB655_664 := nlt hg BK655; have NB664_655 := ngt hg BK655; replace BK645 := bb BK645 hb; replace BK654 := bb BK654 hb; replace BK655 := bb BK655 hb; replace HB := bst HB hb; clear hb hg) | ((with_reducible refine gate_dst (N := 7) rfl ?_); refine bx 7 #[.int .i64 0, .int .i64 0, .int .i64 0, .int .i64 0] 25 fun gb665 hg w23 BK665 hb => ?_; have GW665 := gw hg HB; have GE665 := gw hg HB; have NB645_665 := nlt hg BK645; have NB665_645 := ngt hg BK645; have NB654_665 := nlt hg BK654; have NB665_654 := ngt hg BK654; have NB655_665 := nlt hg BK655; have NB665_655 := ngt hg BK655; have NB664_665 := nlt hg BK664; have NB665_664 := ngt hg BK664; replace BK645 := bb BK645 hb; replace BK654 := bb BK654 hb; replace BK655 := bb BK655 hb; replace BK664 := bb BK664 hb; replace HB := bst HB hb; clear hb hg; have hnb24 := NB664_645.out; have hnc24 := NB645_664.out; have hnb25 := NB664_654.out; have hnc25 := NB654_664.out; have hnb26 := NB664_655.out; have hnc26 := NB655_664.out; have hnb27 := NB664_665.out; have hnc27 := NB665_664.out; have ⟨hcz28_0, hcz28_1, hcz28_2, hfz28_0, hfz28_1, hfz28_2⟩ := cf3 BK664) | ((with_reducible refine gate_store (t := 23) (p := 6) rfl ?_); refine sx 23 6 ((((w23.setCell ⟨gb664, 0, none⟩ (.int .i64 t656)).setCell ⟨gb664, 1, none⟩ (.int .i64 t657)).setCell ⟨gb664, 2, none⟩ (.int .i64 t658))) fun w29 hw => ?_; replace BK645 := fw hw BK645; replace BK654 := fw hw BK654; replace BK655 := fw hw BK655; replace BK664 := pw3 hw BK664; replace BK665 := fw hw BK665; replace HB := bw hw HB; clear hw; have hnb30 := NB665_645.out; have hnc30 := NB645_665.out; have hnb31 := NB665_654.out; have hnc31 := NB654_665.out; have hnb32 := NB665_655.out; have hnc32 := NB655_665.out; have ⟨hcz33_0, hcz33_1, hcz33_2, hcz33_3, hfz33_0, hfz33_1, hfz33_2, hfz33_3⟩ := cf4 BK665) | ((with_reducible refine gate_store (t := 25) (p := 7) rfl ?_); refine sx 25 7 (((((w29.setCell ⟨gb665, 0, none⟩ (.int .i64 t659)).setCell ⟨gb665, 1, none⟩ (.int .i64 t660)).setCell ⟨gb665, 2, none⟩ (.int .i64 t661)).setCell ⟨gb665, 3, none⟩ (.int .i64 t662))) fun w34 hw => ?_; replace BK645 := fw hw BK645; replace BK654 := fw hw BK654; replace BK655 := fw hw BK655; replace BK664 := fw hw BK664; replace BK665 := pw4 hw BK665; replace HB := bw hw HB; clear hw; have ⟨hcz35_0, hcz35_1, hcz35_2, hfz35_0, hfz35_1, hfz35_2⟩ := cf3 BK654; have ⟨hcz36_0, hcz36_1, hcz36_2, hfz36_0, hfz36_1, hfz36_2⟩ := cf3 BK664; have ⟨hcz37_0, hcz37_1, hcz37_2, hcz37_3, hfz37_0, hfz37_1, hfz37_2, hfz37_3⟩ := cf4 BK655; have ⟨hcz38_0, hcz38_1, hcz38_2, hcz38_3, hfz38_0, hfz38_1, hfz38_2, hfz38_3⟩ := cf4 BK665) | (go_at_call 13; (with_reducible refine (torchonlaw06_awake.calls k  t666 _ A7.out).mono ?_); rintro e w39 ⟨rfl, hb⟩; replace BK645 := bb BK645 hb; replace BK654 := bb BK654 hb; replace BK655 := bb BK655 hb; replace BK664 := bb BK664 hb; replace BK665 := bb BK665 hb; replace HB := bst HB hb; clear hb))
        go_ret
        exact rt HB
      · rw [if_neg c6] at H
        exact absurd H (by simp)
    · rw [if_neg c5] at H
      exact absurd H (by simp)
  · rw [if_neg c4] at H
    exact absurd H (by simp)
end
section
/-! ### torchonref06_Matrix: function 15 -/
def torchonref06_Matrix.f (a0_0 : Int) (a0_1 : Int) (a0_2 : Int) (a0_3 : Int) : Option (Bool) := (torchonref06_from.f a0_0 (-10000) 10000).bind fun t668 => (if t668 = true then ((torchonref06_from.f a0_1 (-10000) 10000).bind fun t669 => (if t669 = true then ((torchonref06_from.f a0_2 (-10000) 10000).bind fun t670 => (if t670 = true then ((torchonref06_from.f a0_3 (-10000) 10000).bind fun t671 => (some t671)) else (some false))) else (some false))) else (some false))
set_option maxHeartbeats 8000000 in
set_option maxRecDepth 100000 in
theorem torchonref06_Matrix.calls (a0_0 : Int) (a0_1 : Int) (a0_2 : Int) (a0_3 : Int) (r : Bool) (w : World) (h : torchonref06_Matrix.f a0_0 a0_1 a0_2 a0_3 = some r) :
    Calls Try.prog 15 #[.agg #[.int .i64 a0_0, .int .i64 a0_1, .int .i64 a0_2, .int .i64 a0_3]] w fun e w' => e = .returned (.bool r) ∧ Below w.heap.size w w' := by
  have hu25 := Try.underlying25
  have HB := Aside0.mk (Below.refl w.heap.size w)
  have H : ((torchonref06_from.f a0_0 (-10000) 10000).bind fun t668 => (if t668 = true then ((torchonref06_from.f a0_1 (-10000) 10000).bind fun t669 => (if t669 = true then ((torchonref06_from.f a0_2 (-10000) 10000).bind fun t670 => (if t670 = true then ((torchonref06_from.f a0_3 (-10000) 10000).bind fun t671 => (some t671)) else (some false))) else (some false))) else (some false))) = some r := h
  clear h
  obtain ⟨t668, A2, H⟩ := ob H
  by_cases c3 : t668 = true
  · subst c3
    have H1 : ((torchonref06_from.f a0_1 (-10000) 10000).bind fun t669 => (if t669 = true then ((torchonref06_from.f a0_2 (-10000) 10000).bind fun t670 => (if t670 = true then ((torchonref06_from.f a0_3 (-10000) 10000).bind fun t671 => (some t671)) else (some false))) else (some false))) = some r := by rw [if_pos rfl] at H; exact H
    clear H
    have H := H1
    clear H1
    obtain ⟨t669, A4, H⟩ := ob H
    by_cases c5 : t669 = true
    · subst c5
      have H1 : ((torchonref06_from.f a0_2 (-10000) 10000).bind fun t670 => (if t670 = true then ((torchonref06_from.f a0_3 (-10000) 10000).bind fun t671 => (some t671)) else (some false))) = some r := by rw [if_pos rfl] at H; exact H
      clear H
      have H := H1
      clear H1
      obtain ⟨t670, A6, H⟩ := ob H
      by_cases c7 : t670 = true
      · subst c7
        have H1 : ((torchonref06_from.f a0_3 (-10000) 10000).bind fun t671 => (some t671)) = some r := by rw [if_pos rfl] at H; exact H
        clear H
        have H := H1
        clear H1
        obtain ⟨t671, A8, H⟩ := ob H
        obtain rfl := Option.some.inj H
        go_enter Try.func15, Try.ntmps15
        go_wp2_with (first | ((with_reducible refine gate_dst (N := 1) rfl ?_); refine bx 1 #[.int .i64 a0_0, .int .i64 a0_1, .int .i64 a0_2, .int .i64 a0_3] 25 fun gb667 hg w9 BK667 hb => ?_; have GW667 := gw hg HB; have GE667 := gw hg HB; replace HB := bst HB hb; clear hb hg; have ⟨hcz10_0, hcz10_1, hcz10_2, hcz10_3, hfz10_0, hfz10_1, hfz10_2, hfz10_3⟩ := cf4 BK667) | ((with_reducible refine gate_callee (f := 47) rfl ?_); refine goesL_ (some 5) rfl rfl Try.func47 (by kernel_rfl) rfl #[.int .i64 a0_0, .int .i64 (-10000), .int .i64 10000] rfl am ?_; (with_reducible refine (torchonref06_from.calls a0_0 (-10000) 10000 true _ A2.out).mono ?_); rintro e w' ⟨rfl, ⟨nd, rfl⟩⟩; refine ⟨_, rfl, ?_⟩) | (go_at_call 47; (with_reducible refine (torchonref06_from.calls a0_1 (-10000) 10000 true _ A4.out).mono ?_); rintro e w' ⟨rfl, ⟨nd, rfl⟩⟩) | (go_at_call 47; (with_reducible refine (torchonref06_from.calls a0_2 (-10000) 10000 true _ A6.out).mono ?_); rintro e w' ⟨rfl, ⟨nd, rfl⟩⟩) | (go_at_call 47; (with_reducible refine (torchonref06_from.calls a0_3 (-10000) 10000 t671 _ A8.out).mono ?_); rintro e w' ⟨rfl, ⟨nd, rfl⟩⟩))
        go_ret
        exact rt HB
      · replace c7 := Bool.eq_false_iff.mpr c7
        subst c7
        have H1 : (some false) = some r := by rw [if_neg (show ¬ (false = true) by decide)] at H; exact H
        clear H
        have H := H1
        clear H1
        obtain rfl := Option.some.inj H
        go_enter Try.func15, Try.ntmps15
        go_wp2_with (first | ((with_reducible refine gate_dst (N := 1) rfl ?_); refine bx 1 #[.int .i64 a0_0, .int .i64 a0_1, .int .i64 a0_2, .int .i64 a0_3] 25 fun gb667 hg w11 BK667 hb => ?_; have GW667 := gw hg HB; have GE667 := gw hg HB; replace HB := bst HB hb; clear hb hg; have ⟨hcz12_0, hcz12_1, hcz12_2, hcz12_3, hfz12_0, hfz12_1, hfz12_2, hfz12_3⟩ := cf4 BK667) | ((with_reducible refine gate_callee (f := 47) rfl ?_); refine goesL_ (some 5) rfl rfl Try.func47 (by kernel_rfl) rfl #[.int .i64 a0_0, .int .i64 (-10000), .int .i64 10000] rfl am ?_; (with_reducible refine (torchonref06_from.calls a0_0 (-10000) 10000 true _ A2.out).mono ?_); rintro e w' ⟨rfl, ⟨nd, rfl⟩⟩; refine ⟨_, rfl, ?_⟩) | (go_at_call 47; (with_reducible refine (torchonref06_from.calls a0_1 (-10000) 10000 true _ A4.out).mono ?_); rintro e w' ⟨rfl, ⟨nd, rfl⟩⟩) | (go_at_call 47; (with_reducible refine (torchonref06_from.calls a0_2 (-10000) 10000 false _ A6.out).mono ?_); rintro e w' ⟨rfl, ⟨nd, rfl⟩⟩))
        go_ret
        exact rt HB
    · replace c5 := Bool.eq_false_iff.mpr c5
      subst c5
      have H1 : (some false) = some r := by rw [if_neg (show ¬ (false = true) by decide)] at H; exact H
      clear H
      have H := H1
      clear H1
      obtain rfl := Option.some.inj H
      go_enter Try.func15, Try.ntmps15
      go_wp2_with (first | ((with_reducible refine gate_dst (N := 1) rfl ?_); refine bx 1 #[.int .i64 a0_0, .int .i64 a0_1, .int .i64 a0_2, .int .i64 a0_3] 25 fun gb667 hg w13 BK667 hb => ?_; have GW667 := gw hg HB; have GE667 := gw hg HB; replace HB := bst HB hb; clear hb hg; have ⟨hcz14_0, hcz14_1, hcz14_2, hcz14_3, hfz14_0, hfz14_1, hfz14_2, hfz14_3⟩ := cf4 BK667) | ((with_reducible refine gate_callee (f := 47) rfl ?_); refine goesL_ (some 5) rfl rfl Try.func47 (by kernel_rfl) rfl #[.int .i64 a0_0, .int .i64 (-10000), .int .i64 10000] rfl am ?_; (with_reducible refine (torchonref06_from.calls a0_0 (-10000) 10000 true _ A2.out).mono ?_); rintro e w' ⟨rfl, ⟨nd, rfl⟩⟩; refine ⟨_, rfl, ?_⟩) | (go_at_call 47; (with_reducible refine (torchonref06_from.calls a0_1 (-10000) 10000 false _ A4.out).mono ?_); rintro e w' ⟨rfl, ⟨nd, rfl⟩⟩))
      go_ret
      exact rt HB
  · replace c3 := Bool.eq_false_iff.mpr c3
    subst c3
    have H1 : (some false) = some r := by rw [if_neg (show ¬ (false = true) by decide)] at H; exact H
    clear H
    have H := H1
    clear H1
    obtain rfl := Option.some.inj H
    go_enter Try.func15, Try.ntmps15
    go_wp2_with (first | ((with_reducible refine gate_dst (N := 1) rfl ?_); refine bx 1 #[.int .i64 a0_0, .int .i64 a0_1, .int .i64 a0_2, .int .i64 a0_3] 25 fun gb667 hg w15 BK667 hb => ?_; have GW667 := gw hg HB; have GE667 := gw hg HB; replace HB := bst HB hb; clear hb hg; have ⟨hcz16_0, hcz16_1, hcz16_2, hcz16_3, hfz16_0, hfz16_1, hfz16_2, hfz16_3⟩ := cf4 BK667) | ((with_reducible refine gate_callee (f := 47) rfl ?_); refine goesL_ (some 5) rfl rfl Try.func47 (by kernel_rfl) rfl #[.int .i64 a0_0, .int .i64 (-10000), .int .i64 10000] rfl am ?_; (with_reducible refine (torchonref06_from.calls a0_0 (-10000) 10000 false _ A2.out).mono ?_); rintro e w' ⟨rfl, ⟨nd, rfl⟩⟩; refine ⟨_, rfl, ?_⟩))
    go_ret
    exact rt HB
end
section
/-! ### torchonlaw06_lead: function 16 -/
def torchonlaw06_lead.f (a0_0 : Int) (a0_1 : Int) (a0_2 : Int) (a1_0 : Int) (a1_1 : Int) (a1_2 : Int) (a1_3 : Int) : Option (Int × Int × Int) := (torchonlaw06_pt.f a1_0 a1_2).bind fun bt675 => ((torchonlaw06_pt.f a1_1 a1_3).bind fun bt677 => ((torchonref06_Product.f a0_0 a0_1 a0_2 bt675.1 bt675.2 bt675.1 bt675.2).bind fun t681 => ((torchonref06_Product.f a0_0 a0_1 a0_2 bt675.1 bt675.2 bt677.1 bt677.2).bind fun t682 => ((torchonref06_Product.f a0_0 a0_1 a0_2 bt677.1 bt677.2 bt677.1 bt677.2).bind fun t683 => (some (t681, t682, t683))))))
def torchonlaw06_lead.T1 : Bool × List (List Nat × List Nat) := (true, [([], []), ([0], [0]), ([], []), ([2], [2]), ([1, 3], [1, 3]), ([], []), ([5], [5]), ([], []), ([7], [7]), ([6, 8, 4], [6, 8]), ([], []), ([], []), ([10, 4, 9, 0, 1, 2, 3, 4, 10, 11], [4, 10]), ([11, 9, 12, 0, 1, 2, 3, 4, 5, 6, 7, 8, 9, 10, 11, 12], [9, 11])])
def torchonlaw06_lead.B1 : List Nat := [0, 1, 0, 4, 15, 0, 32, 0, 128, 511, 0, 0, 4095, 8191]
theorem torchonlaw06_lead.tab1 : rtab .any (opsOf Try.f16 1) = torchonlaw06_lead.T1 := by kernel_rfl
theorem torchonlaw06_lead.bits1 : waitsOk torchonlaw06_lead.T1.2 torchonlaw06_lead.B1 = true := by kernel_rfl
def torchonlaw06_lead.T2 : Bool × List (List Nat × List Nat) := (true, [([], []), ([], []), ([], []), ([0, 1, 2], [0, 1, 2]), ([], []), ([], []), ([], []), ([4, 5, 6, 3], [4, 5, 6]), ([], []), ([], []), ([], []), ([8, 9, 10, 7], [8, 9, 10]), ([3, 7, 11], [3, 7, 11]), ([12, 11, 0, 1, 2, 3, 4, 5, 6, 7, 8, 9, 10, 11, 12], [12])])
def torchonlaw06_lead.B2 : List Nat := [0, 0, 0, 7, 0, 0, 0, 127, 0, 0, 0, 2047, 4095, 8191]
theorem torchonlaw06_lead.tab2 : rtab .any (opsOf Try.f16 2) = torchonlaw06_lead.T2 := by kernel_rfl
theorem torchonlaw06_lead.bits2 : waitsOk torchonlaw06_lead.T2.2 torchonlaw06_lead.B2 = true := by kernel_rfl
set_option maxHeartbeats 8000000 in
set_option maxRecDepth 100000 in
theorem torchonlaw06_lead.calls (a0_0 : Int) (a0_1 : Int) (a0_2 : Int) (a1_0 : Int) (a1_1 : Int) (a1_2 : Int) (a1_3 : Int) (r1 : Int) (r2 : Int) (r3 : Int) (w : World) (h : torchonlaw06_lead.f a0_0 a0_1 a0_2 a1_0 a1_1 a1_2 a1_3 = some (r1, r2, r3)) :
    Calls Try.prog 16 #[.agg #[.int .i64 a0_0, .int .i64 a0_1, .int .i64 a0_2], .agg #[.int .i64 a1_0, .int .i64 a1_1, .int .i64 a1_2, .int .i64 a1_3]] w fun e w' => e = .returned (.agg #[.int .i64 r1, .int .i64 r2, .int .i64 r3]) ∧ Below w.heap.size w w' := by
  have hu23 := Try.underlying23
  have hu25 := Try.underlying25
  have hu37 := Try.underlying37
  have HB := Aside0.mk (Below.refl w.heap.size w)
  have H : ((torchonlaw06_pt.f a1_0 a1_2).bind fun bt675 => ((torchonlaw06_pt.f a1_1 a1_3).bind fun bt677 => ((torchonref06_Product.f a0_0 a0_1 a0_2 bt675.1 bt675.2 bt675.1 bt675.2).bind fun t681 => ((torchonref06_Product.f a0_0 a0_1 a0_2 bt675.1 bt675.2 bt677.1 bt677.2).bind fun t682 => ((torchonref06_Product.f a0_0 a0_1 a0_2 bt677.1 bt677.2 bt677.1 bt677.2).bind fun t683 => (some (t681, t682, t683))))))) = some (r1, r2, r3) := h
  clear h
  obtain ⟨⟨t675, t676⟩, A3, H⟩ := ob H
  obtain ⟨⟨t677, t678⟩, A4, H⟩ := ob H
  obtain ⟨t681, A5, H⟩ := ob H
  obtain ⟨t682, A6, H⟩ := ob H
  obtain ⟨t683, A7, H⟩ := ob H
  simp only [Option.some.injEq, Prod.mk.injEq] at H
  obtain ⟨rfl, rfl, rfl⟩ := H
  go_enter Try.func16, Try.ntmps16
  try go_wp2_with (first | ((with_reducible refine gate_dst (N := 2) rfl ?_); refine bx 2 #[.int .i64 a0_0, .int .i64 a0_1, .int .i64 a0_2] 23 fun gb672 hg w8 BK672 hb => ?_; have GW672 := gw hg HB; have GE672 := gw hg HB; replace HB := bst HB hb; clear hb hg) | ((with_reducible refine gate_dst (N := 3) rfl ?_); refine bx 3 #[.int .i64 a1_0, .int .i64 a1_1, .int .i64 a1_2, .int .i64 a1_3] 25 fun gb673 hg w9 BK673 hb => ?_; have GW673 := gw hg HB; have GE673 := gw hg HB; have NB672_673 := nlt hg BK672; have NB673_672 := ngt hg BK672; replace BK672 := bb BK672 hb; replace HB := bst HB hb; clear hb hg) | ((with_reducible refine gate_dst (N := 4) rfl ?_); refine bx 4 #[.int .i64 0, .int .i64 0, .int .i64 0] 23 fun gb674 hg w10 BK674 hb => ?_; have GW674 := gw hg HB; have GE674 := gw hg HB; have NB672_674 := nlt hg BK672; have NB674_672 := ngt hg BK672; have NB673_674 := nlt hg BK673; have NB674_673 := ngt hg BK673; replace BK672 := bb BK672 hb; replace BK673 := bb BK673 hb; replace HB := bst HB hb; clear hb hg))
  replace BK672 := bd BK672
  replace BK673 := bd BK673
  replace BK674 := bd BK674
  replace HB := bdn HB
  refine start_ (n := 14) (S := fun w' => True) (ds := []) #[false, false, false, false, false, false, false, false, false, false, false, false, false, false] (by kernel_rfl) rfl rfl trivial (fun hHeld => ?_); refine with_tabW torchonlaw06_lead.tab1 torchonlaw06_lead.bits1 (fun HT_ HW_ => ?_)
  generalize w10.drew = w11 at BK672 BK673 BK674 HB hHeld ⊢
  refine pz 0 7 HT_ ?_
  refine pz 2 9 HT_ ?_
  refine pz 5 12 HT_ ?_
  refine pz 7 14 HT_ ?_
  refine inv_at [1, 3, 4, 6, 8, 9, 10, 11, 12, 13] (fun a0_ b a w' => ∃ (gb679 : Nat) (gb680 : Nat) (m10_ : Value) (m11_ : Value), a = putSel a0_ b [(1, 8, .int .i64 a1_0), (3, 10, .int .i64 a1_2), (4, 11, .agg #[.int .i64 t675, .int .i64 t676]), (6, 13, .int .i64 a1_1), (8, 15, .int .i64 a1_3), (9, 16, .agg #[.int .i64 t677, .int .i64 t678]), (10, 5, m10_), (11, 6, m11_)] ∧ (w'.heap[gb672]? = some (.cells #[.int .i64 a0_0, .int .i64 a0_1, .int .i64 a0_2] 23 (0, 0))) ∧ (w'.heap[gb673]? = some (.cells #[.int .i64 a1_0, .int .i64 a1_1, .int .i64 a1_2, .int .i64 a1_3] 25 (0, 0))) ∧ (w'.heap[gb674]? = some (.cells #[.int .i64 0, .int .i64 0, .int .i64 0] 23 (0, 0))) ∧ (Below w.heap.size w w') ∧ (b 10 = true → b 11 = true → gb680 ≠ gb679) ∧ (b 10 = true → b 11 = true → gb679 ≠ gb680) ∧ (b 10 = true → b 12 = false → w'.heap[gb679]? = some (.cells #[.int .i64 0, .int .i64 0] 37 (0, 0))) ∧ (b 10 = true → w.heap.size ≤ gb679) ∧ (b 10 = true → w.heap.size ≤ gb679) ∧ (b 10 = true → gb672 ≠ gb679) ∧ (b 10 = true → gb679 ≠ gb672) ∧ (b 10 = true → gb673 ≠ gb679) ∧ (b 10 = true → gb679 ≠ gb673) ∧ (b 10 = true → gb674 ≠ gb679) ∧ (b 10 = true → gb679 ≠ gb674) ∧ (b 11 = true → b 13 = false → w'.heap[gb680]? = some (.cells #[.int .i64 0, .int .i64 0] 37 (0, 0))) ∧ (b 11 = true → w.heap.size ≤ gb680) ∧ (b 11 = true → w.heap.size ≤ gb680) ∧ (b 11 = true → gb672 ≠ gb680) ∧ (b 11 = true → gb680 ≠ gb672) ∧ (b 11 = true → gb673 ≠ gb680) ∧ (b 11 = true → gb680 ≠ gb673) ∧ (b 11 = true → gb674 ≠ gb680) ∧ (b 11 = true → gb680 ≠ gb674) ∧ (b 12 = true → w'.heap[gb679]? = some (.cells #[.int .i64 t675, .int .i64 t676] 37 (0, 0))) ∧ (b 13 = true → w'.heap[gb680]? = some (.cells #[.int .i64 t677, .int .i64 t678] 37 (0, 0))) ∧ (b 10 = true → (m10_ : Value) = .pointer (some ⟨gb679, 0, none⟩)) ∧ (b 11 = true → (m11_ : Value) = .pointer (some ⟨gb680, 0, none⟩))) HT_.out HW_.out (by kernel_rfl) (by kernel_rfl) ?_ ?_ ?_
  · exact ⟨0, 0, .bool false, .bool false, by simp only [putSel, Bool.false_eq_true, if_false], BK672.out, BK673.out, BK674.out, HB.out, fun h_ => absurd h_ (by decide), fun h_ => absurd h_ (by decide), fun h_ => absurd h_ (by decide), fun h_ => absurd h_ (by decide), fun h_ => absurd h_ (by decide), fun h_ => absurd h_ (by decide), fun h_ => absurd h_ (by decide), fun h_ => absurd h_ (by decide), fun h_ => absurd h_ (by decide), fun h_ => absurd h_ (by decide), fun h_ => absurd h_ (by decide), fun h_ => absurd h_ (by decide), fun h_ => absurd h_ (by decide), fun h_ => absurd h_ (by decide), fun h_ => absurd h_ (by decide), fun h_ => absurd h_ (by decide), fun h_ => absurd h_ (by decide), fun h_ => absurd h_ (by decide), fun h_ => absurd h_ (by decide), fun h_ => absurd h_ (by decide), fun h_ => absurd h_ (by decide), fun h_ => absurd h_ (by decide), fun h_ => absurd h_ (by decide), fun h_ => absurd h_ (by decide)⟩
  · skip
    clear BK672 BK673 BK674 HB
    refine steps_cons ?_ ?_
    · rintro b a w' ⟨gb679, gb680, m10_, m11_, ha, Q_BK672, Q_BK673, Q_BK674, Q_HB, Q_NB680_679, Q_NB679_680, Q_BK679, Q_GW679, Q_GE679, Q_NB672_679, Q_NB679_672, Q_NB673_679, Q_NB679_673, Q_NB674_679, Q_NB679_674, Q_BK680, Q_GW680, Q_GE680, Q_NB672_680, Q_NB680_672, Q_NB673_680, Q_NB680_673, Q_NB674_680, Q_NB680_674, Q_BK679_e12, Q_BK680_e13, Q_X10_, Q_X11_⟩ hb_ hon hoff
      refine ⟨_, rfl, fun K hK => ?_⟩
      have e7 : a.tmps[7]? = some (.pointer (some ⟨gb673, 0, none⟩)) := by rw [ha]; exact (putSel_off rfl).trans rfl
      replace ha := Aside0.mk ha
      have BK672 := Aside0.mk Q_BK672
      have BK673 := Aside0.mk Q_BK673
      have BK674 := Aside0.mk Q_BK674
      have HB := Aside0.mk Q_HB
      have hc0_ : w'.cell? ⟨gb673, 0, none⟩ = some (.int .i64 a1_0) := (blk_cell BK673.out 0).trans rfl
      have hc1_ : w'.cell? ⟨gb673, 1, none⟩ = some (.int .i64 a1_1) := (blk_cell BK673.out 1).trans rfl
      have hc2_ : w'.cell? ⟨gb673, 2, none⟩ = some (.int .i64 a1_2) := (blk_cell BK673.out 2).trans rfl
      have hc3_ : w'.cell? ⟨gb673, 3, none⟩ = some (.int .i64 a1_3) := (blk_cell BK673.out 3).trans rfl
      refine value_ (w1 := w') (v := .int .i64 a1_0) (by rfl) rfl ?_ ?_
      · go_simp
        (try simp only [i64_w])
        try rfl
      refine hK.out _ _ ⟨gb679, gb680, m10_, m11_, (by rw [ha.out]; exact putSel_upk 0 hb_ rfl rfl rfl), Q_BK672, Q_BK673, Q_BK674, Q_HB, Q_NB680_679, Q_NB679_680, Q_BK679, Q_GW679, Q_GE679, Q_NB672_679, Q_NB679_672, Q_NB673_679, Q_NB679_673, Q_NB674_679, Q_NB679_674, Q_BK680, Q_GW680, Q_GE680, Q_NB672_680, Q_NB680_672, Q_NB673_680, Q_NB680_673, Q_NB674_680, Q_NB680_674, fun h0_ => absurd ((hoff 12 (by kernel_rfl)).symm.trans h0_) (by decide), fun h0_ => absurd ((hoff 13 (by kernel_rfl)).symm.trans h0_) (by decide), Q_X10_, Q_X11_⟩
    refine steps_cons ?_ ?_
    · rintro b a w' ⟨gb679, gb680, m10_, m11_, ha, Q_BK672, Q_BK673, Q_BK674, Q_HB, Q_NB680_679, Q_NB679_680, Q_BK679, Q_GW679, Q_GE679, Q_NB672_679, Q_NB679_672, Q_NB673_679, Q_NB679_673, Q_NB674_679, Q_NB679_674, Q_BK680, Q_GW680, Q_GE680, Q_NB672_680, Q_NB680_672, Q_NB673_680, Q_NB680_673, Q_NB674_680, Q_NB680_674, Q_BK679_e12, Q_BK680_e13, Q_X10_, Q_X11_⟩ hb_ hon hoff
      refine ⟨_, rfl, fun K hK => ?_⟩
      have e9 : a.tmps[9]? = some (.pointer (some ⟨gb673, 2, none⟩)) := by rw [ha]; exact (putSel_off rfl).trans rfl
      replace ha := Aside0.mk ha
      have BK672 := Aside0.mk Q_BK672
      have BK673 := Aside0.mk Q_BK673
      have BK674 := Aside0.mk Q_BK674
      have HB := Aside0.mk Q_HB
      have hc0_ : w'.cell? ⟨gb673, 0, none⟩ = some (.int .i64 a1_0) := (blk_cell BK673.out 0).trans rfl
      have hc1_ : w'.cell? ⟨gb673, 1, none⟩ = some (.int .i64 a1_1) := (blk_cell BK673.out 1).trans rfl
      have hc2_ : w'.cell? ⟨gb673, 2, none⟩ = some (.int .i64 a1_2) := (blk_cell BK673.out 2).trans rfl
      have hc3_ : w'.cell? ⟨gb673, 3, none⟩ = some (.int .i64 a1_3) := (blk_cell BK673.out 3).trans rfl
      refine value_ (w1 := w') (v := .int .i64 a1_2) (by rfl) rfl ?_ ?_
      · go_simp
        (try simp only [i64_w])
        try rfl
      refine hK.out _ _ ⟨gb679, gb680, m10_, m11_, (by rw [ha.out]; exact putSel_upk 1 hb_ rfl rfl rfl), Q_BK672, Q_BK673, Q_BK674, Q_HB, Q_NB680_679, Q_NB679_680, Q_BK679, Q_GW679, Q_GE679, Q_NB672_679, Q_NB679_672, Q_NB673_679, Q_NB679_673, Q_NB674_679, Q_NB679_674, Q_BK680, Q_GW680, Q_GE680, Q_NB672_680, Q_NB680_672, Q_NB673_680, Q_NB680_673, Q_NB674_680, Q_NB680_674, fun h0_ => absurd ((hoff 12 (by kernel_rfl)).symm.trans h0_) (by decide), fun h0_ => absurd ((hoff 13 (by kernel_rfl)).symm.trans h0_) (by decide), Q_X10_, Q_X11_⟩
    refine steps_cons ?_ ?_
    · rintro b a w' ⟨gb679, gb680, m10_, m11_, ha, Q_BK672, Q_BK673, Q_BK674, Q_HB, Q_NB680_679, Q_NB679_680, Q_BK679, Q_GW679, Q_GE679, Q_NB672_679, Q_NB679_672, Q_NB673_679, Q_NB679_673, Q_NB674_679, Q_NB679_674, Q_BK680, Q_GW680, Q_GE680, Q_NB672_680, Q_NB680_672, Q_NB673_680, Q_NB680_673, Q_NB674_680, Q_NB680_674, Q_BK679_e12, Q_BK680_e13, Q_X10_, Q_X11_⟩ hb_ hon hoff
      refine ⟨_, rfl, fun K hK => ?_⟩
      have e8 : a.tmps[8]? = some (.int .i64 a1_0) := by rw [ha]; exact putSel_on (e := (1, 8, .int .i64 a1_0)) 0 rfl rfl (hon 1 (by kernel_rfl)) rfl
      have e10 : a.tmps[10]? = some (.int .i64 a1_2) := by rw [ha]; exact putSel_on (e := (3, 10, .int .i64 a1_2)) 1 rfl rfl (hon 3 (by kernel_rfl)) rfl
      replace ha := Aside0.mk ha
      have BK672 := Aside0.mk Q_BK672
      have BK673 := Aside0.mk Q_BK673
      have BK674 := Aside0.mk Q_BK674
      have HB := Aside0.mk Q_HB
      refine goes_ Try.func19 (by kernel_rfl) rfl #[.int .i64 a1_0, .int .i64 a1_2] (by rfl) rfl rfl (by first | (simp only [List.map_toArray, List.map_cons, List.map_nil, Act.eval, Array.getD_eq_getD_getElem?, Option.getD_some, e8, e10]; done) | (simp only [List.map_toArray, List.map_cons, List.map_nil, Act.eval, Array.getD_eq_getD_getElem?, Option.getD_some, e8, e10]; rfl)) ?_
      with_reducible refine (torchonlaw06_pt.calls a1_0 a1_2 t675 t676 _ A3.out).mono ?_
      rintro e w12 ⟨rfl, hb⟩
      refine ⟨_, rfl, ?_⟩
      have n0_ := bb BK672 hb
      have n1_ := bb BK673 hb
      have n2_ := bb BK674 hb
      have n3_ := bst HB hb
      have z_BK679 := fun (h0_ : b 10 = true) (h1_ : b 12 = false) => (show w12.heap[gb679]? = some (.cells #[.int .i64 0, .int .i64 0] 37 (0, 0)) from by first | exact (blk_below (g := gb679) (o := .cells #[.int .i64 0, .int .i64 0] 37 (0, 0)) (by (with_reducible repeat (first | refine blk_drewN ?_ _ | refine blk_drew ?_ | refine blk_alloc ?_ _)); exact (Q_BK679 h0_ h1_)) hb))
      have z_BK680 := fun (h0_ : b 11 = true) (h1_ : b 13 = false) => (show w12.heap[gb680]? = some (.cells #[.int .i64 0, .int .i64 0] 37 (0, 0)) from by first | exact (blk_below (g := gb680) (o := .cells #[.int .i64 0, .int .i64 0] 37 (0, 0)) (by (with_reducible repeat (first | refine blk_drewN ?_ _ | refine blk_drew ?_ | refine blk_alloc ?_ _)); exact (Q_BK680 h0_ h1_)) hb))
      clear BK672
      clear BK673
      clear BK674
      clear HB
      have BK672 := n0_
      have BK673 := n1_
      have BK674 := n2_
      have HB := n3_
      clear n0_ n1_ n2_ n3_
      (try clear hb)
      (try clear hb2)
      (try clear hk)
      (try clear hi)
      refine hK.out _ _ ⟨gb679, gb680, m10_, m11_, (by rw [ha.out]; exact putSel_upk 2 hb_ rfl rfl rfl), (pk BK672), (pk BK673), (pk BK674), (bnow HB), Q_NB680_679, Q_NB679_680, z_BK679, Q_GW679, Q_GE679, Q_NB672_679, Q_NB679_672, Q_NB673_679, Q_NB679_673, Q_NB674_679, Q_NB679_674, z_BK680, Q_GW680, Q_GE680, Q_NB672_680, Q_NB680_672, Q_NB673_680, Q_NB680_673, Q_NB674_680, Q_NB680_674, fun h0_ => absurd ((hoff 12 (by kernel_rfl)).symm.trans h0_) (by decide), fun h0_ => absurd ((hoff 13 (by kernel_rfl)).symm.trans h0_) (by decide), Q_X10_, Q_X11_⟩
    refine steps_cons ?_ ?_
    · rintro b a w' ⟨gb679, gb680, m10_, m11_, ha, Q_BK672, Q_BK673, Q_BK674, Q_HB, Q_NB680_679, Q_NB679_680, Q_BK679, Q_GW679, Q_GE679, Q_NB672_679, Q_NB679_672, Q_NB673_679, Q_NB679_673, Q_NB674_679, Q_NB679_674, Q_BK680, Q_GW680, Q_GE680, Q_NB672_680, Q_NB680_672, Q_NB673_680, Q_NB680_673, Q_NB674_680, Q_NB680_674, Q_BK679_e12, Q_BK680_e13, Q_X10_, Q_X11_⟩ hb_ hon hoff
      refine ⟨_, rfl, fun K hK => ?_⟩
      have e12 : a.tmps[12]? = some (.pointer (some ⟨gb673, 1, none⟩)) := by rw [ha]; exact (putSel_off rfl).trans rfl
      replace ha := Aside0.mk ha
      have BK672 := Aside0.mk Q_BK672
      have BK673 := Aside0.mk Q_BK673
      have BK674 := Aside0.mk Q_BK674
      have HB := Aside0.mk Q_HB
      have hc0_ : w'.cell? ⟨gb673, 0, none⟩ = some (.int .i64 a1_0) := (blk_cell BK673.out 0).trans rfl
      have hc1_ : w'.cell? ⟨gb673, 1, none⟩ = some (.int .i64 a1_1) := (blk_cell BK673.out 1).trans rfl
      have hc2_ : w'.cell? ⟨gb673, 2, none⟩ = some (.int .i64 a1_2) := (blk_cell BK673.out 2).trans rfl
      have hc3_ : w'.cell? ⟨gb673, 3, none⟩ = some (.int .i64 a1_3) := (blk_cell BK673.out 3).trans rfl
      refine value_ (w1 := w') (v := .int .i64 a1_1) (by rfl) rfl ?_ ?_
      · go_simp
        (try simp only [i64_w])
        try rfl
      refine hK.out _ _ ⟨gb679, gb680, m10_, m11_, (by rw [ha.out]; exact putSel_upk 3 hb_ rfl rfl rfl), Q_BK672, Q_BK673, Q_BK674, Q_HB, Q_NB680_679, Q_NB679_680, Q_BK679, Q_GW679, Q_GE679, Q_NB672_679, Q_NB679_672, Q_NB673_679, Q_NB679_673, Q_NB674_679, Q_NB679_674, Q_BK680, Q_GW680, Q_GE680, Q_NB672_680, Q_NB680_672, Q_NB673_680, Q_NB680_673, Q_NB674_680, Q_NB680_674, fun h0_ => absurd ((hoff 12 (by kernel_rfl)).symm.trans h0_) (by decide), fun h0_ => absurd ((hoff 13 (by kernel_rfl)).symm.trans h0_) (by decide), Q_X10_, Q_X11_⟩
    refine steps_cons ?_ ?_
    · rintro b a w' ⟨gb679, gb680, m10_, m11_, ha, Q_BK672, Q_BK673, Q_BK674, Q_HB, Q_NB680_679, Q_NB679_680, Q_BK679, Q_GW679, Q_GE679, Q_NB672_679, Q_NB679_672, Q_NB673_679, Q_NB679_673, Q_NB674_679, Q_NB679_674, Q_BK680, Q_GW680, Q_GE680, Q_NB672_680, Q_NB680_672, Q_NB673_680, Q_NB680_673, Q_NB674_680, Q_NB680_674, Q_BK679_e12, Q_BK680_e13, Q_X10_, Q_X11_⟩ hb_ hon hoff
      refine ⟨_, rfl, fun K hK => ?_⟩
      have e14 : a.tmps[14]? = some (.pointer (some ⟨gb673, 3, none⟩)) := by rw [ha]; exact (putSel_off rfl).trans rfl
      replace ha := Aside0.mk ha
      have BK672 := Aside0.mk Q_BK672
      have BK673 := Aside0.mk Q_BK673
      have BK674 := Aside0.mk Q_BK674
      have HB := Aside0.mk Q_HB
      have hc0_ : w'.cell? ⟨gb673, 0, none⟩ = some (.int .i64 a1_0) := (blk_cell BK673.out 0).trans rfl
      have hc1_ : w'.cell? ⟨gb673, 1, none⟩ = some (.int .i64 a1_1) := (blk_cell BK673.out 1).trans rfl
      have hc2_ : w'.cell? ⟨gb673, 2, none⟩ = some (.int .i64 a1_2) := (blk_cell BK673.out 2).trans rfl
      have hc3_ : w'.cell? ⟨gb673, 3, none⟩ = some (.int .i64 a1_3) := (blk_cell BK673.out 3).trans rfl
      refine value_ (w1 := w') (v := .int .i64 a1_3) (by rfl) rfl ?_ ?_
      · go_simp
        (try simp only [i64_w])
        try rfl
      refine hK.out _ _ ⟨gb679, gb680, m10_, m11_, (by rw [ha.out]; exact putSel_upk 4 hb_ rfl rfl rfl), Q_BK672, Q_BK673, Q_BK674, Q_HB, Q_NB680_679, Q_NB679_680, Q_BK679, Q_GW679, Q_GE679, Q_NB672_679, Q_NB679_672, Q_NB673_679, Q_NB679_673, Q_NB674_679, Q_NB679_674, Q_BK680, Q_GW680, Q_GE680, Q_NB672_680, Q_NB680_672, Q_NB673_680, Q_NB680_673, Q_NB674_680, Q_NB680_674, fun h0_ => absurd ((hoff 12 (by kernel_rfl)).symm.trans h0_) (by decide), fun h0_ => absurd ((hoff 13 (by kernel_rfl)).symm.trans h0_) (by decide), Q_X10_, Q_X11_⟩
    refine steps_cons ?_ ?_
    · rintro b a w' ⟨gb679, gb680, m10_, m11_, ha, Q_BK672, Q_BK673, Q_BK674, Q_HB, Q_NB680_679, Q_NB679_680, Q_BK679, Q_GW679, Q_GE679, Q_NB672_679, Q_NB679_672, Q_NB673_679, Q_NB679_673, Q_NB674_679, Q_NB679_674, Q_BK680, Q_GW680, Q_GE680, Q_NB672_680, Q_NB680_672, Q_NB673_680, Q_NB680_673, Q_NB674_680, Q_NB680_674, Q_BK679_e12, Q_BK680_e13, Q_X10_, Q_X11_⟩ hb_ hon hoff
      refine ⟨_, rfl, fun K hK => ?_⟩
      have e13 : a.tmps[13]? = some (.int .i64 a1_1) := by rw [ha]; exact putSel_on (e := (6, 13, .int .i64 a1_1)) 3 rfl rfl (hon 6 (by kernel_rfl)) rfl
      have e15 : a.tmps[15]? = some (.int .i64 a1_3) := by rw [ha]; exact putSel_on (e := (8, 15, .int .i64 a1_3)) 4 rfl rfl (hon 8 (by kernel_rfl)) rfl
      replace ha := Aside0.mk ha
      have BK672 := Aside0.mk Q_BK672
      have BK673 := Aside0.mk Q_BK673
      have BK674 := Aside0.mk Q_BK674
      have HB := Aside0.mk Q_HB
      refine goes_ Try.func19 (by kernel_rfl) rfl #[.int .i64 a1_1, .int .i64 a1_3] (by rfl) rfl rfl (by first | (simp only [List.map_toArray, List.map_cons, List.map_nil, Act.eval, Array.getD_eq_getD_getElem?, Option.getD_some, e13, e15]; done) | (simp only [List.map_toArray, List.map_cons, List.map_nil, Act.eval, Array.getD_eq_getD_getElem?, Option.getD_some, e13, e15]; rfl)) ?_
      with_reducible refine (torchonlaw06_pt.calls a1_1 a1_3 t677 t678 _ A4.out).mono ?_
      rintro e w14 ⟨rfl, hb⟩
      refine ⟨_, rfl, ?_⟩
      have n0_ := bb BK672 hb
      have n1_ := bb BK673 hb
      have n2_ := bb BK674 hb
      have n3_ := bst HB hb
      have z_BK679 := fun (h0_ : b 10 = true) (h1_ : b 12 = false) => (show w14.heap[gb679]? = some (.cells #[.int .i64 0, .int .i64 0] 37 (0, 0)) from by first | exact (blk_below (g := gb679) (o := .cells #[.int .i64 0, .int .i64 0] 37 (0, 0)) (by (with_reducible repeat (first | refine blk_drewN ?_ _ | refine blk_drew ?_ | refine blk_alloc ?_ _)); exact (Q_BK679 h0_ h1_)) hb))
      have z_BK680 := fun (h0_ : b 11 = true) (h1_ : b 13 = false) => (show w14.heap[gb680]? = some (.cells #[.int .i64 0, .int .i64 0] 37 (0, 0)) from by first | exact (blk_below (g := gb680) (o := .cells #[.int .i64 0, .int .i64 0] 37 (0, 0)) (by (with_reducible repeat (first | refine blk_drewN ?_ _ | refine blk_drew ?_ | refine blk_alloc ?_ _)); exact (Q_BK680 h0_ h1_)) hb))
      clear BK672
      clear BK673
      clear BK674
      clear HB
      have BK672 := n0_
      have BK673 := n1_
      have BK674 := n2_
      have HB := n3_
      clear n0_ n1_ n2_ n3_
      (try clear hb)
      (try clear hb2)
      (try clear hk)
      (try clear hi)
      refine hK.out _ _ ⟨gb679, gb680, m10_, m11_, (by rw [ha.out]; exact putSel_upk 5 hb_ rfl rfl rfl), (pk BK672), (pk BK673), (pk BK674), (bnow HB), Q_NB680_679, Q_NB679_680, z_BK679, Q_GW679, Q_GE679, Q_NB672_679, Q_NB679_672, Q_NB673_679, Q_NB679_673, Q_NB674_679, Q_NB679_674, z_BK680, Q_GW680, Q_GE680, Q_NB672_680, Q_NB680_672, Q_NB673_680, Q_NB680_673, Q_NB674_680, Q_NB680_674, fun h0_ => absurd ((hoff 12 (by kernel_rfl)).symm.trans h0_) (by decide), fun h0_ => absurd ((hoff 13 (by kernel_rfl)).symm.trans h0_) (by decide), Q_X10_, Q_X11_⟩
    refine steps_cons ?_ ?_
    · rintro b a w' ⟨gb679, gb680, m10_, m11_, ha, Q_BK672, Q_BK673, Q_BK674, Q_HB, Q_NB680_679, Q_NB679_680, Q_BK679, Q_GW679, Q_GE679, Q_NB672_679, Q_NB679_672, Q_NB673_679, Q_NB679_673, Q_NB674_679, Q_NB679_674, Q_BK680, Q_GW680, Q_GE680, Q_NB672_680, Q_NB680_672, Q_NB673_680, Q_NB680_673, Q_NB674_680, Q_NB680_674, Q_BK679_e12, Q_BK680_e13, Q_X10_, Q_X11_⟩ hb_ hon hoff
      refine ⟨_, rfl, fun K hK => ?_⟩
      replace ha := Aside0.mk ha
      have BK672 := Aside0.mk Q_BK672
      have BK673 := Aside0.mk Q_BK673
      have BK674 := Aside0.mk Q_BK674
      have HB := Aside0.mk Q_HB
      refine box_step ?hg (N := 5) ?hd (cs := #[.int .i64 0, .int .i64 0]) (t := 37) ?hr ?_; (case hd => rfl); (case hg => rfl); (case hr => first | (go_simp; done) | (go_simp; rfl))
      intro gb679 hg w12 hbox hb
      have n0_ := bb BK672 hb
      have n1_ := bb BK673 hb
      have n2_ := bb BK674 hb
      have n3_ := bst HB hb
      have n4_ := Aside0.mk (hbox)
      have n5_ := gw hg HB
      have n6_ := gw hg HB
      have n7_ := nlt hg BK672
      have n8_ := ngt hg BK672
      have n9_ := nlt hg BK673
      have n10_ := ngt hg BK673
      have n11_ := nlt hg BK674
      have n12_ := ngt hg BK674
      have z_NB680_679 := fun (h0_ : up b 10 10 = true) (h1_ : up b 10 11 = true) => (show gb680 ≠ gb679 from (by cases hb_ : b 13 with | false => exact ((by rw [hg]; exact Nat.ne_of_lt (blk_lt (g := gb680) (o := .cells #[.int .i64 0, .int .i64 0] 37 (0, 0)) (by (with_reducible repeat (first | refine blk_drewN ?_ _ | refine blk_drew ?_ | refine blk_alloc ?_ _)); exact (Q_BK680 h1_ hb_))) : gb680 ≠ gb679)) | true => exact ((by rw [hg]; exact Nat.ne_of_lt (blk_lt (g := gb680) (by (with_reducible repeat (first | refine blk_drewN ?_ _ | refine blk_drew ?_ | refine blk_alloc ?_ _)); exact (Q_BK680_e13 hb_))) : gb680 ≠ gb679))))
      have z_NB679_680 := fun (h0_ : up b 10 10 = true) (h1_ : up b 10 11 = true) => (show gb679 ≠ gb680 from (by cases hb_ : b 13 with | false => exact ((by rw [hg]; exact Nat.ne_of_gt (blk_lt (g := gb680) (o := .cells #[.int .i64 0, .int .i64 0] 37 (0, 0)) (by (with_reducible repeat (first | refine blk_drewN ?_ _ | refine blk_drew ?_ | refine blk_alloc ?_ _)); exact (Q_BK680 h1_ hb_))) : gb679 ≠ gb680)) | true => exact ((by rw [hg]; exact Nat.ne_of_gt (blk_lt (g := gb680) (by (with_reducible repeat (first | refine blk_drewN ?_ _ | refine blk_drew ?_ | refine blk_alloc ?_ _)); exact (Q_BK680_e13 hb_))) : gb679 ≠ gb680))))
      have z_BK680 := fun (h0_ : b 11 = true) (h1_ : b 13 = false) => (show w12.heap[gb680]? = some (.cells #[.int .i64 0, .int .i64 0] 37 (0, 0)) from by first | exact (blk_below (g := gb680) (o := .cells #[.int .i64 0, .int .i64 0] 37 (0, 0)) (by (with_reducible repeat (first | refine blk_drewN ?_ _ | refine blk_drew ?_ | refine blk_alloc ?_ _)); exact (Q_BK680 h0_ h1_)) hb))
      clear BK672
      clear BK673
      clear BK674
      clear HB
      have BK672 := n0_
      have BK673 := n1_
      have BK674 := n2_
      have HB := n3_
      have BK679 := n4_
      have GW679 := n5_
      have GE679 := n6_
      have NB672_679 := n7_
      have NB679_672 := n8_
      have NB673_679 := n9_
      have NB679_673 := n10_
      have NB674_679 := n11_
      have NB679_674 := n12_
      clear n0_ n1_ n2_ n3_ n4_ n5_ n6_ n7_ n8_ n9_ n10_ n11_ n12_
      clear hb hg
      refine hK.out _ _ ⟨gb679, gb680, (.pointer (some ⟨gb679, 0, none⟩)), m11_, (by rw [ha.out]; exact putSel_upk 6 hb_ rfl rfl rfl), (pk BK672), (pk BK673), (pk BK674), (bnow HB), z_NB680_679, z_NB679_680, fun _ _ => (pk BK679), fun _ => GW679.out, fun _ => GE679.out, fun _ => NB672_679.out, fun _ => NB679_672.out, fun _ => NB673_679.out, fun _ => NB679_673.out, fun _ => NB674_679.out, fun _ => NB679_674.out, z_BK680, Q_GW680, Q_GE680, Q_NB672_680, Q_NB680_672, Q_NB673_680, Q_NB680_673, Q_NB674_680, Q_NB680_674, fun h0_ => absurd ((hoff 12 (by kernel_rfl)).symm.trans h0_) (by decide), fun h0_ => absurd ((hoff 13 (by kernel_rfl)).symm.trans h0_) (by decide), fun _ => rfl, Q_X11_⟩
    refine steps_cons ?_ ?_
    · rintro b a w' ⟨gb679, gb680, m10_, m11_, ha, Q_BK672, Q_BK673, Q_BK674, Q_HB, Q_NB680_679, Q_NB679_680, Q_BK679, Q_GW679, Q_GE679, Q_NB672_679, Q_NB679_672, Q_NB673_679, Q_NB679_673, Q_NB674_679, Q_NB679_674, Q_BK680, Q_GW680, Q_GE680, Q_NB672_680, Q_NB680_672, Q_NB673_680, Q_NB680_673, Q_NB674_680, Q_NB680_674, Q_BK679_e12, Q_BK680_e13, Q_X10_, Q_X11_⟩ hb_ hon hoff
      refine ⟨_, rfl, fun K hK => ?_⟩
      replace ha := Aside0.mk ha
      have BK672 := Aside0.mk Q_BK672
      have BK673 := Aside0.mk Q_BK673
      have BK674 := Aside0.mk Q_BK674
      have HB := Aside0.mk Q_HB
      refine box_step ?hg (N := 6) ?hd (cs := #[.int .i64 0, .int .i64 0]) (t := 37) ?hr ?_; (case hd => rfl); (case hg => rfl); (case hr => first | (go_simp; done) | (go_simp; rfl))
      intro gb680 hg w12 hbox hb
      have n0_ := bb BK672 hb
      have n1_ := bb BK673 hb
      have n2_ := bb BK674 hb
      have n3_ := bst HB hb
      have n4_ := Aside0.mk (hbox)
      have n5_ := gw hg HB
      have n6_ := gw hg HB
      have n7_ := nlt hg BK672
      have n8_ := ngt hg BK672
      have n9_ := nlt hg BK673
      have n10_ := ngt hg BK673
      have n11_ := nlt hg BK674
      have n12_ := ngt hg BK674
      have z_NB680_679 := fun (h0_ : up b 11 10 = true) (h1_ : up b 11 11 = true) => (show gb680 ≠ gb679 from (by cases hb_ : b 12 with | false => exact ((by rw [hg]; exact Nat.ne_of_gt (blk_lt (g := gb679) (o := .cells #[.int .i64 0, .int .i64 0] 37 (0, 0)) (by (with_reducible repeat (first | refine blk_drewN ?_ _ | refine blk_drew ?_ | refine blk_alloc ?_ _)); exact (Q_BK679 h0_ hb_))) : gb680 ≠ gb679)) | true => exact ((by rw [hg]; exact Nat.ne_of_gt (blk_lt (g := gb679) (by (with_reducible repeat (first | refine blk_drewN ?_ _ | refine blk_drew ?_ | refine blk_alloc ?_ _)); exact (Q_BK679_e12 hb_))) : gb680 ≠ gb679))))
      have z_NB679_680 := fun (h0_ : up b 11 10 = true) (h1_ : up b 11 11 = true) => (show gb679 ≠ gb680 from (by cases hb_ : b 12 with | false => exact ((by rw [hg]; exact Nat.ne_of_lt (blk_lt (g := gb679) (o := .cells #[.int .i64 0, .int .i64 0] 37 (0, 0)) (by (with_reducible repeat (first | refine blk_drewN ?_ _ | refine blk_drew ?_ | refine blk_alloc ?_ _)); exact (Q_BK679 h0_ hb_))) : gb679 ≠ gb680)) | true => exact ((by rw [hg]; exact Nat.ne_of_lt (blk_lt (g := gb679) (by (with_reducible repeat (first | refine blk_drewN ?_ _ | refine blk_drew ?_ | refine blk_alloc ?_ _)); exact (Q_BK679_e12 hb_))) : gb679 ≠ gb680))))
      have z_BK679 := fun (h0_ : b 10 = true) (h1_ : b 12 = false) => (show w12.heap[gb679]? = some (.cells #[.int .i64 0, .int .i64 0] 37 (0, 0)) from by first | exact (blk_below (g := gb679) (o := .cells #[.int .i64 0, .int .i64 0] 37 (0, 0)) (by (with_reducible repeat (first | refine blk_drewN ?_ _ | refine blk_drew ?_ | refine blk_alloc ?_ _)); exact (Q_BK679 h0_ h1_)) hb))
      clear BK672
      clear BK673
      clear BK674
      clear HB
      have BK672 := n0_
      have BK673 := n1_
      have BK674 := n2_
      have HB := n3_
      have BK680 := n4_
      have GW680 := n5_
      have GE680 := n6_
      have NB672_680 := n7_
      have NB680_672 := n8_
      have NB673_680 := n9_
      have NB680_673 := n10_
      have NB674_680 := n11_
      have NB680_674 := n12_
      clear n0_ n1_ n2_ n3_ n4_ n5_ n6_ n7_ n8_ n9_ n10_ n11_ n12_
      clear hb hg
      refine hK.out _ _ ⟨gb679, gb680, m10_, (.pointer (some ⟨gb680, 0, none⟩)), (by rw [ha.out]; exact putSel_upk 7 hb_ rfl rfl rfl), (pk BK672), (pk BK673), (pk BK674), (bnow HB), z_NB680_679, z_NB679_680, z_BK679, Q_GW679, Q_GE679, Q_NB672_679, Q_NB679_672, Q_NB673_679, Q_NB679_673, Q_NB674_679, Q_NB679_674, fun _ _ => (pk BK680), fun _ => GW680.out, fun _ => GE680.out, fun _ => NB672_680.out, fun _ => NB680_672.out, fun _ => NB673_680.out, fun _ => NB680_673.out, fun _ => NB674_680.out, fun _ => NB680_674.out, fun h0_ => absurd ((hoff 12 (by kernel_rfl)).symm.trans h0_) (by decide), fun h0_ => absurd ((hoff 13 (by kernel_rfl)).symm.trans h0_) (by decide), Q_X10_, fun _ => rfl⟩
    refine steps_cons ?_ ?_
    · rintro b a w' ⟨gb679, gb680, m10_, m11_, ha, Q_BK672, Q_BK673, Q_BK674, Q_HB, Q_NB680_679, Q_NB679_680, Q_BK679, Q_GW679, Q_GE679, Q_NB672_679, Q_NB679_672, Q_NB673_679, Q_NB679_673, Q_NB674_679, Q_NB679_674, Q_BK680, Q_GW680, Q_GE680, Q_NB672_680, Q_NB680_672, Q_NB673_680, Q_NB680_673, Q_NB674_680, Q_NB680_674, Q_BK679_e12, Q_BK680_e13, Q_X10_, Q_X11_⟩ hb_ hon hoff
      refine ⟨_, rfl, fun K hK => ?_⟩
      have e5 : a.tmps[5]? = some (m10_) := by rw [ha]; exact putSel_on (e := (10, 5, m10_)) 6 rfl rfl (hon 10 (by kernel_rfl)) rfl
      rw [Q_X10_ (hon 10 (by kernel_rfl))] at e5
      have e11 : a.tmps[11]? = some (.agg #[.int .i64 t675, .int .i64 t676]) := by rw [ha]; exact putSel_on (e := (4, 11, .agg #[.int .i64 t675, .int .i64 t676])) 2 rfl rfl (hon 4 (by kernel_rfl)) rfl
      replace ha := Aside0.mk ha
      have BK672 := Aside0.mk Q_BK672
      have BK673 := Aside0.mk Q_BK673
      have BK674 := Aside0.mk Q_BK674
      have HB := Aside0.mk Q_HB
      have NB680_679 := Aside0.mk (Q_NB680_679 (hon 10 (by kernel_rfl)) (hon 11 (by kernel_rfl)))
      have NB679_680 := Aside0.mk (Q_NB679_680 (hon 10 (by kernel_rfl)) (hon 11 (by kernel_rfl)))
      have BK679 := Aside0.mk (Q_BK679 (hon 10 (by kernel_rfl)) hb_)
      have GW679 := Aside0.mk (Q_GW679 (hon 10 (by kernel_rfl)))
      have GE679 := Aside0.mk (Q_GE679 (hon 10 (by kernel_rfl)))
      have NB672_679 := Aside0.mk (Q_NB672_679 (hon 10 (by kernel_rfl)))
      have NB679_672 := Aside0.mk (Q_NB679_672 (hon 10 (by kernel_rfl)))
      have NB673_679 := Aside0.mk (Q_NB673_679 (hon 10 (by kernel_rfl)))
      have NB679_673 := Aside0.mk (Q_NB679_673 (hon 10 (by kernel_rfl)))
      have NB674_679 := Aside0.mk (Q_NB674_679 (hon 10 (by kernel_rfl)))
      have NB679_674 := Aside0.mk (Q_NB679_674 (hon 10 (by kernel_rfl)))
      have BK680 := Aside0.mk (Q_BK680 (hon 11 (by kernel_rfl)) (hoff 13 (by kernel_rfl)))
      have GW680 := Aside0.mk (Q_GW680 (hon 11 (by kernel_rfl)))
      have GE680 := Aside0.mk (Q_GE680 (hon 11 (by kernel_rfl)))
      have NB672_680 := Aside0.mk (Q_NB672_680 (hon 11 (by kernel_rfl)))
      have NB680_672 := Aside0.mk (Q_NB680_672 (hon 11 (by kernel_rfl)))
      have NB673_680 := Aside0.mk (Q_NB673_680 (hon 11 (by kernel_rfl)))
      have NB680_673 := Aside0.mk (Q_NB680_673 (hon 11 (by kernel_rfl)))
      have NB674_680 := Aside0.mk (Q_NB674_680 (hon 11 (by kernel_rfl)))
      have NB680_674 := Aside0.mk (Q_NB680_674 (hon 11 (by kernel_rfl)))
      have hs17 : w'.cell? ⟨gb679, 0, none⟩ = some (.int .i64 0) := (blk_cell BK679.out 0).trans rfl
      have hfs17 := blk_frozen BK679.out 0
      have hns17_0 := NB672_679.out
      have hns17_1 := NB673_679.out
      have hns17_2 := NB674_679.out
      have hns17_4 := NB680_679.out
      have hms17_0 := NB679_672.out
      have hms17_1 := NB679_673.out
      have hms17_2 := NB679_674.out
      have hms17_4 := NB679_680.out
      have hs18 : w'.cell? ⟨gb679, 1, none⟩ = some (.int .i64 0) := (blk_cell BK679.out 1).trans rfl
      have hfs18 := blk_frozen BK679.out 1
      have hns18_0 := NB672_679.out
      have hns18_1 := NB673_679.out
      have hns18_2 := NB674_679.out
      have hns18_4 := NB680_679.out
      have hms18_0 := NB679_672.out
      have hms18_1 := NB679_673.out
      have hms18_2 := NB679_674.out
      have hms18_4 := NB679_680.out
      refine skip_ (w1 := ?_) (by rfl) rfl ?_ ?_
      rotate_left
      · go_simp
        rfl
      refine hK.out _ _ ⟨gb679, gb680, m10_, m11_, (by rw [ha.out]; exact putSel_none (v := undef) rfl), (by (with_reducible repeat (first | refine blk_drewN ?_ _ | refine blk_drew ?_ | refine blk_alloc ?_ _)); refine blk_far ?_ NB672_679.out _; (with_reducible repeat (first | refine blk_drewN ?_ _ | refine blk_drew ?_ | refine blk_alloc ?_ _)); refine blk_far ?_ NB672_679.out _; (with_reducible repeat (first | refine blk_drewN ?_ _ | refine blk_drew ?_ | refine blk_alloc ?_ _)); exact BK672.out), (by (with_reducible repeat (first | refine blk_drewN ?_ _ | refine blk_drew ?_ | refine blk_alloc ?_ _)); refine blk_far ?_ NB673_679.out _; (with_reducible repeat (first | refine blk_drewN ?_ _ | refine blk_drew ?_ | refine blk_alloc ?_ _)); refine blk_far ?_ NB673_679.out _; (with_reducible repeat (first | refine blk_drewN ?_ _ | refine blk_drew ?_ | refine blk_alloc ?_ _)); exact BK673.out), (by (with_reducible repeat (first | refine blk_drewN ?_ _ | refine blk_drew ?_ | refine blk_alloc ?_ _)); refine blk_far ?_ NB674_679.out _; (with_reducible repeat (first | refine blk_drewN ?_ _ | refine blk_drew ?_ | refine blk_alloc ?_ _)); refine blk_far ?_ NB674_679.out _; (with_reducible repeat (first | refine blk_drewN ?_ _ | refine blk_drew ?_ | refine blk_alloc ?_ _)); exact BK674.out), (bnow HB), fun _ _ => NB680_679.out, fun _ _ => NB679_680.out, fun _ h1_ => absurd ((up_self b 12).symm.trans h1_) (by decide), fun _ => GW679.out, fun _ => GE679.out, fun _ => NB672_679.out, fun _ => NB679_672.out, fun _ => NB673_679.out, fun _ => NB679_673.out, fun _ => NB674_679.out, fun _ => NB679_674.out, fun _ _ => (by (with_reducible repeat (first | refine blk_drewN ?_ _ | refine blk_drew ?_ | refine blk_alloc ?_ _)); refine blk_far ?_ NB680_679.out _; (with_reducible repeat (first | refine blk_drewN ?_ _ | refine blk_drew ?_ | refine blk_alloc ?_ _)); refine blk_far ?_ NB680_679.out _; (with_reducible repeat (first | refine blk_drewN ?_ _ | refine blk_drew ?_ | refine blk_alloc ?_ _)); exact BK680.out), fun _ => GW680.out, fun _ => GE680.out, fun _ => NB672_680.out, fun _ => NB680_672.out, fun _ => NB673_680.out, fun _ => NB680_673.out, fun _ => NB674_680.out, fun _ => NB680_674.out, fun _ => (by (with_reducible repeat (first | refine blk_drewN ?_ _ | refine blk_drew ?_ | refine blk_alloc ?_ _)); refine blk_put (cs := #[.int .i64 t675, .int .i64 0]) ?_ 1 _ rfl; (with_reducible repeat (first | refine blk_drewN ?_ _ | refine blk_drew ?_ | refine blk_alloc ?_ _)); refine blk_put (cs := #[.int .i64 0, .int .i64 0]) ?_ 0 _ rfl; (with_reducible repeat (first | refine blk_drewN ?_ _ | refine blk_drew ?_ | refine blk_alloc ?_ _)); exact BK679.out), fun h0_ => absurd ((hoff 13 (by kernel_rfl)).symm.trans h0_) (by decide), Q_X10_, Q_X11_⟩
    refine steps_cons ?_ ?_
    · rintro b a w' ⟨gb679, gb680, m10_, m11_, ha, Q_BK672, Q_BK673, Q_BK674, Q_HB, Q_NB680_679, Q_NB679_680, Q_BK679, Q_GW679, Q_GE679, Q_NB672_679, Q_NB679_672, Q_NB673_679, Q_NB679_673, Q_NB674_679, Q_NB679_674, Q_BK680, Q_GW680, Q_GE680, Q_NB672_680, Q_NB680_672, Q_NB673_680, Q_NB680_673, Q_NB674_680, Q_NB680_674, Q_BK679_e12, Q_BK680_e13, Q_X10_, Q_X11_⟩ hb_ hon hoff
      refine ⟨_, rfl, fun K hK => ?_⟩
      have e6 : a.tmps[6]? = some (m11_) := by rw [ha]; exact putSel_on (e := (11, 6, m11_)) 7 rfl rfl (hon 11 (by kernel_rfl)) rfl
      rw [Q_X11_ (hon 11 (by kernel_rfl))] at e6
      have e16 : a.tmps[16]? = some (.agg #[.int .i64 t677, .int .i64 t678]) := by rw [ha]; exact putSel_on (e := (9, 16, .agg #[.int .i64 t677, .int .i64 t678])) 5 rfl rfl (hon 9 (by kernel_rfl)) rfl
      replace ha := Aside0.mk ha
      have BK672 := Aside0.mk Q_BK672
      have BK673 := Aside0.mk Q_BK673
      have BK674 := Aside0.mk Q_BK674
      have HB := Aside0.mk Q_HB
      have NB680_679 := Aside0.mk (Q_NB680_679 (hon 10 (by kernel_rfl)) (hon 11 (by kernel_rfl)))
      have NB679_680 := Aside0.mk (Q_NB679_680 (hon 10 (by kernel_rfl)) (hon 11 (by kernel_rfl)))
      have GW679 := Aside0.mk (Q_GW679 (hon 10 (by kernel_rfl)))
      have GE679 := Aside0.mk (Q_GE679 (hon 10 (by kernel_rfl)))
      have NB672_679 := Aside0.mk (Q_NB672_679 (hon 10 (by kernel_rfl)))
      have NB679_672 := Aside0.mk (Q_NB679_672 (hon 10 (by kernel_rfl)))
      have NB673_679 := Aside0.mk (Q_NB673_679 (hon 10 (by kernel_rfl)))
      have NB679_673 := Aside0.mk (Q_NB679_673 (hon 10 (by kernel_rfl)))
      have NB674_679 := Aside0.mk (Q_NB674_679 (hon 10 (by kernel_rfl)))
      have NB679_674 := Aside0.mk (Q_NB679_674 (hon 10 (by kernel_rfl)))
      have BK680 := Aside0.mk (Q_BK680 (hon 11 (by kernel_rfl)) hb_)
      have GW680 := Aside0.mk (Q_GW680 (hon 11 (by kernel_rfl)))
      have GE680 := Aside0.mk (Q_GE680 (hon 11 (by kernel_rfl)))
      have NB672_680 := Aside0.mk (Q_NB672_680 (hon 11 (by kernel_rfl)))
      have NB680_672 := Aside0.mk (Q_NB680_672 (hon 11 (by kernel_rfl)))
      have NB673_680 := Aside0.mk (Q_NB673_680 (hon 11 (by kernel_rfl)))
      have NB680_673 := Aside0.mk (Q_NB680_673 (hon 11 (by kernel_rfl)))
      have NB674_680 := Aside0.mk (Q_NB674_680 (hon 11 (by kernel_rfl)))
      have NB680_674 := Aside0.mk (Q_NB680_674 (hon 11 (by kernel_rfl)))
      have BK679 := Aside0.mk (Q_BK679_e12 (hon 12 (by kernel_rfl)))
      have hs19 : w'.cell? ⟨gb680, 0, none⟩ = some (.int .i64 0) := (blk_cell BK680.out 0).trans rfl
      have hfs19 := blk_frozen BK680.out 0
      have hns19_0 := NB672_680.out
      have hns19_1 := NB673_680.out
      have hns19_2 := NB674_680.out
      have hns19_3 := NB679_680.out
      have hms19_0 := NB680_672.out
      have hms19_1 := NB680_673.out
      have hms19_2 := NB680_674.out
      have hms19_3 := NB680_679.out
      have hs20 : w'.cell? ⟨gb680, 1, none⟩ = some (.int .i64 0) := (blk_cell BK680.out 1).trans rfl
      have hfs20 := blk_frozen BK680.out 1
      have hns20_0 := NB672_680.out
      have hns20_1 := NB673_680.out
      have hns20_2 := NB674_680.out
      have hns20_3 := NB679_680.out
      have hms20_0 := NB680_672.out
      have hms20_1 := NB680_673.out
      have hms20_2 := NB680_674.out
      have hms20_3 := NB680_679.out
      refine skip_ (w1 := ?_) (by rfl) rfl ?_ ?_
      rotate_left
      · go_simp
        rfl
      refine hK.out _ _ ⟨gb679, gb680, m10_, m11_, (by rw [ha.out]; exact putSel_none (v := undef) rfl), (by (with_reducible repeat (first | refine blk_drewN ?_ _ | refine blk_drew ?_ | refine blk_alloc ?_ _)); refine blk_far ?_ NB672_680.out _; (with_reducible repeat (first | refine blk_drewN ?_ _ | refine blk_drew ?_ | refine blk_alloc ?_ _)); refine blk_far ?_ NB672_680.out _; (with_reducible repeat (first | refine blk_drewN ?_ _ | refine blk_drew ?_ | refine blk_alloc ?_ _)); exact BK672.out), (by (with_reducible repeat (first | refine blk_drewN ?_ _ | refine blk_drew ?_ | refine blk_alloc ?_ _)); refine blk_far ?_ NB673_680.out _; (with_reducible repeat (first | refine blk_drewN ?_ _ | refine blk_drew ?_ | refine blk_alloc ?_ _)); refine blk_far ?_ NB673_680.out _; (with_reducible repeat (first | refine blk_drewN ?_ _ | refine blk_drew ?_ | refine blk_alloc ?_ _)); exact BK673.out), (by (with_reducible repeat (first | refine blk_drewN ?_ _ | refine blk_drew ?_ | refine blk_alloc ?_ _)); refine blk_far ?_ NB674_680.out _; (with_reducible repeat (first | refine blk_drewN ?_ _ | refine blk_drew ?_ | refine blk_alloc ?_ _)); refine blk_far ?_ NB674_680.out _; (with_reducible repeat (first | refine blk_drewN ?_ _ | refine blk_drew ?_ | refine blk_alloc ?_ _)); exact BK674.out), (bnow HB), fun _ _ => NB680_679.out, fun _ _ => NB679_680.out, fun _ h1_ => absurd ((hon 12 (by kernel_rfl)).symm.trans h1_) (by decide), fun _ => GW679.out, fun _ => GE679.out, fun _ => NB672_679.out, fun _ => NB679_672.out, fun _ => NB673_679.out, fun _ => NB679_673.out, fun _ => NB674_679.out, fun _ => NB679_674.out, fun _ h1_ => absurd ((up_self b 13).symm.trans h1_) (by decide), fun _ => GW680.out, fun _ => GE680.out, fun _ => NB672_680.out, fun _ => NB680_672.out, fun _ => NB673_680.out, fun _ => NB680_673.out, fun _ => NB674_680.out, fun _ => NB680_674.out, fun _ => (by (with_reducible repeat (first | refine blk_drewN ?_ _ | refine blk_drew ?_ | refine blk_alloc ?_ _)); refine blk_far ?_ NB679_680.out _; (with_reducible repeat (first | refine blk_drewN ?_ _ | refine blk_drew ?_ | refine blk_alloc ?_ _)); refine blk_far ?_ NB679_680.out _; (with_reducible repeat (first | refine blk_drewN ?_ _ | refine blk_drew ?_ | refine blk_alloc ?_ _)); exact BK679.out), fun _ => (by (with_reducible repeat (first | refine blk_drewN ?_ _ | refine blk_drew ?_ | refine blk_alloc ?_ _)); refine blk_put (cs := #[.int .i64 t677, .int .i64 0]) ?_ 1 _ rfl; (with_reducible repeat (first | refine blk_drewN ?_ _ | refine blk_drew ?_ | refine blk_alloc ?_ _)); refine blk_put (cs := #[.int .i64 0, .int .i64 0]) ?_ 0 _ rfl; (with_reducible repeat (first | refine blk_drewN ?_ _ | refine blk_drew ?_ | refine blk_alloc ?_ _)); exact BK680.out), Q_X10_, Q_X11_⟩
    exact steps_nil
  rintro b a w20 hall ⟨gb679, gb680, m10_, m11_, ha, Q_BK672, Q_BK673, Q_BK674, Q_HB, Q_NB680_679, Q_NB679_680, Q_BK679, Q_GW679, Q_GE679, Q_NB672_679, Q_NB679_672, Q_NB673_679, Q_NB679_673, Q_NB674_679, Q_NB679_674, Q_BK680, Q_GW680, Q_GE680, Q_NB672_680, Q_NB680_672, Q_NB673_680, Q_NB680_673, Q_NB674_680, Q_NB680_674, Q_BK679_e12, Q_BK680_e13, Q_X10_, Q_X11_⟩
  clear BK672 BK673 BK674 HB
  have hb1_ := hall 1 (by kernel_rfl)
  have hb3_ := hall 3 (by kernel_rfl)
  have hb4_ := hall 4 (by kernel_rfl)
  have hb6_ := hall 6 (by kernel_rfl)
  have hb8_ := hall 8 (by kernel_rfl)
  have hb9_ := hall 9 (by kernel_rfl)
  have hb10_ := hall 10 (by kernel_rfl)
  have hb11_ := hall 11 (by kernel_rfl)
  have hb12_ := hall 12 (by kernel_rfl)
  have hb13_ := hall 13 (by kernel_rfl)
  subst ha
  obtain rfl := Q_X10_ hb10_
  obtain rfl := Q_X11_ hb11_
  simp only [putSel, hb1_, hb3_, hb4_, hb6_, hb8_, hb9_, hb10_, hb11_, hb12_, hb13_, if_true, Act.put, List.setIfInBounds_toArray, List.set_cons_zero, List.set_cons_succ]
  have BK672 := Aside0.mk Q_BK672
  clear Q_BK672
  have BK673 := Aside0.mk Q_BK673
  clear Q_BK673
  have BK674 := Aside0.mk Q_BK674
  clear Q_BK674
  have HB := Aside0.mk Q_HB
  clear Q_HB
  have NB680_679 := Aside0.mk (Q_NB680_679 hb10_ hb11_)
  clear Q_NB680_679
  have NB679_680 := Aside0.mk (Q_NB679_680 hb10_ hb11_)
  clear Q_NB679_680
  clear Q_BK679
  have GW679 := Aside0.mk (Q_GW679 hb10_)
  clear Q_GW679
  have GE679 := Aside0.mk (Q_GE679 hb10_)
  clear Q_GE679
  have NB672_679 := Aside0.mk (Q_NB672_679 hb10_)
  clear Q_NB672_679
  have NB679_672 := Aside0.mk (Q_NB679_672 hb10_)
  clear Q_NB679_672
  have NB673_679 := Aside0.mk (Q_NB673_679 hb10_)
  clear Q_NB673_679
  have NB679_673 := Aside0.mk (Q_NB679_673 hb10_)
  clear Q_NB679_673
  have NB674_679 := Aside0.mk (Q_NB674_679 hb10_)
  clear Q_NB674_679
  have NB679_674 := Aside0.mk (Q_NB679_674 hb10_)
  clear Q_NB679_674
  clear Q_BK680
  have GW680 := Aside0.mk (Q_GW680 hb11_)
  clear Q_GW680
  have GE680 := Aside0.mk (Q_GE680 hb11_)
  clear Q_GE680
  have NB672_680 := Aside0.mk (Q_NB672_680 hb11_)
  clear Q_NB672_680
  have NB680_672 := Aside0.mk (Q_NB680_672 hb11_)
  clear Q_NB680_672
  have NB673_680 := Aside0.mk (Q_NB673_680 hb11_)
  clear Q_NB673_680
  have NB680_673 := Aside0.mk (Q_NB680_673 hb11_)
  clear Q_NB680_673
  have NB674_680 := Aside0.mk (Q_NB674_680 hb11_)
  clear Q_NB674_680
  have NB680_674 := Aside0.mk (Q_NB680_674 hb11_)
  clear Q_NB680_674
  have BK679 := Aside0.mk (Q_BK679_e12 hb12_)
  clear Q_BK679_e12
  have BK680 := Aside0.mk (Q_BK680_e13 hb13_)
  clear Q_BK680_e13
  clear hall hb1_ hb3_ hb4_ hb6_ hb8_ hb9_ hb10_ hb11_ hb12_ hb13_
  try go_wp2
  replace BK672 := bd BK672
  replace BK673 := bd BK673
  replace BK674 := bd BK674
  replace BK679 := bd BK679
  replace BK680 := bd BK680
  replace HB := bdn HB
  refine start_ (n := 14) (S := fun w' => w'.cell? ⟨gb672, 0, none⟩ = some (.int .i64 a0_0) ∧ w'.cell? ⟨gb672, 1, none⟩ = some (.int .i64 a0_1) ∧ w'.cell? ⟨gb672, 2, none⟩ = some (.int .i64 a0_2) ∧ w'.cell? ⟨gb679, 0, none⟩ = some (.int .i64 t675) ∧ w'.cell? ⟨gb679, 1, none⟩ = some (.int .i64 t676) ∧ w'.cell? ⟨gb680, 0, none⟩ = some (.int .i64 t677) ∧ w'.cell? ⟨gb680, 1, none⟩ = some (.int .i64 t678)) (ds := []) #[false, false, false, false, false, false, false, false, false, false, false, false, false, false] (by kernel_rfl) rfl rfl ⟨(blk_cell BK672.out 0).trans rfl, (blk_cell BK672.out 1).trans rfl, (blk_cell BK672.out 2).trans rfl, (blk_cell BK679.out 0).trans rfl, (blk_cell BK679.out 1).trans rfl, (blk_cell BK680.out 0).trans rfl, (blk_cell BK680.out 1).trans rfl⟩ (fun hHeld => ?_); refine with_tabW torchonlaw06_lead.tab2 torchonlaw06_lead.bits2 (fun HT_ HW_ => ?_)
  generalize w20.drew = w21 at BK672 BK673 BK674 BK679 BK680 HB hHeld ⊢
  refine tz 0 17 HT_ HW_ hHeld ?_
  refine tz 1 18 HT_ HW_ hHeld ?_
  refine tz 2 19 HT_ HW_ hHeld ?_
  refine tz 4 21 HT_ HW_ hHeld ?_
  refine tz 5 22 HT_ HW_ hHeld ?_
  refine tz 6 23 HT_ HW_ hHeld ?_
  refine tz 8 25 HT_ HW_ hHeld ?_
  refine tz 9 26 HT_ HW_ hHeld ?_
  refine tz 10 27 HT_ HW_ hHeld ?_
  refine one_ (i := 3) (N := some 20) #[true, true, true, true, true, true, true, false, true, true, true, false, false, false] rfl rfl (one_of HT_.out (by kernel_rfl)) (by decide) (fun K hK => ?_)
  refine gs _ Try.func48 (torchonref06_Product.calls a0_0 a0_1 a0_2 t675 t676 t675 t676 t681 _ A5.out) ?_
  rintro e w22 ⟨rfl, hb⟩
  refine ⟨_, rfl, ?_⟩
  replace BK672 := bb BK672 hb
  replace BK673 := bb BK673 hb
  replace BK674 := bb BK674 hb
  replace BK679 := bb BK679 hb
  replace BK680 := bb BK680 hb
  replace HB := bst HB hb
  (try clear hb)
  (try clear hb2)
  (try clear hk)
  (try clear hi)
  refine hK.out _ _ ⟨(blk_cell BK672.out 0).trans rfl, (blk_cell BK672.out 1).trans rfl, (blk_cell BK672.out 2).trans rfl, (blk_cell BK679.out 0).trans rfl, (blk_cell BK679.out 1).trans rfl, (blk_cell BK680.out 0).trans rfl, (blk_cell BK680.out 1).trans rfl⟩ (fun hHeld => ?_)
  clear hK K
  refine norm_ (a' := ?_) ?_ ?_
  rotate_left
  · show Act.put _ (some 20) _ = _
    simp only [Act.put, List.setIfInBounds_toArray, List.set_cons_zero, List.set_cons_succ, i64_w, i32_w]
    rfl
  refine one_ (i := 7) (N := some 24) #[true, true, true, true, true, true, true, true, true, true, true, false, false, false] rfl rfl (one_of HT_.out (by kernel_rfl)) (by decide) (fun K hK => ?_)
  refine gs _ Try.func48 (torchonref06_Product.calls a0_0 a0_1 a0_2 t675 t676 t677 t678 t682 _ A6.out) ?_
  rintro e w23 ⟨rfl, hb⟩
  refine ⟨_, rfl, ?_⟩
  replace BK672 := bb BK672 hb
  replace BK673 := bb BK673 hb
  replace BK674 := bb BK674 hb
  replace BK679 := bb BK679 hb
  replace BK680 := bb BK680 hb
  replace HB := bst HB hb
  (try clear hb)
  (try clear hb2)
  (try clear hk)
  (try clear hi)
  refine hK.out _ _ ⟨(blk_cell BK672.out 0).trans rfl, (blk_cell BK672.out 1).trans rfl, (blk_cell BK672.out 2).trans rfl, (blk_cell BK679.out 0).trans rfl, (blk_cell BK679.out 1).trans rfl, (blk_cell BK680.out 0).trans rfl, (blk_cell BK680.out 1).trans rfl⟩ (fun hHeld => ?_)
  clear hK K
  refine norm_ (a' := ?_) ?_ ?_
  rotate_left
  · show Act.put _ (some 24) _ = _
    simp only [Act.put, List.setIfInBounds_toArray, List.set_cons_zero, List.set_cons_succ, i64_w, i32_w]
    rfl
  refine one_ (i := 11) (N := some 28) #[true, true, true, true, true, true, true, true, true, true, true, true, false, false] rfl rfl (one_of HT_.out (by kernel_rfl)) (by decide) (fun K hK => ?_)
  refine gs _ Try.func48 (torchonref06_Product.calls a0_0 a0_1 a0_2 t677 t678 t677 t678 t683 _ A7.out) ?_
  rintro e w24 ⟨rfl, hb⟩
  refine ⟨_, rfl, ?_⟩
  replace BK672 := bb BK672 hb
  replace BK673 := bb BK673 hb
  replace BK674 := bb BK674 hb
  replace BK679 := bb BK679 hb
  replace BK680 := bb BK680 hb
  replace HB := bst HB hb
  (try clear hb)
  (try clear hb2)
  (try clear hk)
  (try clear hi)
  refine hK.out _ _ ⟨(blk_cell BK672.out 0).trans rfl, (blk_cell BK672.out 1).trans rfl, (blk_cell BK672.out 2).trans rfl, (blk_cell BK679.out 0).trans rfl, (blk_cell BK679.out 1).trans rfl, (blk_cell BK680.out 0).trans rfl, (blk_cell BK680.out 1).trans rfl⟩ (fun hHeld => ?_)
  clear hK K
  refine norm_ (a' := ?_) ?_ ?_
  rotate_left
  · show Act.put _ (some 28) _ = _
    simp only [Act.put, List.setIfInBounds_toArray, List.set_cons_zero, List.set_cons_succ, i64_w, i32_w]
    rfl
  refine pz 12 29 HT_ ?_
  refine one_ (i := 13) (N := none) #[true, true, true, true, true, true, true, true, true, true, true, true, true, true] rfl rfl (one_of HT_.out (by kernel_rfl)) (by decide) (fun K hK => ?_)
  have hs25 : w24.cell? ⟨gb674, 0, none⟩ = some (.int .i64 0) := (blk_cell BK674.out 0).trans rfl
  have hfs25 := blk_frozen BK674.out 0
  have hns25_0 := NB672_674.out
  have hns25_1 := NB673_674.out
  have hns25_3 := NB679_674.out
  have hns25_4 := NB680_674.out
  have hms25_0 := NB674_672.out
  have hms25_1 := NB674_673.out
  have hms25_3 := NB674_679.out
  have hms25_4 := NB674_680.out
  have hs26 : w24.cell? ⟨gb674, 1, none⟩ = some (.int .i64 0) := (blk_cell BK674.out 1).trans rfl
  have hfs26 := blk_frozen BK674.out 1
  have hns26_0 := NB672_674.out
  have hns26_1 := NB673_674.out
  have hns26_3 := NB679_674.out
  have hns26_4 := NB680_674.out
  have hms26_0 := NB674_672.out
  have hms26_1 := NB674_673.out
  have hms26_3 := NB674_679.out
  have hms26_4 := NB674_680.out
  have hs27 : w24.cell? ⟨gb674, 2, none⟩ = some (.int .i64 0) := (blk_cell BK674.out 2).trans rfl
  have hfs27 := blk_frozen BK674.out 2
  have hns27_0 := NB672_674.out
  have hns27_1 := NB673_674.out
  have hns27_3 := NB679_674.out
  have hns27_4 := NB680_674.out
  have hms27_0 := NB674_672.out
  have hms27_1 := NB674_673.out
  have hms27_3 := NB674_679.out
  have hms27_4 := NB674_680.out
  refine skip_ (w1 := ?_) (by rfl) rfl ?_ ?_
  rotate_left
  · go_simp
    rfl
  refine hK.out _ _ ⟨((cell_far (p := ⟨gb674, _, none⟩) NB672_674.out _).trans (((cell_far (p := ⟨gb674, _, none⟩) NB672_674.out _).trans (((cell_far (p := ⟨gb674, _, none⟩) NB672_674.out _).trans (hHeld.1)))))), ((cell_far (p := ⟨gb674, _, none⟩) NB672_674.out _).trans (((cell_far (p := ⟨gb674, _, none⟩) NB672_674.out _).trans (((cell_far (p := ⟨gb674, _, none⟩) NB672_674.out _).trans (hHeld.2.1)))))), ((cell_far (p := ⟨gb674, _, none⟩) NB672_674.out _).trans (((cell_far (p := ⟨gb674, _, none⟩) NB672_674.out _).trans (((cell_far (p := ⟨gb674, _, none⟩) NB672_674.out _).trans (hHeld.2.2.1)))))), ((cell_far (p := ⟨gb674, _, none⟩) NB679_674.out _).trans (((cell_far (p := ⟨gb674, _, none⟩) NB679_674.out _).trans (((cell_far (p := ⟨gb674, _, none⟩) NB679_674.out _).trans (hHeld.2.2.2.1)))))), ((cell_far (p := ⟨gb674, _, none⟩) NB679_674.out _).trans (((cell_far (p := ⟨gb674, _, none⟩) NB679_674.out _).trans (((cell_far (p := ⟨gb674, _, none⟩) NB679_674.out _).trans (hHeld.2.2.2.2.1)))))), ((cell_far (p := ⟨gb674, _, none⟩) NB680_674.out _).trans (((cell_far (p := ⟨gb674, _, none⟩) NB680_674.out _).trans (((cell_far (p := ⟨gb674, _, none⟩) NB680_674.out _).trans (hHeld.2.2.2.2.2.1)))))), ((cell_far (p := ⟨gb674, _, none⟩) NB680_674.out _).trans (((cell_far (p := ⟨gb674, _, none⟩) NB680_674.out _).trans (((cell_far (p := ⟨gb674, _, none⟩) NB680_674.out _).trans (hHeld.2.2.2.2.2.2))))))⟩ (fun hHeld => ?_)
  clear hK K
  refine done_ (done_of HT_.out (by kernel_rfl)) ?_
  try go_wp2
  refine bodyPost_ret (results_cell_row rfl _ _ gb674 23 #[.int .i64 t681, .int .i64 t682, .int .i64 t683] (0, 0) _ rfl (by (with_reducible repeat (first | refine blk_drewN ?_ _ | refine blk_drew ?_ | refine blk_alloc ?_ _)); refine blk_put (cs := #[.int .i64 t681, .int .i64 t682, .int .i64 0]) ?_ 2 _ rfl; (with_reducible repeat (first | refine blk_drewN ?_ _ | refine blk_drew ?_ | refine blk_alloc ?_ _)); refine blk_put (cs := #[.int .i64 t681, .int .i64 0, .int .i64 0]) ?_ 1 _ rfl; (with_reducible repeat (first | refine blk_drewN ?_ _ | refine blk_drew ?_ | refine blk_alloc ?_ _)); refine blk_put (cs := #[.int .i64 0, .int .i64 0, .int .i64 0]) ?_ 0 _ rfl; (with_reducible repeat (first | refine blk_drewN ?_ _ | refine blk_drew ?_ | refine blk_alloc ?_ _)); exact BK674.out) Try.underlying23 rfl (by kernel_rfl)) rfl ?_
  exact rt HB
end
end Go.Proofs.Ytmcajdepoohlhaa.G
