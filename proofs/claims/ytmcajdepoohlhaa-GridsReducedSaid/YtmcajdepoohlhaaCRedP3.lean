/- Functions of the program as plain Lean functions, and their contracts (printed by a program of this session). No condition beyond what each states. -/
import Derived.Test.YtmcajdepoohlhaaCRedY
import Derived.Test.YtmcajdepoohlhaaCRedP0
import Derived.Test.YtmcajdepoohlhaaCRedP2
import Derived.Test.YtmcajdepoohlhaaCRedP1
namespace Go.Proofs.Ytmcajdepoohlhaa.G
open Go.RowKit Go.Proofs.YtmcajdepoohlhaaW.PrintWords Go.Proofs.YtmcajdepoohlhaaW.PrintLast Go.Proofs.YtmcajdepoohlhaaW.PrintMore
attribute [local go_sem] max2_int min2_int max_two min_two max_three min_three max_four min_four
set_option linter.unusedVariables false
set_option linter.unusedSimpArgs false
section
/-! ### torchonlaw06_lead: function 16 -/
def torchonlaw06_lead.f (a0_0 : Int) (a0_1 : Int) (a0_2 : Int) (a1_0 : Int) (a1_1 : Int) (a1_2 : Int) (a1_3 : Int) : Option (Int × Int × Int) := (torchonlaw06_pt.f a1_0 a1_2).bind fun bt675 => ((torchonlaw06_pt.f a1_1 a1_3).bind fun bt677 => ((torchonref06_Product.f a0_0 a0_1 a0_2 bt675.1 bt675.2 bt675.1 bt675.2).bind fun t681 => ((torchonref06_Product.f a0_0 a0_1 a0_2 bt675.1 bt675.2 bt677.1 bt677.2).bind fun t682 => ((torchonref06_Product.f a0_0 a0_1 a0_2 bt677.1 bt677.2 bt677.1 bt677.2).bind fun t683 => (some (t681, t682, t683))))))
def torchonlaw06_lead.T1 : Bool × List (List Nat × List Nat) := (true, [([], []), ([0], [0]), ([], []), ([2], [2]), ([1, 3], [1, 3]), ([], []), ([5], [5]), ([], []), ([7], [7]), ([6, 8, 4], [6, 8]), ([], []), ([], []), ([10, 4, 9, 0, 1, 2, 3, 4, 10, 11], [4, 10]), ([11, 9, 12, 0, 1, 2, 3, 4, 5, 6, 7, 8, 9, 10, 11, 12], [9, 11])])
def torchonlaw06_lead.B1 : List Nat := [0, 1, 0, 4, 15, 0, 32, 0, 128, 511, 0, 0, 4095, 8191]
theorem torchonlaw06_lead.tab1 : rtab .any (opsOf Try.f16 1) = torchonlaw06_lead.T1 := by kernel_rfl
theorem torchonlaw06_lead.bits1 : waitsOk torchonlaw06_lead.T1.2 torchonlaw06_lead.B1 = true := by kernel_rfl
def torchonlaw06_lead.T2 : Bool × List (List Nat × List Nat) := (true, [([], []), ([], []), ([], []), ([0, 1, 2], [0, 1, 2]), ([], []), ([], []), ([], []), ([4, 5, 6, 3], [4, 5, 6]), ([], []), ([], []), ([], []), ([8, 9, 10, 7], [8, 9, 10]), ([3, 7, 11], [3, 7, 11]), ([12, 11, 0, 1, 2, 3, 4, 5, 6, 7, 8, 9, 10, 11, 12], [12])])
def torchonlaw06_lead.B2 : List Nat := [0, 0, 0, 7, 0, 0, 0, 127, 0, 0, 0, 2047, 4095, 8191]
theorem torchonlaw06_lead.tab2 : rtab .any (opsOf Try.f16 2) = torchonlaw06_lead.T2 := by kernel_rfl
theorem torchonlaw06_lead.bits2 : waitsOk torchonlaw06_lead.T2.2 torchonlaw06_lead.B2 = true := by kernel_rfl
set_option maxHeartbeats 8000000 in
set_option maxRecDepth 100000 in
theorem torchonlaw06_lead.calls (a0_0 : Int) (a0_1 : Int) (a0_2 : Int) (a1_0 : Int) (a1_1 : Int) (a1_2 : Int) (a1_3 : Int) (r1 : Int) (r2 : Int) (r3 : Int) (w : World) (h : torchonlaw06_lead.f a0_0 a0_1 a0_2 a1_0 a1_1 a1_2 a1_3 = some (r1, r2, r3)) :
    Calls Try.prog 16 #[.agg #[.int .i64 a0_0, .int .i64 a0_1, .int .i64 a0_2], .agg #[.int .i64 a1_0, .int .i64 a1_1, .int .i64 a1_2, .int .i64 a1_3]] w fun e w' => e = .returned (.agg #[.int .i64 r1, .int .i64 r2, .int .i64 r3]) ∧ Below w.heap.size w w' := by
  have hu23 := Try.underlying23
  have hu25 := Try.underlying25
  have hu37 := Try.underlying37
  have HB := Aside0.mk (Below.refl w.heap.size w)
  have H : ((torchonlaw06_pt.f a1_0 a1_2).bind fun bt675 => ((torchonlaw06_pt.f a1_1 a1_3).bind fun bt677 => ((torchonref06_Product.f a0_0 a0_1 a0_2 bt675.1 bt675.2 bt675.1 bt675.2).bind fun t681 => ((torchonref06_Product.f a0_0 a0_1 a0_2 bt675.1 bt675.2 bt677.1 bt677.2).bind fun t682 => ((torchonref06_Product.f a0_0 a0_1 a0_2 bt677.1 bt677.2 bt677.1 bt677.2).bind fun t683 => (some (t681, t682, t683))))))) = some (r1, r2, r3) := h
  clear h
  replace H := Option.bind_eq_some_iff.mp H
  obtain ⟨⟨t675, t676⟩, A30, H⟩ := H
  replace H : ((torchonlaw06_pt.f a1_1 a1_3).bind fun bt677 => ((torchonref06_Product.f a0_0 a0_1 a0_2 t675 t676 t675 t676).bind fun t681 => ((torchonref06_Product.f a0_0 a0_1 a0_2 t675 t676 bt677.1 bt677.2).bind fun t682 => ((torchonref06_Product.f a0_0 a0_1 a0_2 bt677.1 bt677.2 bt677.1 bt677.2).bind fun t683 => (some (t681, t682, t683)))))) = some (r1, r2, r3) := H
  have A3 := Aside0.mk A30
  clear A30
  replace H := Option.bind_eq_some_iff.mp H
  obtain ⟨⟨t677, t678⟩, A40, H⟩ := H
  replace H : ((torchonref06_Product.f a0_0 a0_1 a0_2 t675 t676 t675 t676).bind fun t681 => ((torchonref06_Product.f a0_0 a0_1 a0_2 t675 t676 t677 t678).bind fun t682 => ((torchonref06_Product.f a0_0 a0_1 a0_2 t677 t678 t677 t678).bind fun t683 => (some (t681, t682, t683))))) = some (r1, r2, r3) := H
  have A4 := Aside0.mk A40
  clear A40
  replace H := Option.bind_eq_some_iff.mp H
  obtain ⟨t681, A50, H⟩ := H
  replace H : ((torchonref06_Product.f a0_0 a0_1 a0_2 t675 t676 t677 t678).bind fun t682 => ((torchonref06_Product.f a0_0 a0_1 a0_2 t677 t678 t677 t678).bind fun t683 => (some (t681, t682, t683)))) = some (r1, r2, r3) := H
  have A5 := Aside0.mk A50
  clear A50
  replace H := Option.bind_eq_some_iff.mp H
  obtain ⟨t682, A60, H⟩ := H
  replace H : ((torchonref06_Product.f a0_0 a0_1 a0_2 t677 t678 t677 t678).bind fun t683 => (some (t681, t682, t683))) = some (r1, r2, r3) := H
  have A6 := Aside0.mk A60
  clear A60
  replace H := Option.bind_eq_some_iff.mp H
  obtain ⟨t683, A70, H⟩ := H
  replace H : (some (t681, t682, t683)) = some (r1, r2, r3) := H
  have A7 := Aside0.mk A70
  clear A70
  simp only [Option.some.injEq, Prod.mk.injEq] at H
  obtain ⟨rfl, rfl, rfl⟩ := H
  go_enter Try.func16, Try.ntmps16
  try go_wp2_with (first | ((with_reducible refine gate_dst (N := 2) rfl ?_); refine bx 2 #[.int .i64 a0_0, .int .i64 a0_1, .int .i64 a0_2] 23 fun gb672 hg w8 BK672 hb => ?_; have GW672 := gw hg HB; have GE672 := gw hg HB; replace HB := bst HB hb; clear hb hg) | ((with_reducible refine gate_dst (N := 3) rfl ?_); refine bx 3 #[.int .i64 a1_0, .int .i64 a1_1, .int .i64 a1_2, .int .i64 a1_3] 25 fun gb673 hg w9 BK673 hb => ?_; have GW673 := gw hg HB; have GE673 := gw hg HB; have NB672_673 := nlt hg BK672; have NB673_672 := ngt hg BK672; replace BK672 := bb BK672 hb; replace HB := bst HB hb; clear hb hg) | ((with_reducible refine gate_dst (N := 4) rfl ?_); refine bx 4 #[.int .i64 0, .int .i64 0, .int .i64 0] 23 fun gb674 hg w10 BK674 hb => ?_; have GW674 := gw hg HB; have GE674 := gw hg HB; have NB672_674 := nlt hg BK672; have NB674_672 := ngt hg BK672; have NB673_674 := nlt hg BK673; have NB674_673 := ngt hg BK673; replace BK672 := bb BK672 hb; replace BK673 := bb BK673 hb; replace HB := bst HB hb; clear hb hg))
  replace BK672 := bd BK672
  replace BK673 := bd BK673
  replace BK674 := bd BK674
  replace HB := bdn HB
  refine start_ (n := 14) (S := fun w' => True) (ds := []) #[false, false, false, false, false, false, false, false, false, false, false, false, false, false] (by kernel_rfl) rfl rfl trivial (fun hHeld => ?_); refine with_tabW torchonlaw06_lead.tab1 torchonlaw06_lead.bits1 (fun HT_ HW_ => ?_)
  generalize w10.drew = w11 at BK672 BK673 BK674 HB hHeld ⊢
  refine pz 0 7 HT_ ?_
  refine pz 2 9 HT_ ?_
  refine pz 5 12 HT_ ?_
  refine pz 7 14 HT_ ?_
  refine inv_at [1, 3, 4, 6, 8, 9, 10, 11, 12, 13] (fun a0_ b a w' => ∃ (gb679 : Nat) (gb680 : Nat) (m10_ : Value) (m11_ : Value), a = putSel a0_ b [(1, 8, .int .i64 a1_0), (3, 10, .int .i64 a1_2), (4, 11, .agg #[.int .i64 t675, .int .i64 t676]), (6, 13, .int .i64 a1_1), (8, 15, .int .i64 a1_3), (9, 16, .agg #[.int .i64 t677, .int .i64 t678]), (10, 5, m10_), (11, 6, m11_)] ∧ (w'.heap[gb672]? = some (.cells #[.int .i64 a0_0, .int .i64 a0_1, .int .i64 a0_2] 23 (0, 0))) ∧ (w'.heap[gb673]? = some (.cells #[.int .i64 a1_0, .int .i64 a1_1, .int .i64 a1_2, .int .i64 a1_3] 25 (0, 0))) ∧ (w'.heap[gb674]? = some (.cells #[.int .i64 0, .int .i64 0, .int .i64 0] 23 (0, 0))) ∧ (Below w.heap.size w w') ∧ (b 10 = true → b 11 = true → gb680 ≠ gb679) ∧ (b 10 = true → b 11 = true → gb679 ≠ gb680) ∧ (b 10 = true → b 12 = false → w'.heap[gb679]? = some (.cells #[.int .i64 0, .int .i64 0] 37 (0, 0))) ∧ (b 10 = true → w.heap.size ≤ gb679) ∧ (b 10 = true → w.heap.size ≤ gb679) ∧ (b 10 = true → gb672 ≠ gb679) ∧ (b 10 = true → gb679 ≠ gb672) ∧ (b 10 = true → gb673 ≠ gb679) ∧ (b 10 = true → gb679 ≠ gb673) ∧ (b 10 = true → gb674 ≠ gb679) ∧ (b 10 = true → gb679 ≠ gb674) ∧ (b 11 = true → b 13 = false → w'.heap[gb680]? = some (.cells #[.int .i64 0, .int .i64 0] 37 (0, 0))) ∧ (b 11 = true → w.heap.size ≤ gb680) ∧ (b 11 = true → w.heap.size ≤ gb680) ∧ (b 11 = true → gb672 ≠ gb680) ∧ (b 11 = true → gb680 ≠ gb672) ∧ (b 11 = true → gb673 ≠ gb680) ∧ (b 11 = true → gb680 ≠ gb673) ∧ (b 11 = true → gb674 ≠ gb680) ∧ (b 11 = true → gb680 ≠ gb674) ∧ (b 12 = true → w'.heap[gb679]? = some (.cells #[.int .i64 t675, .int .i64 t676] 37 (0, 0))) ∧ (b 13 = true → w'.heap[gb680]? = some (.cells #[.int .i64 t677, .int .i64 t678] 37 (0, 0))) ∧ (b 10 = true → (m10_ : Value) = .pointer (some ⟨gb679, 0, none⟩)) ∧ (b 11 = true → (m11_ : Value) = .pointer (some ⟨gb680, 0, none⟩))) HT_.out HW_.out (by kernel_rfl) (by kernel_rfl) ?_ ?_ ?_
  · exact ⟨0, 0, .bool false, .bool false, by simp only [putSel, Bool.false_eq_true, if_false], BK672.out, BK673.out, BK674.out, HB.out, fun h_ => absurd h_ (by decide), fun h_ => absurd h_ (by decide), fun h_ => absurd h_ (by decide), fun h_ => absurd h_ (by decide), fun h_ => absurd h_ (by decide), fun h_ => absurd h_ (by decide), fun h_ => absurd h_ (by decide), fun h_ => absurd h_ (by decide), fun h_ => absurd h_ (by decide), fun h_ => absurd h_ (by decide), fun h_ => absurd h_ (by decide), fun h_ => absurd h_ (by decide), fun h_ => absurd h_ (by decide), fun h_ => absurd h_ (by decide), fun h_ => absurd h_ (by decide), fun h_ => absurd h_ (by decide), fun h_ => absurd h_ (by decide), fun h_ => absurd h_ (by decide), fun h_ => absurd h_ (by decide), fun h_ => absurd h_ (by decide), fun h_ => absurd h_ (by decide), fun h_ => absurd h_ (by decide), fun h_ => absurd h_ (by decide), fun h_ => absurd h_ (by decide)⟩
  · skip
    clear BK672 BK673 BK674 HB
    refine steps_cons ?_ ?_
    · rintro b a w' ⟨gb679, gb680, m10_, m11_, ha, Q_BK672, Q_BK673, Q_BK674, Q_HB, Q_NB680_679, Q_NB679_680, Q_BK679, Q_GW679, Q_GE679, Q_NB672_679, Q_NB679_672, Q_NB673_679, Q_NB679_673, Q_NB674_679, Q_NB679_674, Q_BK680, Q_GW680, Q_GE680, Q_NB672_680, Q_NB680_672, Q_NB673_680, Q_NB680_673, Q_NB674_680, Q_NB680_674, Q_BK679_e12, Q_BK680_e13, Q_X10_, Q_X11_⟩ hb_ hon hoff
      refine ⟨_, rfl, fun K hK => ?_⟩
      have e7 : a.tmps[7]? = some (.pointer (some ⟨gb673, 0, none⟩)) := by rw [ha]; exact (putSel_off rfl).trans rfl
      replace ha := Aside0.mk ha
      have BK672 := Aside0.mk Q_BK672
      have BK673 := Aside0.mk Q_BK673
      have BK674 := Aside0.mk Q_BK674
      have HB := Aside0.mk Q_HB
      have hc0_ : w'.cell? ⟨gb673, 0, none⟩ = some (.int .i64 a1_0) := (blk_cell BK673.out 0).trans rfl
      have hc1_ : w'.cell? ⟨gb673, 1, none⟩ = some (.int .i64 a1_1) := (blk_cell BK673.out 1).trans rfl
      have hc2_ : w'.cell? ⟨gb673, 2, none⟩ = some (.int .i64 a1_2) := (blk_cell BK673.out 2).trans rfl
      have hc3_ : w'.cell? ⟨gb673, 3, none⟩ = some (.int .i64 a1_3) := (blk_cell BK673.out 3).trans rfl
      refine value_ (w1 := w') (v := .int .i64 a1_0) (by rfl) rfl ?_ ?_
      · go_simp
        (try simp only [i64_w])
        try rfl
      refine hK.out _ _ ⟨gb679, gb680, m10_, m11_, (by rw [ha.out]; exact putSel_upk 0 hb_ rfl rfl rfl), Q_BK672, Q_BK673, Q_BK674, Q_HB, Q_NB680_679, Q_NB679_680, Q_BK679, Q_GW679, Q_GE679, Q_NB672_679, Q_NB679_672, Q_NB673_679, Q_NB679_673, Q_NB674_679, Q_NB679_674, Q_BK680, Q_GW680, Q_GE680, Q_NB672_680, Q_NB680_672, Q_NB673_680, Q_NB680_673, Q_NB674_680, Q_NB680_674, fun h0_ => absurd ((hoff 12 (by kernel_rfl)).symm.trans h0_) (by decide), fun h0_ => absurd ((hoff 13 (by kernel_rfl)).symm.trans h0_) (by decide), Q_X10_, Q_X11_⟩
    refine steps_cons ?_ ?_
    · rintro b a w' ⟨gb679, gb680, m10_, m11_, ha, Q_BK672, Q_BK673, Q_BK674, Q_HB, Q_NB680_679, Q_NB679_680, Q_BK679, Q_GW679, Q_GE679, Q_NB672_679, Q_NB679_672, Q_NB673_679, Q_NB679_673, Q_NB674_679, Q_NB679_674, Q_BK680, Q_GW680, Q_GE680, Q_NB672_680, Q_NB680_672, Q_NB673_680, Q_NB680_673, Q_NB674_680, Q_NB680_674, Q_BK679_e12, Q_BK680_e13, Q_X10_, Q_X11_⟩ hb_ hon hoff
      refine ⟨_, rfl, fun K hK => ?_⟩
      have e9 : a.tmps[9]? = some (.pointer (some ⟨gb673, 2, none⟩)) := by rw [ha]; exact (putSel_off rfl).trans rfl
      replace ha := Aside0.mk ha
      have BK672 := Aside0.mk Q_BK672
      have BK673 := Aside0.mk Q_BK673
      have BK674 := Aside0.mk Q_BK674
      have HB := Aside0.mk Q_HB
      have hc0_ : w'.cell? ⟨gb673, 0, none⟩ = some (.int .i64 a1_0) := (blk_cell BK673.out 0).trans rfl
      have hc1_ : w'.cell? ⟨gb673, 1, none⟩ = some (.int .i64 a1_1) := (blk_cell BK673.out 1).trans rfl
      have hc2_ : w'.cell? ⟨gb673, 2, none⟩ = some (.int .i64 a1_2) := (blk_cell BK673.out 2).trans rfl
      have hc3_ : w'.cell? ⟨gb673, 3, none⟩ = some (.int .i64 a1_3) := (blk_cell BK673.out 3).trans rfl
      refine value_ (w1 := w') (v := .int .i64 a1_2) (by rfl) rfl ?_ ?_
      · go_simp
        (try simp only [i64_w])
        try rfl
      refine hK.out _ _ ⟨gb679, gb680, m10_, m11_, (by rw [ha.out]; exact putSel_upk 1 hb_ rfl rfl rfl), Q_BK672, Q_BK673, Q_BK674, Q_HB, Q_NB680_679, Q_NB679_680, Q_BK679, Q_GW679, Q_GE679, Q_NB672_679, Q_NB679_672, Q_NB673_679, Q_NB679_673, Q_NB674_679, Q_NB679_674, Q_BK680, Q_GW680, Q_GE680, Q_NB672_680, Q_NB680_672, Q_NB673_680, Q_NB680_673, Q_NB674_680, Q_NB680_674, fun h0_ => absurd ((hoff 12 (by kernel_rfl)).symm.trans h0_) (by decide), fun h0_ => absurd ((hoff 13 (by kernel_rfl)).symm.trans h0_) (by decide), Q_X10_, Q_X11_⟩
    refine steps_cons ?_ ?_
    · rintro b a w' ⟨gb679, gb680, m10_, m11_, ha, Q_BK672, Q_BK673, Q_BK674, Q_HB, Q_NB680_679, Q_NB679_680, Q_BK679, Q_GW679, Q_GE679, Q_NB672_679, Q_NB679_672, Q_NB673_679, Q_NB679_673, Q_NB674_679, Q_NB679_674, Q_BK680, Q_GW680, Q_GE680, Q_NB672_680, Q_NB680_672, Q_NB673_680, Q_NB680_673, Q_NB674_680, Q_NB680_674, Q_BK679_e12, Q_BK680_e13, Q_X10_, Q_X11_⟩ hb_ hon hoff
      refine ⟨_, rfl, fun K hK => ?_⟩
      have e8 : a.tmps[8]? = some (.int .i64 a1_0) := by rw [ha]; exact putSel_on (e := (1, 8, .int .i64 a1_0)) 0 rfl rfl (hon 1 (by kernel_rfl)) rfl
      have e10 : a.tmps[10]? = some (.int .i64 a1_2) := by rw [ha]; exact putSel_on (e := (3, 10, .int .i64 a1_2)) 1 rfl rfl (hon 3 (by kernel_rfl)) rfl
      replace ha := Aside0.mk ha
      have BK672 := Aside0.mk Q_BK672
      have BK673 := Aside0.mk Q_BK673
      have BK674 := Aside0.mk Q_BK674
      have HB := Aside0.mk Q_HB
      refine goes_ Try.func19 (by kernel_rfl) rfl #[.int .i64 a1_0, .int .i64 a1_2] (by rfl) rfl rfl (by first | (simp only [List.map_toArray, List.map_cons, List.map_nil, Act.eval, Array.getD_eq_getD_getElem?, Option.getD_some, e8, e10]; done) | (simp only [List.map_toArray, List.map_cons, List.map_nil, Act.eval, Array.getD_eq_getD_getElem?, Option.getD_some, e8, e10]; rfl)) ?_
      with_reducible refine (torchonlaw06_pt.calls a1_0 a1_2 t675 t676 _ A3.out).mono ?_
      rintro e w12 ⟨rfl, hb⟩
      refine ⟨_, rfl, ?_⟩
      have n0_ := bb BK672 hb
      have n1_ := bb BK673 hb
      have n2_ := bb BK674 hb
      have n3_ := bst HB hb
      have z_BK679 := fun (h0_ : b 10 = true) (h1_ : b 12 = false) => (show w12.heap[gb679]? = some (.cells #[.int .i64 0, .int .i64 0] 37 (0, 0)) from by first | exact (blk_below (g := gb679) (o := .cells #[.int .i64 0, .int .i64 0] 37 (0, 0)) (by (with_reducible repeat (first | refine blk_drewN ?_ _ | refine blk_drew ?_ | refine blk_alloc ?_ _)); exact (Q_BK679 h0_ h1_)) hb))
      have z_BK680 := fun (h0_ : b 11 = true) (h1_ : b 13 = false) => (show w12.heap[gb680]? = some (.cells #[.int .i64 0, .int .i64 0] 37 (0, 0)) from by first | exact (blk_below (g := gb680) (o := .cells #[.int .i64 0, .int .i64 0] 37 (0, 0)) (by (with_reducible repeat (first | refine blk_drewN ?_ _ | refine blk_drew ?_ | refine blk_alloc ?_ _)); exact (Q_BK680 h0_ h1_)) hb))
      clear BK672
      clear BK673
      clear BK674
      clear HB
      have BK672 := n0_
      have BK673 := n1_
      have BK674 := n2_
      have HB := n3_
      clear n0_ n1_ n2_ n3_
      (try clear hb)
      (try clear hb2)
      (try clear hk)
      (try clear hi)
      refine hK.out _ _ ⟨gb679, gb680, m10_, m11_, (by rw [ha.out]; exact putSel_upk 2 hb_ rfl rfl rfl), (pk BK672), (pk BK673), (pk BK674), (bnow HB), Q_NB680_679, Q_NB679_680, z_BK679, Q_GW679, Q_GE679, Q_NB672_679, Q_NB679_672, Q_NB673_679, Q_NB679_673, Q_NB674_679, Q_NB679_674, z_BK680, Q_GW680, Q_GE680, Q_NB672_680, Q_NB680_672, Q_NB673_680, Q_NB680_673, Q_NB674_680, Q_NB680_674, fun h0_ => absurd ((hoff 12 (by kernel_rfl)).symm.trans h0_) (by decide), fun h0_ => absurd ((hoff 13 (by kernel_rfl)).symm.trans h0_) (by decide), Q_X10_, Q_X11_⟩
    refine steps_cons ?_ ?_
    · rintro b a w' ⟨gb679, gb680, m10_, m11_, ha, Q_BK672, Q_BK673, Q_BK674, Q_HB, Q_NB680_679, Q_NB679_680, Q_BK679, Q_GW679, Q_GE679, Q_NB672_679, Q_NB679_672, Q_NB673_679, Q_NB679_673, Q_NB674_679, Q_NB679_674, Q_BK680, Q_GW680, Q_GE680, Q_NB672_680, Q_NB680_672, Q_NB673_680, Q_NB680_673, Q_NB674_680, Q_NB680_674, Q_BK679_e12, Q_BK680_e13, Q_X10_, Q_X11_⟩ hb_ hon hoff
      refine ⟨_, rfl, fun K hK => ?_⟩
      have e12 : a.tmps[12]? = some (.pointer (some ⟨gb673, 1, none⟩)) := by rw [ha]; exact (putSel_off rfl).trans rfl
      replace ha := Aside0.mk ha
      have BK672 := Aside0.mk Q_BK672
      have BK673 := Aside0.mk Q_BK673
      have BK674 := Aside0.mk Q_BK674
      have HB := Aside0.mk Q_HB
      have hc0_ : w'.cell? ⟨gb673, 0, none⟩ = some (.int .i64 a1_0) := (blk_cell BK673.out 0).trans rfl
      have hc1_ : w'.cell? ⟨gb673, 1, none⟩ = some (.int .i64 a1_1) := (blk_cell BK673.out 1).trans rfl
      have hc2_ : w'.cell? ⟨gb673, 2, none⟩ = some (.int .i64 a1_2) := (blk_cell BK673.out 2).trans rfl
      have hc3_ : w'.cell? ⟨gb673, 3, none⟩ = some (.int .i64 a1_3) := (blk_cell BK673.out 3).trans rfl
      refine value_ (w1 := w') (v := .int .i64 a1_1) (by rfl) rfl ?_ ?_
      · go_simp
        (try simp only [i64_w])
        try rfl
      refine hK.out _ _ ⟨gb679, gb680, m10_, m11_, (by rw [ha.out]; exact putSel_upk 3 hb_ rfl rfl rfl), Q_BK672, Q_BK673, Q_BK674, Q_HB, Q_NB680_679, Q_NB679_680, Q_BK679, Q_GW679, Q_GE679, Q_NB672_679, Q_NB679_672, Q_NB673_679, Q_NB679_673, Q_NB674_679, Q_NB679_674, Q_BK680, Q_GW680, Q_GE680, Q_NB672_680, Q_NB680_672, Q_NB673_680, Q_NB680_673, Q_NB674_680, Q_NB680_674, fun h0_ => absurd ((hoff 12 (by kernel_rfl)).symm.trans h0_) (by decide), fun h0_ => absurd ((hoff 13 (by kernel_rfl)).symm.trans h0_) (by decide), Q_X10_, Q_X11_⟩
    refine steps_cons ?_ ?_
    · rintro b a w' ⟨gb679, gb680, m10_, m11_, ha, Q_BK672, Q_BK673, Q_BK674, Q_HB, Q_NB680_679, Q_NB679_680, Q_BK679, Q_GW679, Q_GE679, Q_NB672_679, Q_NB679_672, Q_NB673_679, Q_NB679_673, Q_NB674_679, Q_NB679_674, Q_BK680, Q_GW680, Q_GE680, Q_NB672_680, Q_NB680_672, Q_NB673_680, Q_NB680_673, Q_NB674_680, Q_NB680_674, Q_BK679_e12, Q_BK680_e13, Q_X10_, Q_X11_⟩ hb_ hon hoff
      refine ⟨_, rfl, fun K hK => ?_⟩
      have e14 : a.tmps[14]? = some (.pointer (some ⟨gb673, 3, none⟩)) := by rw [ha]; exact (putSel_off rfl).trans rfl
      replace ha := Aside0.mk ha
      have BK672 := Aside0.mk Q_BK672
      have BK673 := Aside0.mk Q_BK673
      have BK674 := Aside0.mk Q_BK674
      have HB := Aside0.mk Q_HB
      have hc0_ : w'.cell? ⟨gb673, 0, none⟩ = some (.int .i64 a1_0) := (blk_cell BK673.out 0).trans rfl
      have hc1_ : w'.cell? ⟨gb673, 1, none⟩ = some (.int .i64 a1_1) := (blk_cell BK673.out 1).trans rfl
      have hc2_ : w'.cell? ⟨gb673, 2, none⟩ = some (.int .i64 a1_2) := (blk_cell BK673.out 2).trans rfl
      have hc3_ : w'.cell? ⟨gb673, 3, none⟩ = some (.int .i64 a1_3) := (blk_cell BK673.out 3).trans rfl
      refine value_ (w1 := w') (v := .int .i64 a1_3) (by rfl) rfl ?_ ?_
      · go_simp
        (try simp only [i64_w])
        try rfl
      refine hK.out _ _ ⟨gb679, gb680, m10_, m11_, (by rw [ha.out]; exact putSel_upk 4 hb_ rfl rfl rfl), Q_BK672, Q_BK673, Q_BK674, Q_HB, Q_NB680_679, Q_NB679_680, Q_BK679, Q_GW679, Q_GE679, Q_NB672_679, Q_NB679_672, Q_NB673_679, Q_NB679_673, Q_NB674_679, Q_NB679_674, Q_BK680, Q_GW680, Q_GE680, Q_NB672_680, Q_NB680_672, Q_NB673_680, Q_NB680_673, Q_NB674_680, Q_NB680_674, fun h0_ => absurd ((hoff 12 (by kernel_rfl)).symm.trans h0_) (by decide), fun h0_ => absurd ((hoff 13 (by kernel_rfl)).symm.trans h0_) (by decide), Q_X10_, Q_X11_⟩
    refine steps_cons ?_ ?_
    · rintro b a w' ⟨gb679, gb680, m10_, m11_, ha, Q_BK672, Q_BK673, Q_BK674, Q_HB, Q_NB680_679, Q_NB679_680, Q_BK679, Q_GW679, Q_GE679, Q_NB672_679, Q_NB679_672, Q_NB673_679, Q_NB679_673, Q_NB674_679, Q_NB679_674, Q_BK680, Q_GW680, Q_GE680, Q_NB672_680, Q_NB680_672, Q_NB673_680, Q_NB680_673, Q_NB674_680, Q_NB680_674, Q_BK679_e12, Q_BK680_e13, Q_X10_, Q_X11_⟩ hb_ hon hoff
      refine ⟨_, rfl, fun K hK => ?_⟩
      have e13 : a.tmps[13]? = some (.int .i64 a1_1) := by rw [ha]; exact putSel_on (e := (6, 13, .int .i64 a1_1)) 3 rfl rfl (hon 6 (by kernel_rfl)) rfl
      have e15 : a.tmps[15]? = some (.int .i64 a1_3) := by rw [ha]; exact putSel_on (e := (8, 15, .int .i64 a1_3)) 4 rfl rfl (hon 8 (by kernel_rfl)) rfl
      replace ha := Aside0.mk ha
      have BK672 := Aside0.mk Q_BK672
      have BK673 := Aside0.mk Q_BK673
      have BK674 := Aside0.mk Q_BK674
      have HB := Aside0.mk Q_HB
      refine goes_ Try.func19 (by kernel_rfl) rfl #[.int .i64 a1_1, .int .i64 a1_3] (by rfl) rfl rfl (by first | (simp only [List.map_toArray, List.map_cons, List.map_nil, Act.eval, Array.getD_eq_getD_getElem?, Option.getD_some, e13, e15]; done) | (simp only [List.map_toArray, List.map_cons, List.map_nil, Act.eval, Array.getD_eq_getD_getElem?, Option.getD_some, e13, e15]; rfl)) ?_
      with_reducible refine (torchonlaw06_pt.calls a1_1 a1_3 t677 t678 _ A4.out).mono ?_
      rintro e w14 ⟨rfl, hb⟩
      refine ⟨_, rfl, ?_⟩
      have n0_ := bb BK672 hb
      have n1_ := bb BK673 hb
      have n2_ := bb BK674 hb
      have n3_ := bst HB hb
      have z_BK679 := fun (h0_ : b 10 = true) (h1_ : b 12 = false) => (show w14.heap[gb679]? = some (.cells #[.int .i64 0, .int .i64 0] 37 (0, 0)) from by first | exact (blk_below (g := gb679) (o := .cells #[.int .i64 0, .int .i64 0] 37 (0, 0)) (by (with_reducible repeat (first | refine blk_drewN ?_ _ | refine blk_drew ?_ | refine blk_alloc ?_ _)); exact (Q_BK679 h0_ h1_)) hb))
      have z_BK680 := fun (h0_ : b 11 = true) (h1_ : b 13 = false) => (show w14.heap[gb680]? = some (.cells #[.int .i64 0, .int .i64 0] 37 (0, 0)) from by first | exact (blk_below (g := gb680) (o := .cells #[.int .i64 0, .int .i64 0] 37 (0, 0)) (by (with_reducible repeat (first | refine blk_drewN ?_ _ | refine blk_drew ?_ | refine blk_alloc ?_ _)); exact (Q_BK680 h0_ h1_)) hb))
      clear BK672
      clear BK673
      clear BK674
      clear HB
      have BK672 := n0_
      have BK673 := n1_
      have BK674 := n2_
      have HB := n3_
      clear n0_ n1_ n2_ n3_
      (try clear hb)
      (try clear hb2)
      (try clear hk)
      (try clear hi)
      refine hK.out _ _ ⟨gb679, gb680, m10_, m11_, (by rw [ha.out]; exact putSel_upk 5 hb_ rfl rfl rfl), (pk BK672), (pk BK673), (pk BK674), (bnow HB), Q_NB680_679, Q_NB679_680, z_BK679, Q_GW679, Q_GE679, Q_NB672_679, Q_NB679_672, Q_NB673_679, Q_NB679_673, Q_NB674_679, Q_NB679_674, z_BK680, Q_GW680, Q_GE680, Q_NB672_680, Q_NB680_672, Q_NB673_680, Q_NB680_673, Q_NB674_680, Q_NB680_674, fun h0_ => absurd ((hoff 12 (by kernel_rfl)).symm.trans h0_) (by decide), fun h0_ => absurd ((hoff 13 (by kernel_rfl)).symm.trans h0_) (by decide), Q_X10_, Q_X11_⟩
    refine steps_cons ?_ ?_
    · rintro b a w' ⟨gb679, gb680, m10_, m11_, ha, Q_BK672, Q_BK673, Q_BK674, Q_HB, Q_NB680_679, Q_NB679_680, Q_BK679, Q_GW679, Q_GE679, Q_NB672_679, Q_NB679_672, Q_NB673_679, Q_NB679_673, Q_NB674_679, Q_NB679_674, Q_BK680, Q_GW680, Q_GE680, Q_NB672_680, Q_NB680_672, Q_NB673_680, Q_NB680_673, Q_NB674_680, Q_NB680_674, Q_BK679_e12, Q_BK680_e13, Q_X10_, Q_X11_⟩ hb_ hon hoff
      refine ⟨_, rfl, fun K hK => ?_⟩
      replace ha := Aside0.mk ha
      have BK672 := Aside0.mk Q_BK672
      have BK673 := Aside0.mk Q_BK673
      have BK674 := Aside0.mk Q_BK674
      have HB := Aside0.mk Q_HB
      refine box_step ?hg (N := 5) ?hd (cs := #[.int .i64 0, .int .i64 0]) (t := 37) ?hr ?_; (case hd => rfl); (case hg => rfl); (case hr => first | (go_simp; done) | (go_simp; rfl))
      intro gb679 hg w12 hbox hb
      have n0_ := bb BK672 hb
      have n1_ := bb BK673 hb
      have n2_ := bb BK674 hb
      have n3_ := bst HB hb
      have n4_ := Aside0.mk (hbox)
      have n5_ := gw hg HB
      have n6_ := gw hg HB
      have n7_ := nlt hg BK672
      have n8_ := ngt hg BK672
      have n9_ := nlt hg BK673
      have n10_ := ngt hg BK673
      have n11_ := nlt hg BK674
      have n12_ := ngt hg BK674
      have z_NB680_679 := fun (h0_ : up b 10 10 = true) (h1_ : up b 10 11 = true) => (show gb680 ≠ gb679 from (by cases hb_ : b 13 with | false => exact ((by rw [hg]; exact Nat.ne_of_lt (blk_lt (g := gb680) (o := .cells #[.int .i64 0, .int .i64 0] 37 (0, 0)) (by (with_reducible repeat (first | refine blk_drewN ?_ _ | refine blk_drew ?_ | refine blk_alloc ?_ _)); exact (Q_BK680 h1_ hb_))) : gb680 ≠ gb679)) | true => exact ((by rw [hg]; exact Nat.ne_of_lt (blk_lt (g := gb680) (by (with_reducible repeat (first | refine blk_drewN ?_ _ | refine blk_drew ?_ | refine blk_alloc ?_ _)); exact (Q_BK680_e13 hb_))) : gb680 ≠ gb679))))
      have z_NB679_680 := fun (h0_ : up b 10 10 = true) (h1_ : up b 10 11 = true) => (show gb679 ≠ gb680 from (by cases hb_ : b 13 with | false => exact ((by rw [hg]; exact Nat.ne_of_gt (blk_lt (g := gb680) (o := .cells #[.int .i64 0, .int .i64 0] 37 (0, 0)) (by (with_reducible repeat (first | refine blk_drewN ?_ _ | refine blk_drew ?_ | refine blk_alloc ?_ _)); exact (Q_BK680 h1_ hb_))) : gb679 ≠ gb680)) | true => exact ((by rw [hg]; exact Nat.ne_of_gt (blk_lt (g := gb680) (by (with_reducible repeat (first | refine blk_drewN ?_ _ | refine blk_drew ?_ | refine blk_alloc ?_ _)); exact (Q_BK680_e13 hb_))) : gb679 ≠ gb680))))
      have z_BK680 := fun (h0_ : b 11 = true) (h1_ : b 13 = false) => (show w12.heap[gb680]? = some (.cells #[.int .i64 0, .int .i64 0] 37 (0, 0)) from by first | exact (blk_below (g := gb680) (o := .cells #[.int .i64 0, .int .i64 0] 37 (0, 0)) (by (with_reducible repeat (first | refine blk_drewN ?_ _ | refine blk_drew ?_ | refine blk_alloc ?_ _)); exact (Q_BK680 h0_ h1_)) hb))
      clear BK672
      clear BK673
      clear BK674
      clear HB
      have BK672 := n0_
      have BK673 := n1_
      have BK674 := n2_
      have HB := n3_
      have BK679 := n4_
      have GW679 := n5_
      have GE679 := n6_
      have NB672_679 := n7_
      have NB679_672 := n8_
      have NB673_679 := n9_
      have NB679_673 := n10_
      have NB674_679 := n11_
      have NB679_674 := n12_
      clear n0_ n1_ n2_ n3_ n4_ n5_ n6_ n7_ n8_ n9_ n10_ n11_ n12_
      clear hb hg
      refine hK.out _ _ ⟨gb679, gb680, (.pointer (some ⟨gb679, 0, none⟩)), m11_, (by rw [ha.out]; exact putSel_upk 6 hb_ rfl rfl rfl), (pk BK672), (pk BK673), (pk BK674), (bnow HB), z_NB680_679, z_NB679_680, fun _ _ => (pk BK679), fun _ => GW679.out, fun _ => GE679.out, fun _ => NB672_679.out, fun _ => NB679_672.out, fun _ => NB673_679.out, fun _ => NB679_673.out, fun _ => NB674_679.out, fun _ => NB679_674.out, z_BK680, Q_GW680, Q_GE680, Q_NB672_680, Q_NB680_672, Q_NB673_680, Q_NB680_673, Q_NB674_680, Q_NB680_674, fun h0_ => absurd ((hoff 12 (by kernel_rfl)).symm.trans h0_) (by decide), fun h0_ => absurd ((hoff 13 (by kernel_rfl)).symm.trans h0_) (by decide), fun _ => rfl, Q_X11_⟩
    refine steps_cons ?_ ?_
    · rintro b a w' ⟨gb679, gb680, m10_, m11_, ha, Q_BK672, Q_BK673, Q_BK674, Q_HB, Q_NB680_679, Q_NB679_680, Q_BK679, Q_GW679, Q_GE679, Q_NB672_679, Q_NB679_672, Q_NB673_679, Q_NB679_673, Q_NB674_679, Q_NB679_674, Q_BK680, Q_GW680, Q_GE680, Q_NB672_680, Q_NB680_672, Q_NB673_680, Q_NB680_673, Q_NB674_680, Q_NB680_674, Q_BK679_e12, Q_BK680_e13, Q_X10_, Q_X11_⟩ hb_ hon hoff
      refine ⟨_, rfl, fun K hK => ?_⟩
      replace ha := Aside0.mk ha
      have BK672 := Aside0.mk Q_BK672
      have BK673 := Aside0.mk Q_BK673
      have BK674 := Aside0.mk Q_BK674
      have HB := Aside0.mk Q_HB
      refine box_step ?hg (N := 6) ?hd (cs := #[.int .i64 0, .int .i64 0]) (t := 37) ?hr ?_; (case hd => rfl); (case hg => rfl); (case hr => first | (go_simp; done) | (go_simp; rfl))
      intro gb680 hg w12 hbox hb
      have n0_ := bb BK672 hb
      have n1_ := bb BK673 hb
      have n2_ := bb BK674 hb
      have n3_ := bst HB hb
      have n4_ := Aside0.mk (hbox)
      have n5_ := gw hg HB
      have n6_ := gw hg HB
      have n7_ := nlt hg BK672
      have n8_ := ngt hg BK672
      have n9_ := nlt hg BK673
      have n10_ := ngt hg BK673
      have n11_ := nlt hg BK674
      have n12_ := ngt hg BK674
      have z_NB680_679 := fun (h0_ : up b 11 10 = true) (h1_ : up b 11 11 = true) => (show gb680 ≠ gb679 from (by cases hb_ : b 12 with | false => exact ((by rw [hg]; exact Nat.ne_of_gt (blk_lt (g := gb679) (o := .cells #[.int .i64 0, .int .i64 0] 37 (0, 0)) (by (with_reducible repeat (first | refine blk_drewN ?_ _ | refine blk_drew ?_ | refine blk_alloc ?_ _)); exact (Q_BK679 h0_ hb_))) : gb680 ≠ gb679)) | true => exact ((by rw [hg]; exact Nat.ne_of_gt (blk_lt (g := gb679) (by (with_reducible repeat (first | refine blk_drewN ?_ _ | refine blk_drew ?_ | refine blk_alloc ?_ _)); exact (Q_BK679_e12 hb_))) : gb680 ≠ gb679))))
      have z_NB679_680 := fun (h0_ : up b 11 10 = true) (h1_ : up b 11 11 = true) => (show gb679 ≠ gb680 from (by cases hb_ : b 12 with | false => exact ((by rw [hg]; exact Nat.ne_of_lt (blk_lt (g := gb679) (o := .cells #[.int .i64 0, .int .i64 0] 37 (0, 0)) (by (with_reducible repeat (first | refine blk_drewN ?_ _ | refine blk_drew ?_ | refine blk_alloc ?_ _)); exact (Q_BK679 h0_ hb_))) : gb679 ≠ gb680)) | true => exact ((by rw [hg]; exact Nat.ne_of_lt (blk_lt (g := gb679) (by (with_reducible repeat (first | refine blk_drewN ?_ _ | refine blk_drew ?_ | refine blk_alloc ?_ _)); exact (Q_BK679_e12 hb_))) : gb679 ≠ gb680))))
      have z_BK679 := fun (h0_ : b 10 = true) (h1_ : b 12 = false) => (show w12.heap[gb679]? = some (.cells #[.int .i64 0, .int .i64 0] 37 (0, 0)) from by first | exact (blk_below (g := gb679) (o := .cells #[.int .i64 0, .int .i64 0] 37 (0, 0)) (by (with_reducible repeat (first | refine blk_drewN ?_ _ | refine blk_drew ?_ | refine blk_alloc ?_ _)); exact (Q_BK679 h0_ h1_)) hb))
      clear BK672
      clear BK673
      clear BK674
      clear HB
      have BK672 := n0_
      have BK673 := n1_
      have BK674 := n2_
      have HB := n3_
      have BK680 := n4_
      have GW680 := n5_
      have GE680 := n6_
      have NB672_680 := n7_
      have NB680_672 := n8_
      have NB673_680 := n9_
      have NB680_673 := n10_
      have NB674_680 := n11_
      have NB680_674 := n12_
      clear n0_ n1_ n2_ n3_ n4_ n5_ n6_ n7_ n8_ n9_ n10_ n11_ n12_
      clear hb hg
      refine hK.out _ _ ⟨gb679, gb680, m10_, (.pointer (some ⟨gb680, 0, none⟩)), (by rw [ha.out]; exact putSel_upk 7 hb_ rfl rfl rfl), (pk BK672), (pk BK673), (pk BK674), (bnow HB), z_NB680_679, z_NB679_680, z_BK679, Q_GW679, Q_GE679, Q_NB672_679, Q_NB679_672, Q_NB673_679, Q_NB679_673, Q_NB674_679, Q_NB679_674, fun _ _ => (pk BK680), fun _ => GW680.out, fun _ => GE680.out, fun _ => NB672_680.out, fun _ => NB680_672.out, fun _ => NB673_680.out, fun _ => NB680_673.out, fun _ => NB674_680.out, fun _ => NB680_674.out, fun h0_ => absurd ((hoff 12 (by kernel_rfl)).symm.trans h0_) (by decide), fun h0_ => absurd ((hoff 13 (by kernel_rfl)).symm.trans h0_) (by decide), Q_X10_, fun _ => rfl⟩
    refine steps_cons ?_ ?_
    · rintro b a w' ⟨gb679, gb680, m10_, m11_, ha, Q_BK672, Q_BK673, Q_BK674, Q_HB, Q_NB680_679, Q_NB679_680, Q_BK679, Q_GW679, Q_GE679, Q_NB672_679, Q_NB679_672, Q_NB673_679, Q_NB679_673, Q_NB674_679, Q_NB679_674, Q_BK680, Q_GW680, Q_GE680, Q_NB672_680, Q_NB680_672, Q_NB673_680, Q_NB680_673, Q_NB674_680, Q_NB680_674, Q_BK679_e12, Q_BK680_e13, Q_X10_, Q_X11_⟩ hb_ hon hoff
      refine ⟨_, rfl, fun K hK => ?_⟩
      have e5 : a.tmps[5]? = some (m10_) := by rw [ha]; exact putSel_on (e := (10, 5, m10_)) 6 rfl rfl (hon 10 (by kernel_rfl)) rfl
      rw [Q_X10_ (hon 10 (by kernel_rfl))] at e5
      have e11 : a.tmps[11]? = some (.agg #[.int .i64 t675, .int .i64 t676]) := by rw [ha]; exact putSel_on (e := (4, 11, .agg #[.int .i64 t675, .int .i64 t676])) 2 rfl rfl (hon 4 (by kernel_rfl)) rfl
      replace ha := Aside0.mk ha
      have BK672 := Aside0.mk Q_BK672
      have BK673 := Aside0.mk Q_BK673
      have BK674 := Aside0.mk Q_BK674
      have HB := Aside0.mk Q_HB
      have NB680_679 := Aside0.mk (Q_NB680_679 (hon 10 (by kernel_rfl)) (hon 11 (by kernel_rfl)))
      have NB679_680 := Aside0.mk (Q_NB679_680 (hon 10 (by kernel_rfl)) (hon 11 (by kernel_rfl)))
      have BK679 := Aside0.mk (Q_BK679 (hon 10 (by kernel_rfl)) hb_)
      have GW679 := Aside0.mk (Q_GW679 (hon 10 (by kernel_rfl)))
      have GE679 := Aside0.mk (Q_GE679 (hon 10 (by kernel_rfl)))
      have NB672_679 := Aside0.mk (Q_NB672_679 (hon 10 (by kernel_rfl)))
      have NB679_672 := Aside0.mk (Q_NB679_672 (hon 10 (by kernel_rfl)))
      have NB673_679 := Aside0.mk (Q_NB673_679 (hon 10 (by kernel_rfl)))
      have NB679_673 := Aside0.mk (Q_NB679_673 (hon 10 (by kernel_rfl)))
      have NB674_679 := Aside0.mk (Q_NB674_679 (hon 10 (by kernel_rfl)))
      have NB679_674 := Aside0.mk (Q_NB679_674 (hon 10 (by kernel_rfl)))
      have BK680 := Aside0.mk (Q_BK680 (hon 11 (by kernel_rfl)) (hoff 13 (by kernel_rfl)))
      have GW680 := Aside0.mk (Q_GW680 (hon 11 (by kernel_rfl)))
      have GE680 := Aside0.mk (Q_GE680 (hon 11 (by kernel_rfl)))
      have NB672_680 := Aside0.mk (Q_NB672_680 (hon 11 (by kernel_rfl)))
      have NB680_672 := Aside0.mk (Q_NB680_672 (hon 11 (by kernel_rfl)))
      have NB673_680 := Aside0.mk (Q_NB673_680 (hon 11 (by kernel_rfl)))
      have NB680_673 := Aside0.mk (Q_NB680_673 (hon 11 (by kernel_rfl)))
      have NB674_680 := Aside0.mk (Q_NB674_680 (hon 11 (by kernel_rfl)))
      have NB680_674 := Aside0.mk (Q_NB680_674 (hon 11 (by kernel_rfl)))
      have hs17 : w'.cell? ⟨gb679, 0, none⟩ = some (.int .i64 0) := (blk_cell BK679.out 0).trans rfl
      have hfs17 := blk_frozen BK679.out 0
      have hns17_0 := NB672_679.out
      have hns17_1 := NB673_679.out
      have hns17_2 := NB674_679.out
      have hns17_4 := NB680_679.out
      have hms17_0 := NB679_672.out
      have hms17_1 := NB679_673.out
      have hms17_2 := NB679_674.out
      have hms17_4 := NB679_680.out
      have hs18 : w'.cell? ⟨gb679, 1, none⟩ = some (.int .i64 0) := (blk_cell BK679.out 1).trans rfl
      have hfs18 := blk_frozen BK679.out 1
      have hns18_0 := NB672_679.out
      have hns18_1 := NB673_679.out
      have hns18_2 := NB674_679.out
      have hns18_4 := NB680_679.out
      have hms18_0 := NB679_672.out
      have hms18_1 := NB679_673.out
      have hms18_2 := NB679_674.out
      have hms18_4 := NB679_680.out
      refine skip_ (w1 := ?_) (by rfl) rfl ?_ ?_
      rotate_left
      · go_simp
        rfl
      refine hK.out _ _ ⟨gb679, gb680, m10_, m11_, (by rw [ha.out]; exact putSel_none (v := undef) rfl), (by (with_reducible repeat (first | refine blk_drewN ?_ _ | refine blk_drew ?_ | refine blk_alloc ?_ _)); refine blk_far ?_ NB672_679.out _; (with_reducible repeat (first | refine blk_drewN ?_ _ | refine blk_drew ?_ | refine blk_alloc ?_ _)); refine blk_far ?_ NB672_679.out _; (with_reducible repeat (first | refine blk_drewN ?_ _ | refine blk_drew ?_ | refine blk_alloc ?_ _)); exact BK672.out), (by (with_reducible repeat (first | refine blk_drewN ?_ _ | refine blk_drew ?_ | refine blk_alloc ?_ _)); refine blk_far ?_ NB673_679.out _; (with_reducible repeat (first | refine blk_drewN ?_ _ | refine blk_drew ?_ | refine blk_alloc ?_ _)); refine blk_far ?_ NB673_679.out _; (with_reducible repeat (first | refine blk_drewN ?_ _ | refine blk_drew ?_ | refine blk_alloc ?_ _)); exact BK673.out), (by (with_reducible repeat (first | refine blk_drewN ?_ _ | refine blk_drew ?_ | refine blk_alloc ?_ _)); refine blk_far ?_ NB674_679.out _; (with_reducible repeat (first | refine blk_drewN ?_ _ | refine blk_drew ?_ | refine blk_alloc ?_ _)); refine blk_far ?_ NB674_679.out _; (with_reducible repeat (first | refine blk_drewN ?_ _ | refine blk_drew ?_ | refine blk_alloc ?_ _)); exact BK674.out), (bnow HB), fun _ _ => NB680_679.out, fun _ _ => NB679_680.out, fun _ h1_ => absurd ((up_self b 12).symm.trans h1_) (by decide), fun _ => GW679.out, fun _ => GE679.out, fun _ => NB672_679.out, fun _ => NB679_672.out, fun _ => NB673_679.out, fun _ => NB679_673.out, fun _ => NB674_679.out, fun _ => NB679_674.out, fun _ _ => (by (with_reducible repeat (first | refine blk_drewN ?_ _ | refine blk_drew ?_ | refine blk_alloc ?_ _)); refine blk_far ?_ NB680_679.out _; (with_reducible repeat (first | refine blk_drewN ?_ _ | refine blk_drew ?_ | refine blk_alloc ?_ _)); refine blk_far ?_ NB680_679.out _; (with_reducible repeat (first | refine blk_drewN ?_ _ | refine blk_drew ?_ | refine blk_alloc ?_ _)); exact BK680.out), fun _ => GW680.out, fun _ => GE680.out, fun _ => NB672_680.out, fun _ => NB680_672.out, fun _ => NB673_680.out, fun _ => NB680_673.out, fun _ => NB674_680.out, fun _ => NB680_674.out, fun _ => (by (with_reducible repeat (first | refine blk_drewN ?_ _ | refine blk_drew ?_ | refine blk_alloc ?_ _)); refine blk_put (cs := #[.int .i64 t675, .int .i64 0]) ?_ 1 _ rfl; (with_reducible repeat (first | refine blk_drewN ?_ _ | refine blk_drew ?_ | refine blk_alloc ?_ _)); refine blk_put (cs := #[.int .i64 0, .int .i64 0]) ?_ 0 _ rfl; (with_reducible repeat (first | refine blk_drewN ?_ _ | refine blk_drew ?_ | refine blk_alloc ?_ _)); exact BK679.out), fun h0_ => absurd ((hoff 13 (by kernel_rfl)).symm.trans h0_) (by decide), Q_X10_, Q_X11_⟩
    refine steps_cons ?_ ?_
    · rintro b a w' ⟨gb679, gb680, m10_, m11_, ha, Q_BK672, Q_BK673, Q_BK674, Q_HB, Q_NB680_679, Q_NB679_680, Q_BK679, Q_GW679, Q_GE679, Q_NB672_679, Q_NB679_672, Q_NB673_679, Q_NB679_673, Q_NB674_679, Q_NB679_674, Q_BK680, Q_GW680, Q_GE680, Q_NB672_680, Q_NB680_672, Q_NB673_680, Q_NB680_673, Q_NB674_680, Q_NB680_674, Q_BK679_e12, Q_BK680_e13, Q_X10_, Q_X11_⟩ hb_ hon hoff
      refine ⟨_, rfl, fun K hK => ?_⟩
      have e6 : a.tmps[6]? = some (m11_) := by rw [ha]; exact putSel_on (e := (11, 6, m11_)) 7 rfl rfl (hon 11 (by kernel_rfl)) rfl
      rw [Q_X11_ (hon 11 (by kernel_rfl))] at e6
      have e16 : a.tmps[16]? = some (.agg #[.int .i64 t677, .int .i64 t678]) := by rw [ha]; exact putSel_on (e := (9, 16, .agg #[.int .i64 t677, .int .i64 t678])) 5 rfl rfl (hon 9 (by kernel_rfl)) rfl
      replace ha := Aside0.mk ha
      have BK672 := Aside0.mk Q_BK672
      have BK673 := Aside0.mk Q_BK673
      have BK674 := Aside0.mk Q_BK674
      have HB := Aside0.mk Q_HB
      have NB680_679 := Aside0.mk (Q_NB680_679 (hon 10 (by kernel_rfl)) (hon 11 (by kernel_rfl)))
      have NB679_680 := Aside0.mk (Q_NB679_680 (hon 10 (by kernel_rfl)) (hon 11 (by kernel_rfl)))
      have GW679 := Aside0.mk (Q_GW679 (hon 10 (by kernel_rfl)))
      have GE679 := Aside0.mk (Q_GE679 (hon 10 (by kernel_rfl)))
      have NB672_679 := Aside0.mk (Q_NB672_679 (hon 10 (by kernel_rfl)))
      have NB679_672 := Aside0.mk (Q_NB679_672 (hon 10 (by kernel_rfl)))
      have NB673_679 := Aside0.mk (Q_NB673_679 (hon 10 (by kernel_rfl)))
      have NB679_673 := Aside0.mk (Q_NB679_673 (hon 10 (by kernel_rfl)))
      have NB674_679 := Aside0.mk (Q_NB674_679 (hon 10 (by kernel_rfl)))
      have NB679_674 := Aside0.mk (Q_NB679_674 (hon 10 (by kernel_rfl)))
      have BK680 := Aside0.mk (Q_BK680 (hon 11 (by kernel_rfl)) hb_)
      have GW680 := Aside0.mk (Q_GW680 (hon 11 (by kernel_rfl)))
      have GE680 := Aside0.mk (Q_GE680 (hon 11 (by kernel_rfl)))
      have NB672_680 := Aside0.mk (Q_NB672_680 (hon 11 (by kernel_rfl)))
      have NB680_672 := Aside0.mk (Q_NB680_672 (hon 11 (by kernel_rfl)))
      have NB673_680 := Aside0.mk (Q_NB673_680 (hon 11 (by kernel_rfl)))
      have NB680_673 := Aside0.mk (Q_NB680_673 (hon 11 (by kernel_rfl)))
      have NB674_680 := Aside0.mk (Q_NB674_680 (hon 11 (by kernel_rfl)))
      have NB680_674 := Aside0.mk (Q_NB680_674 (hon 11 (by kernel_rfl)))
      have BK679 := Aside0.mk (Q_BK679_e12 (hon 12 (by kernel_rfl)))
      have hs19 : w'.cell? ⟨gb680, 0, none⟩ = some (.int .i64 0) := (blk_cell BK680.out 0).trans rfl
      have hfs19 := blk_frozen BK680.out 0
      have hns19_0 := NB672_680.out
      have hns19_1 := NB673_680.out
      have hns19_2 := NB674_680.out
      have hns19_3 := NB679_680.out
      have hms19_0 := NB680_672.out
      have hms19_1 := NB680_673.out
      have hms19_2 := NB680_674.out
      have hms19_3 := NB680_679.out
      have hs20 : w'.cell? ⟨gb680, 1, none⟩ = some (.int .i64 0) := (blk_cell BK680.out 1).trans rfl
      have hfs20 := blk_frozen BK680.out 1
      have hns20_0 := NB672_680.out
      have hns20_1 := NB673_680.out
      have hns20_2 := NB674_680.out
      have hns20_3 := NB679_680.out
      have hms20_0 := NB680_672.out
      have hms20_1 := NB680_673.out
      have hms20_2 := NB680_674.out
      have hms20_3 := NB680_679.out
      refine skip_ (w1 := ?_) (by rfl) rfl ?_ ?_
      rotate_left
      · go_simp
        rfl
      refine hK.out _ _ ⟨gb679, gb680, m10_, m11_, (by rw [ha.out]; exact putSel_none (v := undef) rfl), (by (with_reducible repeat (first | refine blk_drewN ?_ _ | refine blk_drew ?_ | refine blk_alloc ?_ _)); refine blk_far ?_ NB672_680.out _; (with_reducible repeat (first | refine blk_drewN ?_ _ | refine blk_drew ?_ | refine blk_alloc ?_ _)); refine blk_far ?_ NB672_680.out _; (with_reducible repeat (first | refine blk_drewN ?_ _ | refine blk_drew ?_ | refine blk_alloc ?_ _)); exact BK672.out), (by (with_reducible repeat (first | refine blk_drewN ?_ _ | refine blk_drew ?_ | refine blk_alloc ?_ _)); refine blk_far ?_ NB673_680.out _; (with_reducible repeat (first | refine blk_drewN ?_ _ | refine blk_drew ?_ | refine blk_alloc ?_ _)); refine blk_far ?_ NB673_680.out _; (with_reducible repeat (first | refine blk_drewN ?_ _ | refine blk_drew ?_ | refine blk_alloc ?_ _)); exact BK673.out), (by (with_reducible repeat (first | refine blk_drewN ?_ _ | refine blk_drew ?_ | refine blk_alloc ?_ _)); refine blk_far ?_ NB674_680.out _; (with_reducible repeat (first | refine blk_drewN ?_ _ | refine blk_drew ?_ | refine blk_alloc ?_ _)); refine blk_far ?_ NB674_680.out _; (with_reducible repeat (first | refine blk_drewN ?_ _ | refine blk_drew ?_ | refine blk_alloc ?_ _)); exact BK674.out), (bnow HB), fun _ _ => NB680_679.out, fun _ _ => NB679_680.out, fun _ h1_ => absurd ((hon 12 (by kernel_rfl)).symm.trans h1_) (by decide), fun _ => GW679.out, fun _ => GE679.out, fun _ => NB672_679.out, fun _ => NB679_672.out, fun _ => NB673_679.out, fun _ => NB679_673.out, fun _ => NB674_679.out, fun _ => NB679_674.out, fun _ h1_ => absurd ((up_self b 13).symm.trans h1_) (by decide), fun _ => GW680.out, fun _ => GE680.out, fun _ => NB672_680.out, fun _ => NB680_672.out, fun _ => NB673_680.out, fun _ => NB680_673.out, fun _ => NB674_680.out, fun _ => NB680_674.out, fun _ => (by (with_reducible repeat (first | refine blk_drewN ?_ _ | refine blk_drew ?_ | refine blk_alloc ?_ _)); refine blk_far ?_ NB679_680.out _; (with_reducible repeat (first | refine blk_drewN ?_ _ | refine blk_drew ?_ | refine blk_alloc ?_ _)); refine blk_far ?_ NB679_680.out _; (with_reducible repeat (first | refine blk_drewN ?_ _ | refine blk_drew ?_ | refine blk_alloc ?_ _)); exact BK679.out), fun _ => (by (with_reducible repeat (first | refine blk_drewN ?_ _ | refine blk_drew ?_ | refine blk_alloc ?_ _)); refine blk_put (cs := #[.int .i64 t677, .int .i64 0]) ?_ 1 _ rfl; (with_reducible repeat (first | refine blk_drewN ?_ _ | refine blk_drew ?_ | refine blk_alloc ?_ _)); refine blk_put (cs := #[.int .i64 0, .int .i64 0]) ?_ 0 _ rfl; (with_reducible repeat (first | refine blk_drewN ?_ _ | refine blk_drew ?_ | refine blk_alloc ?_ _)); exact BK680.out), Q_X10_, Q_X11_⟩
    exact steps_nil
  rintro b a w20 hall ⟨gb679, gb680, m10_, m11_, ha, Q_BK672, Q_BK673, Q_BK674, Q_HB, Q_NB680_679, Q_NB679_680, Q_BK679, Q_GW679, Q_GE679, Q_NB672_679, Q_NB679_672, Q_NB673_679, Q_NB679_673, Q_NB674_679, Q_NB679_674, Q_BK680, Q_GW680, Q_GE680, Q_NB672_680, Q_NB680_672, Q_NB673_680, Q_NB680_673, Q_NB674_680, Q_NB680_674, Q_BK679_e12, Q_BK680_e13, Q_X10_, Q_X11_⟩
  clear BK672 BK673 BK674 HB
  have hb1_ := hall 1 (by kernel_rfl)
  have hb3_ := hall 3 (by kernel_rfl)
  have hb4_ := hall 4 (by kernel_rfl)
  have hb6_ := hall 6 (by kernel_rfl)
  have hb8_ := hall 8 (by kernel_rfl)
  have hb9_ := hall 9 (by kernel_rfl)
  have hb10_ := hall 10 (by kernel_rfl)
  have hb11_ := hall 11 (by kernel_rfl)
  have hb12_ := hall 12 (by kernel_rfl)
  have hb13_ := hall 13 (by kernel_rfl)
  subst ha
  obtain rfl := Q_X10_ hb10_
  obtain rfl := Q_X11_ hb11_
  simp only [putSel, hb1_, hb3_, hb4_, hb6_, hb8_, hb9_, hb10_, hb11_, hb12_, hb13_, if_true, Act.put, List.setIfInBounds_toArray, List.set_cons_zero, List.set_cons_succ]
  have BK672 := Aside0.mk Q_BK672
  clear Q_BK672
  have BK673 := Aside0.mk Q_BK673
  clear Q_BK673
  have BK674 := Aside0.mk Q_BK674
  clear Q_BK674
  have HB := Aside0.mk Q_HB
  clear Q_HB
  have NB680_679 := Aside0.mk (Q_NB680_679 hb10_ hb11_)
  clear Q_NB680_679
  have NB679_680 := Aside0.mk (Q_NB679_680 hb10_ hb11_)
  clear Q_NB679_680
  clear Q_BK679
  have GW679 := Aside0.mk (Q_GW679 hb10_)
  clear Q_GW679
  have GE679 := Aside0.mk (Q_GE679 hb10_)
  clear Q_GE679
  have NB672_679 := Aside0.mk (Q_NB672_679 hb10_)
  clear Q_NB672_679
  have NB679_672 := Aside0.mk (Q_NB679_672 hb10_)
  clear Q_NB679_672
  have NB673_679 := Aside0.mk (Q_NB673_679 hb10_)
  clear Q_NB673_679
  have NB679_673 := Aside0.mk (Q_NB679_673 hb10_)
  clear Q_NB679_673
  have NB674_679 := Aside0.mk (Q_NB674_679 hb10_)
  clear Q_NB674_679
  have NB679_674 := Aside0.mk (Q_NB679_674 hb10_)
  clear Q_NB679_674
  clear Q_BK680
  have GW680 := Aside0.mk (Q_GW680 hb11_)
  clear Q_GW680
  have GE680 := Aside0.mk (Q_GE680 hb11_)
  clear Q_GE680
  have NB672_680 := Aside0.mk (Q_NB672_680 hb11_)
  clear Q_NB672_680
  have NB680_672 := Aside0.mk (Q_NB680_672 hb11_)
  clear Q_NB680_672
  have NB673_680 := Aside0.mk (Q_NB673_680 hb11_)
  clear Q_NB673_680
  have NB680_673 := Aside0.mk (Q_NB680_673 hb11_)
  clear Q_NB680_673
  have NB674_680 := Aside0.mk (Q_NB674_680 hb11_)
  clear Q_NB674_680
  have NB680_674 := Aside0.mk (Q_NB680_674 hb11_)
  clear Q_NB680_674
  have BK679 := Aside0.mk (Q_BK679_e12 hb12_)
  clear Q_BK679_e12
  have BK680 := Aside0.mk (Q_BK680_e13 hb13_)
  clear Q_BK680_e13
  clear hall hb1_ hb3_ hb4_ hb6_ hb8_ hb9_ hb10_ hb11_ hb12_ hb13_
  try go_wp2
  replace BK672 := bd BK672
  replace BK673 := bd BK673
  replace BK674 := bd BK674
  replace BK679 := bd BK679
  replace BK680 := bd BK680
  replace HB := bdn HB
  refine start_ (n := 14) (S := fun w' => w'.cell? ⟨gb672, 0, none⟩ = some (.int .i64 a0_0) ∧ w'.cell? ⟨gb672, 1, none⟩ = some (.int .i64 a0_1) ∧ w'.cell? ⟨gb672, 2, none⟩ = some (.int .i64 a0_2) ∧ w'.cell? ⟨gb679, 0, none⟩ = some (.int .i64 t675) ∧ w'.cell? ⟨gb679, 1, none⟩ = some (.int .i64 t676) ∧ w'.cell? ⟨gb680, 0, none⟩ = some (.int .i64 t677) ∧ w'.cell? ⟨gb680, 1, none⟩ = some (.int .i64 t678)) (ds := []) #[false, false, false, false, false, false, false, false, false, false, false, false, false, false] (by kernel_rfl) rfl rfl ⟨(blk_cell BK672.out 0).trans rfl, (blk_cell BK672.out 1).trans rfl, (blk_cell BK672.out 2).trans rfl, (blk_cell BK679.out 0).trans rfl, (blk_cell BK679.out 1).trans rfl, (blk_cell BK680.out 0).trans rfl, (blk_cell BK680.out 1).trans rfl⟩ (fun hHeld => ?_); refine with_tabW torchonlaw06_lead.tab2 torchonlaw06_lead.bits2 (fun HT_ HW_ => ?_)
  generalize w20.drew = w21 at BK672 BK673 BK674 BK679 BK680 HB hHeld ⊢
  refine tz 0 17 HT_ HW_ hHeld ?_
  refine tz 1 18 HT_ HW_ hHeld ?_
  refine tz 2 19 HT_ HW_ hHeld ?_
  refine tz 4 21 HT_ HW_ hHeld ?_
  refine tz 5 22 HT_ HW_ hHeld ?_
  refine tz 6 23 HT_ HW_ hHeld ?_
  refine tz 8 25 HT_ HW_ hHeld ?_
  refine tz 9 26 HT_ HW_ hHeld ?_
  refine tz 10 27 HT_ HW_ hHeld ?_
  refine one_ (i := 3) (N := some 20) #[true, true, true, true, true, true, true, false, true, true, true, false, false, false] rfl rfl (one_of HT_.out (by kernel_rfl)) (by decide) (fun K hK => ?_)
  refine gs _ Try.func48 (torchonref06_Product.calls a0_0 a0_1 a0_2 t675 t676 t675 t676 t681 _ A5.out) ?_
  rintro e w22 ⟨rfl, hb⟩
  refine ⟨_, rfl, ?_⟩
  replace BK672 := bb BK672 hb
  replace BK673 := bb BK673 hb
  replace BK674 := bb BK674 hb
  replace BK679 := bb BK679 hb
  replace BK680 := bb BK680 hb
  replace HB := bst HB hb
  (try clear hb)
  (try clear hb2)
  (try clear hk)
  (try clear hi)
  refine hK.out _ _ ⟨(blk_cell BK672.out 0).trans rfl, (blk_cell BK672.out 1).trans rfl, (blk_cell BK672.out 2).trans rfl, (blk_cell BK679.out 0).trans rfl, (blk_cell BK679.out 1).trans rfl, (blk_cell BK680.out 0).trans rfl, (blk_cell BK680.out 1).trans rfl⟩ (fun hHeld => ?_)
  clear hK K
  refine norm_ (a' := ?_) ?_ ?_
  rotate_left
  · show Act.put _ (some 20) _ = _
    simp only [Act.put, List.setIfInBounds_toArray, List.set_cons_zero, List.set_cons_succ, i64_w, i32_w]
    rfl
  refine one_ (i := 7) (N := some 24) #[true, true, true, true, true, true, true, true, true, true, true, false, false, false] rfl rfl (one_of HT_.out (by kernel_rfl)) (by decide) (fun K hK => ?_)
  refine gs _ Try.func48 (torchonref06_Product.calls a0_0 a0_1 a0_2 t675 t676 t677 t678 t682 _ A6.out) ?_
  rintro e w23 ⟨rfl, hb⟩
  refine ⟨_, rfl, ?_⟩
  replace BK672 := bb BK672 hb
  replace BK673 := bb BK673 hb
  replace BK674 := bb BK674 hb
  replace BK679 := bb BK679 hb
  replace BK680 := bb BK680 hb
  replace HB := bst HB hb
  (try clear hb)
  (try clear hb2)
  (try clear hk)
  (try clear hi)
  refine hK.out _ _ ⟨(blk_cell BK672.out 0).trans rfl, (blk_cell BK672.out 1).trans rfl, (blk_cell BK672.out 2).trans rfl, (blk_cell BK679.out 0).trans rfl, (blk_cell BK679.out 1).trans rfl, (blk_cell BK680.out 0).trans rfl, (blk_cell BK680.out 1).trans rfl⟩ (fun hHeld => ?_)
  clear hK K
  refine norm_ (a' := ?_) ?_ ?_
  rotate_left
  · show Act.put _ (some 24) _ = _
    simp only [Act.put, List.setIfInBounds_toArray, List.set_cons_zero, List.set_cons_succ, i64_w, i32_w]
    rfl
  refine one_ (i := 11) (N := some 28) #[true, true, true, true, true, true, true, true, true, true, true, true, false, false] rfl rfl (one_of HT_.out (by kernel_rfl)) (by decide) (fun K hK => ?_)
  refine gs _ Try.func48 (torchonref06_Product.calls a0_0 a0_1 a0_2 t677 t678 t677 t678 t683 _ A7.out) ?_
  rintro e w24 ⟨rfl, hb⟩
  refine ⟨_, rfl, ?_⟩
  replace BK672 := bb BK672 hb
  replace BK673 := bb BK673 hb
  replace BK674 := bb BK674 hb
  replace BK679 := bb BK679 hb
  replace BK680 := bb BK680 hb
  replace HB := bst HB hb
  (try clear hb)
  (try clear hb2)
  (try clear hk)
  (try clear hi)
  refine hK.out _ _ ⟨(blk_cell BK672.out 0).trans rfl, (blk_cell BK672.out 1).trans rfl, (blk_cell BK672.out 2).trans rfl, (blk_cell BK679.out 0).trans rfl, (blk_cell BK679.out 1).trans rfl, (blk_cell BK680.out 0).trans rfl, (blk_cell BK680.out 1).trans rfl⟩ (fun hHeld => ?_)
  clear hK K
  refine norm_ (a' := ?_) ?_ ?_
  rotate_left
  · show Act.put _ (some 28) _ = _
    simp only [Act.put, List.setIfInBounds_toArray, List.set_cons_zero, List.set_cons_succ, i64_w, i32_w]
    rfl
  refine pz 12 29 HT_ ?_
  refine one_ (i := 13) (N := none) #[true, true, true, true, true, true, true, true, true, true, true, true, true, true] rfl rfl (one_of HT_.out (by kernel_rfl)) (by decide) (fun K hK => ?_)
  have hs25 : w24.cell? ⟨gb674, 0, none⟩ = some (.int .i64 0) := (blk_cell BK674.out 0).trans rfl
  have hfs25 := blk_frozen BK674.out 0
  have hns25_0 := NB672_674.out
  have hns25_1 := NB673_674.out
  have hns25_3 := NB679_674.out
  have hns25_4 := NB680_674.out
  have hms25_0 := NB674_672.out
  have hms25_1 := NB674_673.out
  have hms25_3 := NB674_679.out
  have hms25_4 := NB674_680.out
  have hs26 : w24.cell? ⟨gb674, 1, none⟩ = some (.int .i64 0) := (blk_cell BK674.out 1).trans rfl
  have hfs26 := blk_frozen BK674.out 1
  have hns26_0 := NB672_674.out
  have hns26_1 := NB673_674.out
  have hns26_3 := NB679_674.out
  have hns26_4 := NB680_674.out
  have hms26_0 := NB674_672.out
  have hms26_1 := NB674_673.out
  have hms26_3 := NB674_679.out
  have hms26_4 := NB674_680.out
  have hs27 : w24.cell? ⟨gb674, 2, none⟩ = some (.int .i64 0) := (blk_cell BK674.out 2).trans rfl
  have hfs27 := blk_frozen BK674.out 2
  have hns27_0 := NB672_674.out
  have hns27_1 := NB673_674.out
  have hns27_3 := NB679_674.out
  have hns27_4 := NB680_674.out
  have hms27_0 := NB674_672.out
  have hms27_1 := NB674_673.out
  have hms27_3 := NB674_679.out
  have hms27_4 := NB674_680.out
  refine skip_ (w1 := ?_) (by rfl) rfl ?_ ?_
  rotate_left
  · go_simp
    rfl
  refine hK.out _ _ ⟨((cell_far (p := ⟨gb674, _, none⟩) NB672_674.out _).trans (((cell_far (p := ⟨gb674, _, none⟩) NB672_674.out _).trans (((cell_far (p := ⟨gb674, _, none⟩) NB672_674.out _).trans (hHeld.1)))))), ((cell_far (p := ⟨gb674, _, none⟩) NB672_674.out _).trans (((cell_far (p := ⟨gb674, _, none⟩) NB672_674.out _).trans (((cell_far (p := ⟨gb674, _, none⟩) NB672_674.out _).trans (hHeld.2.1)))))), ((cell_far (p := ⟨gb674, _, none⟩) NB672_674.out _).trans (((cell_far (p := ⟨gb674, _, none⟩) NB672_674.out _).trans (((cell_far (p := ⟨gb674, _, none⟩) NB672_674.out _).trans (hHeld.2.2.1)))))), ((cell_far (p := ⟨gb674, _, none⟩) NB679_674.out _).trans (((cell_far (p := ⟨gb674, _, none⟩) NB679_674.out _).trans (((cell_far (p := ⟨gb674, _, none⟩) NB679_674.out _).trans (hHeld.2.2.2.1)))))), ((cell_far (p := ⟨gb674, _, none⟩) NB679_674.out _).trans (((cell_far (p := ⟨gb674, _, none⟩) NB679_674.out _).trans (((cell_far (p := ⟨gb674, _, none⟩) NB679_674.out _).trans (hHeld.2.2.2.2.1)))))), ((cell_far (p := ⟨gb674, _, none⟩) NB680_674.out _).trans (((cell_far (p := ⟨gb674, _, none⟩) NB680_674.out _).trans (((cell_far (p := ⟨gb674, _, none⟩) NB680_674.out _).trans (hHeld.2.2.2.2.2.1)))))), ((cell_far (p := ⟨gb674, _, none⟩) NB680_674.out _).trans (((cell_far (p := ⟨gb674, _, none⟩) NB680_674.out _).trans (((cell_far (p := ⟨gb674, _, none⟩) NB680_674.out _).trans (hHeld.2.2.2.2.2.2))))))⟩ (fun hHeld => ?_)
  clear hK K
  refine done_ (done_of HT_.out (by kernel_rfl)) ?_
  try go_wp2
  refine bodyPost_ret (results_cell_row rfl _ _ gb674 23 #[.int .i64 t681, .int .i64 t682, .int .i64 t683] (0, 0) _ rfl (by (with_reducible repeat (first | refine blk_drewN ?_ _ | refine blk_drew ?_ | refine blk_alloc ?_ _)); refine blk_put (cs := #[.int .i64 t681, .int .i64 t682, .int .i64 0]) ?_ 2 _ rfl; (with_reducible repeat (first | refine blk_drewN ?_ _ | refine blk_drew ?_ | refine blk_alloc ?_ _)); refine blk_put (cs := #[.int .i64 t681, .int .i64 0, .int .i64 0]) ?_ 1 _ rfl; (with_reducible repeat (first | refine blk_drewN ?_ _ | refine blk_drew ?_ | refine blk_alloc ?_ _)); refine blk_put (cs := #[.int .i64 0, .int .i64 0, .int .i64 0]) ?_ 0 _ rfl; (with_reducible repeat (first | refine blk_drewN ?_ _ | refine blk_drew ?_ | refine blk_alloc ?_ _)); exact BK674.out) Try.underlying23 rfl (by kernel_rfl)) rfl ?_
  exact rt HB
end
section
attribute [local go_sem high] eqA23
/-! ### torchonlaw06_GridsReduced: function 4 -/
mutual
def torchonlaw06_GridsReduced.j0 : Nat → Bool → Int → Int → Int → Int → Int → Int → Int → Int → Int → Int → Int → Int → Int → Int → Option (Bool)
  | 0, _, _, _, _, _, _, _, _, _, _, _, _, _, _, _ => none
  | k + 1, x61, x685000, x685001, x685002, x686000, x686001, x686002, x686003, x695000, x695001, x695002, x696000, x696001, x696002, x696003 => if x61 = true then (none) else ((some (wrap64 (x696000 * x696003))).bind fun z704 => ((some (wrap64 (x696001 * x696002))).bind fun z705 => ((some (wrap64 (z704 - z705))).bind fun z706 => (if z706 = 1 then (torchonlaw06_GridsReduced.j1 k false x685000 x685001 x685002 x686000 x686001 x686002 x686003 x695000 x695001 x695002) else (torchonlaw06_GridsReduced.j1 k (z706 != (-1)) x685000 x685001 x685002 x686000 x686001 x686002 x686003 x695000 x695001 x695002)))))
def torchonlaw06_GridsReduced.j1 : Nat → Bool → Int → Int → Int → Int → Int → Int → Int → Int → Int → Int → Option (Bool)
  | 0, _, _, _, _, _, _, _, _, _, _, _ => none
  | k + 1, x78, x685000, x685001, x685002, x686000, x686001, x686002, x686003, x695000, x695001, x695002 => if x78 = true then (none) else ((some (Int.tmod x686000 4)).bind fun z707 => ((some (Int.tmod x686001 4)).bind fun z708 => ((some (Int.tmod x686002 4)).bind fun z709 => ((some (Int.tmod x686003 4)).bind fun z710 => ((torchonlaw06_mat.f z707 z708 z709 z710).bind fun bt711 => ((some (wrap64 (bt711.1 * bt711.2.2.2))).bind fun z715 => ((some (wrap64 (bt711.2.1 * bt711.2.2.1))).bind fun z716 => ((some (wrap64 (z715 - z716))).bind fun z717 => ((torchonlaw06_lead.f x685000 x685001 x685002 bt711.1 bt711.2.1 bt711.2.2.1 bt711.2.2.2).bind fun bt718 => (if z717 = 1 then ((grids_Check.f k bt718.1 bt718.2.1 bt718.2.2).bind fun t722 => (torchonlaw06_GridsReduced.j2 k (t722 != 0) x695000 x695001 x695002 bt718.1 bt718.2.1 bt718.2.2)) else (if z717 = (-1) then ((grids_Check.f k bt718.1 bt718.2.1 bt718.2.2).bind fun t723 => (torchonlaw06_GridsReduced.j2 k (t723 != 0) x695000 x695001 x695002 bt718.1 bt718.2.1 bt718.2.2)) else (torchonlaw06_GridsReduced.j2 k true x695000 x695001 x695002 bt718.1 bt718.2.1 bt718.2.2))))))))))))
def torchonlaw06_GridsReduced.j2 : Nat → Bool → Int → Int → Int → Int → Int → Int → Option (Bool)
  | 0, _, _, _, _, _, _, _ => none
  | k + 1, x116, x695000, x695001, x695002, x722000, x722001, x722002 => if x116 = true then ((torchonlaw06_awake.f k).bind fun t724 => (some t724)) else ((grids_Reduce.f k x722000 x722001 x722002).bind fun bt725 => (if bt725.2.2.2.2.2.2.2 = 0 then (if (bt725.1 == x695000 && (bt725.2.1 == x695001 && (bt725.2.2.1 == x695002))) = true then ((torchonlaw06_awake.f k).bind fun t735 => (some t735)) else (none)) else (none)))
end
def torchonlaw06_GridsReduced.f (k : Nat) (a0_0 : Int) (a0_1 : Int) (a0_2 : Int) (a1_0 : Int) (a1_1 : Int) (a1_2 : Int) (a1_3 : Int) : Option (Bool) := (grids_Reduce.f k a0_0 a0_1 a0_2).bind fun bt686 => (if bt686.2.2.2.2.2.2.2 = 0 then ((grids_Check.f k bt686.1 bt686.2.1 bt686.2.2.1).bind fun t698 => (if t698 = 0 then (if bt686.2.1 < 0 then (torchonlaw06_GridsReduced.j0 k true a0_0 a0_1 a0_2 a1_0 a1_1 a1_2 a1_3 bt686.1 bt686.2.1 bt686.2.2.1 bt686.2.2.2.1 bt686.2.2.2.2.1 bt686.2.2.2.2.2.1 bt686.2.2.2.2.2.2.1) else ((some (wrap64 (2 * bt686.2.1))).bind fun z699 => (if z699 > bt686.1 then (torchonlaw06_GridsReduced.j0 k true a0_0 a0_1 a0_2 a1_0 a1_1 a1_2 a1_3 bt686.1 bt686.2.1 bt686.2.2.1 bt686.2.2.2.1 bt686.2.2.2.2.1 bt686.2.2.2.2.2.1 bt686.2.2.2.2.2.2.1) else (if bt686.1 > bt686.2.2.1 then (torchonlaw06_GridsReduced.j0 k true a0_0 a0_1 a0_2 a1_0 a1_1 a1_2 a1_3 bt686.1 bt686.2.1 bt686.2.2.1 bt686.2.2.2.1 bt686.2.2.2.2.1 bt686.2.2.2.2.2.1 bt686.2.2.2.2.2.2.1) else ((torchonref06_Matrix.f bt686.2.2.2.1 bt686.2.2.2.2.1 bt686.2.2.2.2.2.1 bt686.2.2.2.2.2.2.1).bind fun t700 => (if t700 = true then ((torchonlaw06_lead.f a0_0 a0_1 a0_2 bt686.2.2.2.1 bt686.2.2.2.2.1 bt686.2.2.2.2.2.1 bt686.2.2.2.2.2.2.1).bind fun bt701 => (torchonlaw06_GridsReduced.j0 k (!(bt701.1 == bt686.1) || (!(bt701.2.1 == bt686.2.1) || (!(bt701.2.2 == bt686.2.2.1)))) a0_0 a0_1 a0_2 a1_0 a1_1 a1_2 a1_3 bt686.1 bt686.2.1 bt686.2.2.1 bt686.2.2.2.1 bt686.2.2.2.2.1 bt686.2.2.2.2.2.1 bt686.2.2.2.2.2.2.1)) else (torchonlaw06_GridsReduced.j0 k true a0_0 a0_1 a0_2 a1_0 a1_1 a1_2 a1_3 bt686.1 bt686.2.1 bt686.2.2.1 bt686.2.2.2.1 bt686.2.2.2.2.1 bt686.2.2.2.2.2.1 bt686.2.2.2.2.2.2.1))))))) else (torchonlaw06_GridsReduced.j0 k true a0_0 a0_1 a0_2 a1_0 a1_1 a1_2 a1_3 bt686.1 bt686.2.1 bt686.2.2.1 bt686.2.2.2.1 bt686.2.2.2.2.1 bt686.2.2.2.2.2.1 bt686.2.2.2.2.2.2.1))) else ((grids_Check.f k a0_0 a0_1 a0_2).bind fun t696 => (if t696 = 2 then ((torchonlaw06_awake.f k).bind fun t697 => (some t697)) else (none))))
theorem torchonlaw06_GridsReduced.mono_l : ∀ k, (∀ y0 y1 y2 y3 y4 y5 y6 y7 y8 y9 y10 y11 y12 y13 y14, LeO (torchonlaw06_GridsReduced.j0 k y0 y1 y2 y3 y4 y5 y6 y7 y8 y9 y10 y11 y12 y13 y14) (torchonlaw06_GridsReduced.j0 (k + 1) y0 y1 y2 y3 y4 y5 y6 y7 y8 y9 y10 y11 y12 y13 y14)) ∧ (∀ y0 y1 y2 y3 y4 y5 y6 y7 y8 y9 y10, LeO (torchonlaw06_GridsReduced.j1 k y0 y1 y2 y3 y4 y5 y6 y7 y8 y9 y10) (torchonlaw06_GridsReduced.j1 (k + 1) y0 y1 y2 y3 y4 y5 y6 y7 y8 y9 y10)) ∧ (∀ y0 y1 y2 y3 y4 y5 y6, LeO (torchonlaw06_GridsReduced.j2 k y0 y1 y2 y3 y4 y5 y6) (torchonlaw06_GridsReduced.j2 (k + 1) y0 y1 y2 y3 y4 y5 y6))
  | 0 => ⟨fun _ _ _ _ _ _ _ _ _ _ _ _ _ _ _ r h => by simp [torchonlaw06_GridsReduced.j0] at h, fun _ _ _ _ _ _ _ _ _ _ _ r h => by simp [torchonlaw06_GridsReduced.j1] at h, fun _ _ _ _ _ _ _ r h => by simp [torchonlaw06_GridsReduced.j2] at h⟩
  | k + 1 => by
    obtain ⟨ih0, ih1, ih2⟩ := torchonlaw06_GridsReduced.mono_l k
    refine ⟨?_, ?_, ?_⟩
    · intro y0 y1 y2 y3 y4 y5 y6 y7 y8 y9 y10 y11 y12 y13 y14
      unfold torchonlaw06_GridsReduced.j0
      repeat' first
      | (with_reducible exact ih0 _ _ _ _ _ _ _ _ _ _ _ _ _ _ _)
      | (with_reducible exact ih1 _ _ _ _ _ _ _ _ _ _ _)
      | (with_reducible exact ih2 _ _ _ _ _ _ _)
      | (with_reducible exact grids_Check.mono _ _ _ _)
      | (with_reducible exact grids_Reduce.mono _ _ _ _)
      | (with_reducible exact torchonlaw06_awake.mono _)
      | (with_reducible exact LeO.refl _)
      | (with_reducible exact LeO.none _)
      | (with_reducible refine LeO.ite ?_ ?_)
      | (with_reducible refine LeO.bind ?_ (fun _ => ?_))
      | exact ih0 _ _ _ _ _ _ _ _ _ _ _ _ _ _ _
      | exact ih1 _ _ _ _ _ _ _ _ _ _ _
      | exact ih2 _ _ _ _ _ _ _
      | exact grids_Check.mono _ _ _ _
      | exact grids_Reduce.mono _ _ _ _
      | exact torchonlaw06_awake.mono _
      | exact LeO.none _
      | refine LeO.ite ?_ ?_
      | refine LeO.bind ?_ (fun _ => ?_)
    · intro y0 y1 y2 y3 y4 y5 y6 y7 y8 y9 y10
      unfold torchonlaw06_GridsReduced.j1
      repeat' first
      | (with_reducible exact ih0 _ _ _ _ _ _ _ _ _ _ _ _ _ _ _)
      | (with_reducible exact ih1 _ _ _ _ _ _ _ _ _ _ _)
      | (with_reducible exact ih2 _ _ _ _ _ _ _)
      | (with_reducible exact grids_Check.mono _ _ _ _)
      | (with_reducible exact grids_Reduce.mono _ _ _ _)
      | (with_reducible exact torchonlaw06_awake.mono _)
      | (with_reducible exact LeO.refl _)
      | (with_reducible exact LeO.none _)
      | (with_reducible refine LeO.ite ?_ ?_)
      | (with_reducible refine LeO.bind ?_ (fun _ => ?_))
      | exact ih0 _ _ _ _ _ _ _ _ _ _ _ _ _ _ _
      | exact ih1 _ _ _ _ _ _ _ _ _ _ _
      | exact ih2 _ _ _ _ _ _ _
      | exact grids_Check.mono _ _ _ _
      | exact grids_Reduce.mono _ _ _ _
      | exact torchonlaw06_awake.mono _
      | exact LeO.none _
      | refine LeO.ite ?_ ?_
      | refine LeO.bind ?_ (fun _ => ?_)
    · intro y0 y1 y2 y3 y4 y5 y6
      unfold torchonlaw06_GridsReduced.j2
      repeat' first
      | (with_reducible exact ih0 _ _ _ _ _ _ _ _ _ _ _ _ _ _ _)
      | (with_reducible exact ih1 _ _ _ _ _ _ _ _ _ _ _)
      | (with_reducible exact ih2 _ _ _ _ _ _ _)
      | (with_reducible exact grids_Check.mono _ _ _ _)
      | (with_reducible exact grids_Reduce.mono _ _ _ _)
      | (with_reducible exact torchonlaw06_awake.mono _)
      | (with_reducible exact LeO.refl _)
      | (with_reducible exact LeO.none _)
      | (with_reducible refine LeO.ite ?_ ?_)
      | (with_reducible refine LeO.bind ?_ (fun _ => ?_))
      | exact ih0 _ _ _ _ _ _ _ _ _ _ _ _ _ _ _
      | exact ih1 _ _ _ _ _ _ _ _ _ _ _
      | exact ih2 _ _ _ _ _ _ _
      | exact grids_Check.mono _ _ _ _
      | exact grids_Reduce.mono _ _ _ _
      | exact torchonlaw06_awake.mono _
      | exact LeO.none _
      | refine LeO.ite ?_ ?_
      | refine LeO.bind ?_ (fun _ => ?_)
theorem torchonlaw06_GridsReduced.mono : ∀ a0 a1 a2 a3 a4 a5 a6 k, LeO (torchonlaw06_GridsReduced.f k a0 a1 a2 a3 a4 a5 a6) (torchonlaw06_GridsReduced.f (k + 1) a0 a1 a2 a3 a4 a5 a6) := by
  intro a0 a1 a2 a3 a4 a5 a6 k
  obtain ⟨ih0, ih1, ih2⟩ := torchonlaw06_GridsReduced.mono_l k
  unfold torchonlaw06_GridsReduced.f
  repeat' first
      | (with_reducible exact ih0 _ _ _ _ _ _ _ _ _ _ _ _ _ _ _)
      | (with_reducible exact ih1 _ _ _ _ _ _ _ _ _ _ _)
      | (with_reducible exact ih2 _ _ _ _ _ _ _)
      | (with_reducible exact grids_Check.mono _ _ _ _)
      | (with_reducible exact grids_Reduce.mono _ _ _ _)
      | (with_reducible exact torchonlaw06_awake.mono _)
      | (with_reducible exact LeO.refl _)
      | (with_reducible exact LeO.none _)
      | (with_reducible refine LeO.ite ?_ ?_)
      | (with_reducible refine LeO.bind ?_ (fun _ => ?_))
      | exact ih0 _ _ _ _ _ _ _ _ _ _ _ _ _ _ _
      | exact ih1 _ _ _ _ _ _ _ _ _ _ _
      | exact ih2 _ _ _ _ _ _ _
      | exact grids_Check.mono _ _ _ _
      | exact grids_Reduce.mono _ _ _ _
      | exact torchonlaw06_awake.mono _
      | exact LeO.none _
      | refine LeO.ite ?_ ?_
      | refine LeO.bind ?_ (fun _ => ?_)
def torchonlaw06_GridsReduced.T4 : Bool × List (List Nat × List Nat) := (true, [([], []), ([0], [0]), ([1], [1]), ([2, 1], [2]), ([3], [3]), ([4, 3], [3, 4]), ([5, 3], [3, 5]), ([3, 6], [3, 6]), ([7, 3], [7]), ([8], [8]), ([9, 8], [8, 9]), ([10, 8], [8, 10]), ([8], [8]), ([12, 8], [8, 12]), ([11, 13, 8], [8, 11, 13]), ([8, 14], [8, 14]), ([15, 8], [15]), ([16], [16]), ([17, 16], [16, 17]), ([16], [16]), ([19, 16], [16, 19]), ([18, 20, 16], [16, 18, 20]), ([16, 21], [16, 21]), ([22, 16], [22]), ([23], [23]), ([24, 23, 23], [23, 24]), ([25, 23], [23, 25]), ([23, 26], [23, 26]), ([27, 25], [27]), ([28], [28]), ([28], [28]), ([29, 30, 28, 28], [28, 29, 30]), ([28], [28]), ([31, 32, 28], [28, 31, 32]), ([28, 33], [28, 33])])
def torchonlaw06_GridsReduced.B4 : List Nat := [0, 1, 3, 7, 15, 31, 63, 127, 255, 511, 1023, 2047, 511, 4607, 16383, 32767, 65535, 131071, 262143, 131071, 655359, 2097151, 4194303, 8388607, 16777215, 33554431, 67108863, 134217727, 268435455, 536870911, 536870911, 2147483647, 536870911, 8589934591, 17179869183]
theorem torchonlaw06_GridsReduced.tab4 : rtab .any (opsOf Try.f4 4) = torchonlaw06_GridsReduced.T4 := by kernel_rfl
theorem torchonlaw06_GridsReduced.bits4 : waitsOk torchonlaw06_GridsReduced.T4.2 torchonlaw06_GridsReduced.B4 = true := by kernel_rfl
set_option maxHeartbeats 8000000 in
set_option maxRecDepth 100000 in
theorem torchonlaw06_GridsReduced.calls (k : Nat) (a0_0 : Int) (a0_1 : Int) (a0_2 : Int) (a1_0 : Int) (a1_1 : Int) (a1_2 : Int) (a1_3 : Int) (r : Bool) (w : World) (h : torchonlaw06_GridsReduced.f k a0_0 a0_1 a0_2 a1_0 a1_1 a1_2 a1_3 = some r) :
    Calls Try.prog 4 #[.agg #[.int .i64 a0_0, .int .i64 a0_1, .int .i64 a0_2], .agg #[.int .i64 a1_0, .int .i64 a1_1, .int .i64 a1_2, .int .i64 a1_3]] w fun e w' => e = .returned (.bool r) ∧ Below w.heap.size w w' := by
  have hu23 := Try.underlying23
  have hu25 := Try.underlying25
  have HB := Aside0.mk (Below.refl w.heap.size w)
  have H : ((grids_Reduce.f k a0_0 a0_1 a0_2).bind fun bt686 => (if bt686.2.2.2.2.2.2.2 = 0 then ((grids_Check.f k bt686.1 bt686.2.1 bt686.2.2.1).bind fun t698 => (if t698 = 0 then (if bt686.2.1 < 0 then (torchonlaw06_GridsReduced.j0 k true a0_0 a0_1 a0_2 a1_0 a1_1 a1_2 a1_3 bt686.1 bt686.2.1 bt686.2.2.1 bt686.2.2.2.1 bt686.2.2.2.2.1 bt686.2.2.2.2.2.1 bt686.2.2.2.2.2.2.1) else ((some (wrap64 (2 * bt686.2.1))).bind fun z699 => (if z699 > bt686.1 then (torchonlaw06_GridsReduced.j0 k true a0_0 a0_1 a0_2 a1_0 a1_1 a1_2 a1_3 bt686.1 bt686.2.1 bt686.2.2.1 bt686.2.2.2.1 bt686.2.2.2.2.1 bt686.2.2.2.2.2.1 bt686.2.2.2.2.2.2.1) else (if bt686.1 > bt686.2.2.1 then (torchonlaw06_GridsReduced.j0 k true a0_0 a0_1 a0_2 a1_0 a1_1 a1_2 a1_3 bt686.1 bt686.2.1 bt686.2.2.1 bt686.2.2.2.1 bt686.2.2.2.2.1 bt686.2.2.2.2.2.1 bt686.2.2.2.2.2.2.1) else ((torchonref06_Matrix.f bt686.2.2.2.1 bt686.2.2.2.2.1 bt686.2.2.2.2.2.1 bt686.2.2.2.2.2.2.1).bind fun t700 => (if t700 = true then ((torchonlaw06_lead.f a0_0 a0_1 a0_2 bt686.2.2.2.1 bt686.2.2.2.2.1 bt686.2.2.2.2.2.1 bt686.2.2.2.2.2.2.1).bind fun bt701 => (torchonlaw06_GridsReduced.j0 k (!(bt701.1 == bt686.1) || (!(bt701.2.1 == bt686.2.1) || (!(bt701.2.2 == bt686.2.2.1)))) a0_0 a0_1 a0_2 a1_0 a1_1 a1_2 a1_3 bt686.1 bt686.2.1 bt686.2.2.1 bt686.2.2.2.1 bt686.2.2.2.2.1 bt686.2.2.2.2.2.1 bt686.2.2.2.2.2.2.1)) else (torchonlaw06_GridsReduced.j0 k true a0_0 a0_1 a0_2 a1_0 a1_1 a1_2 a1_3 bt686.1 bt686.2.1 bt686.2.2.1 bt686.2.2.2.1 bt686.2.2.2.2.1 bt686.2.2.2.2.2.1 bt686.2.2.2.2.2.2.1))))))) else (torchonlaw06_GridsReduced.j0 k true a0_0 a0_1 a0_2 a1_0 a1_1 a1_2 a1_3 bt686.1 bt686.2.1 bt686.2.2.1 bt686.2.2.2.1 bt686.2.2.2.2.1 bt686.2.2.2.2.2.1 bt686.2.2.2.2.2.2.1))) else ((grids_Check.f k a0_0 a0_1 a0_2).bind fun t696 => (if t696 = 2 then ((torchonlaw06_awake.f k).bind fun t697 => (some t697)) else (none))))) = some r := h
  clear h
  replace H := Option.bind_eq_some_iff.mp H
  obtain ⟨⟨t686, t687, t688, t689, t690, t691, t692, t693⟩, A30, H⟩ := H
  replace H : (if t693 = 0 then ((grids_Check.f k t686 t687 t688).bind fun t698 => (if t698 = 0 then (if t687 < 0 then (torchonlaw06_GridsReduced.j0 k true a0_0 a0_1 a0_2 a1_0 a1_1 a1_2 a1_3 t686 t687 t688 t689 t690 t691 t692) else ((some (wrap64 (2 * t687))).bind fun z699 => (if z699 > t686 then (torchonlaw06_GridsReduced.j0 k true a0_0 a0_1 a0_2 a1_0 a1_1 a1_2 a1_3 t686 t687 t688 t689 t690 t691 t692) else (if t686 > t688 then (torchonlaw06_GridsReduced.j0 k true a0_0 a0_1 a0_2 a1_0 a1_1 a1_2 a1_3 t686 t687 t688 t689 t690 t691 t692) else ((torchonref06_Matrix.f t689 t690 t691 t692).bind fun t700 => (if t700 = true then ((torchonlaw06_lead.f a0_0 a0_1 a0_2 t689 t690 t691 t692).bind fun bt701 => (torchonlaw06_GridsReduced.j0 k (!(bt701.1 == t686) || (!(bt701.2.1 == t687) || (!(bt701.2.2 == t688)))) a0_0 a0_1 a0_2 a1_0 a1_1 a1_2 a1_3 t686 t687 t688 t689 t690 t691 t692)) else (torchonlaw06_GridsReduced.j0 k true a0_0 a0_1 a0_2 a1_0 a1_1 a1_2 a1_3 t686 t687 t688 t689 t690 t691 t692))))))) else (torchonlaw06_GridsReduced.j0 k true a0_0 a0_1 a0_2 a1_0 a1_1 a1_2 a1_3 t686 t687 t688 t689 t690 t691 t692))) else ((grids_Check.f k a0_0 a0_1 a0_2).bind fun t696 => (if t696 = 2 then ((torchonlaw06_awake.f k).bind fun t697 => (some t697)) else (none)))) = some r := H
  have A3 := Aside0.mk A30
  clear A30
  by_cases c4 : t693 = 0
  · rw [if_pos c4] at H
    have c4b0 : (t693 == 0) = true := beq_iff_eq.mpr c4
    have c4b1 : (t693 != 0) = false := bne_eq_false_iff_eq.mpr c4
    clear c4
    have HC5 := Aside0.mk H
    clear H
    go_enter Try.func4, Try.ntmps4
    go_upto_region 4 with (first | ((with_reducible refine gate_dst (N := 2) rfl ?_); refine bx 2 #[.int .i64 a0_0, .int .i64 a0_1, .int .i64 a0_2] 23 fun gb684 hg w6 BK684 hb => ?_; have GW684 := gw hg HB; have GE684 := gw hg HB; replace HB := bst HB hb; clear hb hg) | ((with_reducible refine gate_dst (N := 3) rfl ?_); refine bx 3 #[.int .i64 a1_0, .int .i64 a1_1, .int .i64 a1_2, .int .i64 a1_3] 25 fun gb685 hg w7 BK685 hb => ?_; have GW685 := gw hg HB; have GE685 := gw hg HB; have NB684_685 := nlt hg BK684; have NB685_684 := ngt hg BK684; replace BK684 := bb BK684 hb; replace HB := bst HB hb; clear hb hg; have hnb8 := NB684_685.out; have hnc8 := NB685_684.out; have ⟨hcz9_0, hcz9_1, hcz9_2, hfz9_0, hfz9_1, hfz9_2⟩ := cf3 BK684) | ((with_reducible refine gate_callee (f := 11) rfl ?_); refine gl 15 Try.func11 (grids_Reduce.calls k a0_0 a0_1 a0_2 t686 t687 t688 t689 t690 t691 t692 t693 _ A3.out) ?_; rintro e w10 ⟨rfl, hb⟩; refine ⟨_, rfl, ?_⟩; replace BK684 := bb BK684 hb; replace BK685 := bb BK685 hb; replace HB := bst HB hb; clear hb) | ((with_reducible refine gate_dst (N := 5) rfl ?_); refine bx 5 #[.int .i64 0, .int .i64 0, .int .i64 0] 23 fun gb694 hg w11 BK694 hb => ?_; have GW694 := gw hg HB; have GE694 := gw hg HB; have NB684_694 := nlt hg BK684; have NB694_684 := ngt hg BK684; have NB685_694 := nlt hg BK685; have NB694_685 := ngt hg BK685; replace BK684 := bb BK684 hb; replace BK685 := bb BK685 hb; replace HB := bst HB hb; clear hb hg) | ((with_reducible refine gate_dst (N := 6) rfl ?_); refine bx 6 #[.int .i64 0, .int .i64 0, .int .i64 0, .int .i64 0] 25 fun gb695 hg w12 BK695 hb => ?_; have GW695 := gw hg HB; have GE695 := gw hg HB; have NB684_695 := nlt hg BK684; have NB695_684 := ngt hg BK684; have NB685_695 := nlt hg BK685; have NB695_685 := ngt hg BK685; have NB694_695 := nlt hg BK694; have NB695_694 := ngt hg BK694; replace BK684 := bb BK684 hb; replace BK685 := bb BK685 hb; replace BK694 := bb BK694 hb; replace HB := bst HB hb; clear hb hg; have hnb13 := NB694_684.out; have hnc13 := NB684_694.out; have hnb14 := NB694_685.out; have hnc14 := NB685_694.out; have hnb15 := NB694_695.out; have hnc15 := NB695_694.out; have ⟨hcz16_0, hcz16_1, hcz16_2, hfz16_0, hfz16_1, hfz16_2⟩ := cf3 BK694) | ((with_reducible refine gate_store (t := 23) (p := 5) rfl ?_); refine sx 23 5 ((((w12.setCell ⟨gb694, 0, none⟩ (.int .i64 t686)).setCell ⟨gb694, 1, none⟩ (.int .i64 t687)).setCell ⟨gb694, 2, none⟩ (.int .i64 t688))) fun w17 hw => ?_; replace BK684 := fw hw BK684; replace BK685 := fw hw BK685; replace BK694 := pw3 hw BK694; replace BK695 := fw hw BK695; replace HB := bw hw HB; clear hw; have hnb18 := NB695_684.out; have hnc18 := NB684_695.out; have hnb19 := NB695_685.out; have hnc19 := NB685_695.out; have ⟨hcz20_0, hcz20_1, hcz20_2, hcz20_3, hfz20_0, hfz20_1, hfz20_2, hfz20_3⟩ := cf4 BK695) | ((with_reducible refine gate_store (t := 25) (p := 6) rfl ?_); refine sx 25 6 (((((w17.setCell ⟨gb695, 0, none⟩ (.int .i64 t689)).setCell ⟨gb695, 1, none⟩ (.int .i64 t690)).setCell ⟨gb695, 2, none⟩ (.int .i64 t691)).setCell ⟨gb695, 3, none⟩ (.int .i64 t692))) fun w21 hw => ?_; replace BK684 := fw hw BK684; replace BK685 := fw hw BK685; replace BK694 := fw hw BK694; replace BK695 := pw4 hw BK695; replace HB := bw hw HB; clear hw))
    (try simp only [Act.put, List.setIfInBounds_toArray, List.set_cons_zero, List.set_cons_succ])
    go_cut [61] (fun v61 wc => ∃ (kq : Nat) (x61_4 : Bool), v61 = .bool x61_4 ∧ Aside0 (torchonlaw06_GridsReduced.j0 kq x61_4 a0_0 a0_1 a0_2 a1_0 a1_1 a1_2 a1_3 t686 t687 t688 t689 t690 t691 t692 = some r) ∧ Aside0 (kq ≤ k) ∧ Aside0 (wc.heap[gb684]? = some (.cells #[.int .i64 a0_0, .int .i64 a0_1, .int .i64 a0_2] 23 (0, 0))) ∧ Aside0 (wc.heap[gb685]? = some (.cells #[.int .i64 a1_0, .int .i64 a1_1, .int .i64 a1_2, .int .i64 a1_3] 25 (0, 0))) ∧ Aside0 (wc.heap[gb694]? = some (.cells #[.int .i64 t686, .int .i64 t687, .int .i64 t688] 23 (0, 0))) ∧ Aside0 (wc.heap[gb695]? = some (.cells #[.int .i64 t689, .int .i64 t690, .int .i64 t691, .int .i64 t692] 25 (0, 0))) ∧ Aside0 (Below w.heap.size w wc))
    case first =>
      have H := HC5.out
      clear HC5
      replace H := Option.bind_eq_some_iff.mp H
      obtain ⟨t698, A220, H⟩ := H
      replace H : (if t698 = 0 then (if t687 < 0 then (torchonlaw06_GridsReduced.j0 k true a0_0 a0_1 a0_2 a1_0 a1_1 a1_2 a1_3 t686 t687 t688 t689 t690 t691 t692) else ((some (wrap64 (2 * t687))).bind fun z699 => (if z699 > t686 then (torchonlaw06_GridsReduced.j0 k true a0_0 a0_1 a0_2 a1_0 a1_1 a1_2 a1_3 t686 t687 t688 t689 t690 t691 t692) else (if t686 > t688 then (torchonlaw06_GridsReduced.j0 k true a0_0 a0_1 a0_2 a1_0 a1_1 a1_2 a1_3 t686 t687 t688 t689 t690 t691 t692) else ((torchonref06_Matrix.f t689 t690 t691 t692).bind fun t700 => (if t700 = true then ((torchonlaw06_lead.f a0_0 a0_1 a0_2 t689 t690 t691 t692).bind fun bt701 => (torchonlaw06_GridsReduced.j0 k (!(bt701.1 == t686) || (!(bt701.2.1 == t687) || (!(bt701.2.2 == t688)))) a0_0 a0_1 a0_2 a1_0 a1_1 a1_2 a1_3 t686 t687 t688 t689 t690 t691 t692)) else (torchonlaw06_GridsReduced.j0 k true a0_0 a0_1 a0_2 a1_0 a1_1 a1_2 a1_3 t686 t687 t688 t689 t690 t691 t692))))))) else (torchonlaw06_GridsReduced.j0 k true a0_0 a0_1 a0_2 a1_0 a1_1 a1_2 a1_3 t686 t687 t688 t689 t690 t691 t692)) = some r := H
      have A22 := Aside0.mk A220
      clear A220
      by_cases c23 : t698 = 0
      · rw [if_pos c23] at H
        have c23b0 : (t698 == 0) = true := beq_iff_eq.mpr c23
        have c23b1 : (t698 != 0) = false := bne_eq_false_iff_eq.mpr c23
        clear c23
        (first | rw [c23b0] | (simp only [i64_w, i32_w]; rw [c23b0]) | skip)
        by_cases c24 : t687 < 0
        · rw [if_pos c24] at H
          have c24b0 : decide (t687 < 0) = true := decide_eq_true c24
          clear c24
          have H' := Aside0.mk H
          clear H
          try go_wp2
          replace BK684 := bd BK684
          replace BK685 := bd BK685
          replace BK694 := bd BK694
          replace BK695 := bd BK695
          replace HB := bdn HB
          refine start_ (n := 35) (S := fun w' => w'.cell? ⟨gb694, 0, none⟩ = some (.int .i64 t686) ∧ w'.cell? ⟨gb694, 1, none⟩ = some (.int .i64 t687) ∧ w'.cell? ⟨gb694, 2, none⟩ = some (.int .i64 t688)) (ds := []) #[false, false, false, false, false, false, false, false, false, false, false, false, false, false, false, false, false, false, false, false, false, false, false, false, false, false, false, false, false, false, false, false, false, false, false] (by kernel_rfl) rfl rfl ⟨(blk_cell BK694.out 0).trans rfl, (blk_cell BK694.out 1).trans rfl, (blk_cell BK694.out 2).trans rfl⟩ (fun hHeld => ?_); refine with_tabW torchonlaw06_GridsReduced.tab4 torchonlaw06_GridsReduced.bits4 (fun HT_ HW_ => ?_)
          generalize w21.drew = w25 at BK684 BK685 BK694 BK695 HB hHeld ⊢
          refine tz 0 27 HT_ HW_ hHeld ?_
          refine one_ (i := 1) (N := some 28) #[true, true, false, false, false, false, false, false, false, false, false, false, false, false, false, false, false, false, false, false, false, false, false, false, false, false, false, false, false, false, false, false, false, false, false] rfl rfl (one_of HT_.out (by kernel_rfl)) (by decide) (fun K hK => ?_)
          refine gs _ Try.func14 (grids_Check.calls k t686 t687 t688 t698 _ A22.out) ?_
          rintro e w26 ⟨rfl, hb⟩
          refine ⟨_, rfl, ?_⟩
          replace BK684 := bb BK684 hb
          replace BK685 := bb BK685 hb
          replace BK694 := bb BK694 hb
          replace BK695 := bb BK695 hb
          replace HB := bst HB hb
          (try clear hb)
          (try clear hb2)
          (try clear hk)
          (try clear hi)
          refine hK.out _ _ ⟨(blk_cell BK694.out 0).trans rfl, (blk_cell BK694.out 1).trans rfl, (blk_cell BK694.out 2).trans rfl⟩ (fun hHeld => ?_)
          clear hK K
          refine norm_ (a' := ?_) ?_ ?_
          rotate_left
          · show Act.put _ (some 28) _ = _
            simp only [Act.put, List.setIfInBounds_toArray, List.set_cons_zero, List.set_cons_succ, i64_w, i32_w]
            rfl
          refine pz 2 29 HT_ ?_
          refine pz 3 30 HT_ ?_
          refine pz 4 31 HT_ ?_
          refine tz 5 32 HT_ HW_ hHeld ?_
          refine pz 6 33 HT_ ?_
          refine pz 7 34 HT_ ?_
          refine pz 8 35 HT_ ?_
          refine pu 9 36 HT_ ?_
          refine pu 10 37 HT_ ?_
          refine pu 11 38 HT_ ?_
          refine pu 12 39 HT_ ?_
          refine pu 13 40 HT_ ?_
          refine pu 14 41 HT_ ?_
          refine pz 15 42 HT_ ?_
          refine pz 16 43 HT_ ?_
          refine pu 17 44 HT_ ?_
          refine pu 18 45 HT_ ?_
          refine pu 19 46 HT_ ?_
          refine pu 20 47 HT_ ?_
          refine pu 21 48 HT_ ?_
          refine pz 22 49 HT_ ?_
          refine pz 23 50 HT_ ?_
          refine pu 24 51 HT_ ?_
          refine pu 25 52 HT_ ?_
          refine pu 26 53 HT_ ?_
          refine pz 27 54 HT_ ?_
          refine pz 28 55 HT_ ?_
          refine pu 29 56 HT_ ?_
          refine pu 30 57 HT_ ?_
          refine pu 31 58 HT_ ?_
          refine pu 32 59 HT_ ?_
          refine pu 33 60 HT_ ?_
          refine pz 34 61 HT_ ?_
          refine done_ (done_of HT_.out (by kernel_rfl)) ?_
          try go_wp2
          go_meet
          case rel => exact ⟨_, (true), (by first | rfl | (simp; done) | (simp [*]; done)), H', ⟨by first | omega | exact Nat.le_refl _⟩, ⟨pk BK684⟩, ⟨pk BK685⟩, ⟨pk BK694⟩, ⟨pk BK695⟩, ⟨bnow HB⟩⟩
        · rw [if_neg c24] at H
          have c24b0 : decide (t687 < 0) = false := decide_eq_false c24
          clear c24
          replace H := Option.bind_eq_some_iff.mp H
          obtain ⟨z699, E270, H⟩ := H
          replace H : (if z699 > t686 then (torchonlaw06_GridsReduced.j0 k true a0_0 a0_1 a0_2 a1_0 a1_1 a1_2 a1_3 t686 t687 t688 t689 t690 t691 t692) else (if t686 > t688 then (torchonlaw06_GridsReduced.j0 k true a0_0 a0_1 a0_2 a1_0 a1_1 a1_2 a1_3 t686 t687 t688 t689 t690 t691 t692) else ((torchonref06_Matrix.f t689 t690 t691 t692).bind fun t700 => (if t700 = true then ((torchonlaw06_lead.f a0_0 a0_1 a0_2 t689 t690 t691 t692).bind fun bt701 => (torchonlaw06_GridsReduced.j0 k (!(bt701.1 == t686) || (!(bt701.2.1 == t687) || (!(bt701.2.2 == t688)))) a0_0 a0_1 a0_2 a1_0 a1_1 a1_2 a1_3 t686 t687 t688 t689 t690 t691 t692)) else (torchonlaw06_GridsReduced.j0 k true a0_0 a0_1 a0_2 a1_0 a1_1 a1_2 a1_3 t686 t687 t688 t689 t690 t691 t692))))) = some r := H
          replace E270 := Option.some.inj E270
          have E27w : (IntKind.i64.wrap (2 * t687)) = z699 := (i64_w _).trans E270
          by_cases c28 : z699 > t686
          · rw [if_pos c28] at H
            have c28b0 : decide (t686 < z699) = true := decide_eq_true c28
            clear c28
            have H' := Aside0.mk H
            clear H
            try go_wp2
            replace BK684 := bd BK684
            replace BK685 := bd BK685
            replace BK694 := bd BK694
            replace BK695 := bd BK695
            replace HB := bdn HB
            refine start_ (n := 35) (S := fun w' => w'.cell? ⟨gb694, 0, none⟩ = some (.int .i64 t686) ∧ w'.cell? ⟨gb694, 1, none⟩ = some (.int .i64 t687) ∧ w'.cell? ⟨gb694, 2, none⟩ = some (.int .i64 t688)) (ds := []) #[false, false, false, false, false, false, false, false, false, false, false, false, false, false, false, false, false, false, false, false, false, false, false, false, false, false, false, false, false, false, false, false, false, false, false] (by kernel_rfl) rfl rfl ⟨(blk_cell BK694.out 0).trans rfl, (blk_cell BK694.out 1).trans rfl, (blk_cell BK694.out 2).trans rfl⟩ (fun hHeld => ?_); refine with_tabW torchonlaw06_GridsReduced.tab4 torchonlaw06_GridsReduced.bits4 (fun HT_ HW_ => ?_)
            generalize w21.drew = w29 at BK684 BK685 BK694 BK695 HB hHeld ⊢
            refine tz 0 27 HT_ HW_ hHeld ?_
            refine one_ (i := 1) (N := some 28) #[true, true, false, false, false, false, false, false, false, false, false, false, false, false, false, false, false, false, false, false, false, false, false, false, false, false, false, false, false, false, false, false, false, false, false] rfl rfl (one_of HT_.out (by kernel_rfl)) (by decide) (fun K hK => ?_)
            refine gs _ Try.func14 (grids_Check.calls k t686 t687 t688 t698 _ A22.out) ?_
            rintro e w30 ⟨rfl, hb⟩
            refine ⟨_, rfl, ?_⟩
            replace BK684 := bb BK684 hb
            replace BK685 := bb BK685 hb
            replace BK694 := bb BK694 hb
            replace BK695 := bb BK695 hb
            replace HB := bst HB hb
            (try clear hb)
            (try clear hb2)
            (try clear hk)
            (try clear hi)
            refine hK.out _ _ ⟨(blk_cell BK694.out 0).trans rfl, (blk_cell BK694.out 1).trans rfl, (blk_cell BK694.out 2).trans rfl⟩ (fun hHeld => ?_)
            clear hK K
            refine norm_ (a' := ?_) ?_ ?_
            rotate_left
            · show Act.put _ (some 28) _ = _
              simp only [Act.put, List.setIfInBounds_toArray, List.set_cons_zero, List.set_cons_succ, i64_w, i32_w]
              rfl
            refine pz 2 29 HT_ ?_
            refine pz 3 30 HT_ ?_
            refine pz 4 31 HT_ ?_
            refine tz 5 32 HT_ HW_ hHeld ?_
            refine pz 6 33 HT_ ?_
            refine pz 7 34 HT_ ?_
            refine pz 8 35 HT_ ?_
            refine pz 9 36 HT_ ?_
            refine pz 12 39 HT_ ?_
            refine tz 10 37 HT_ HW_ hHeld ?_
            refine pz 11 38 HT_ ?_
            refine tz 13 40 HT_ HW_ hHeld ?_
            refine pz 14 41 HT_ ?_
            refine pz 15 42 HT_ ?_
            refine pz 16 43 HT_ ?_
            refine pu 17 44 HT_ ?_
            refine pu 18 45 HT_ ?_
            refine pu 19 46 HT_ ?_
            refine pu 20 47 HT_ ?_
            refine pu 21 48 HT_ ?_
            refine pz 22 49 HT_ ?_
            refine pz 23 50 HT_ ?_
            refine pu 24 51 HT_ ?_
            refine pu 25 52 HT_ ?_
            refine pu 26 53 HT_ ?_
            refine pz 27 54 HT_ ?_
            refine pz 28 55 HT_ ?_
            refine pu 29 56 HT_ ?_
            refine pu 30 57 HT_ ?_
            refine pu 31 58 HT_ ?_
            refine pu 32 59 HT_ ?_
            refine pu 33 60 HT_ ?_
            refine pz 34 61 HT_ ?_
            refine done_ (done_of HT_.out (by kernel_rfl)) ?_
            try go_wp2
            go_meet
            case rel => exact ⟨_, (true), (by first | rfl | (simp; done) | (simp [*]; done)), H', ⟨by first | omega | exact Nat.le_refl _⟩, ⟨pk BK684⟩, ⟨pk BK685⟩, ⟨pk BK694⟩, ⟨pk BK695⟩, ⟨bnow HB⟩⟩
          · rw [if_neg c28] at H
            have c28b0 : decide (t686 < z699) = false := decide_eq_false c28
            clear c28
            by_cases c31 : t686 > t688
            · rw [if_pos c31] at H
              have c31b0 : decide (t688 < t686) = true := decide_eq_true c31
              clear c31
              have H' := Aside0.mk H
              clear H
              try go_wp2
              replace BK684 := bd BK684
              replace BK685 := bd BK685
              replace BK694 := bd BK694
              replace BK695 := bd BK695
              replace HB := bdn HB
              refine start_ (n := 35) (S := fun w' => w'.cell? ⟨gb694, 0, none⟩ = some (.int .i64 t686) ∧ w'.cell? ⟨gb694, 1, none⟩ = some (.int .i64 t687) ∧ w'.cell? ⟨gb694, 2, none⟩ = some (.int .i64 t688)) (ds := []) #[false, false, false, false, false, false, false, false, false, false, false, false, false, false, false, false, false, false, false, false, false, false, false, false, false, false, false, false, false, false, false, false, false, false, false] (by kernel_rfl) rfl rfl ⟨(blk_cell BK694.out 0).trans rfl, (blk_cell BK694.out 1).trans rfl, (blk_cell BK694.out 2).trans rfl⟩ (fun hHeld => ?_); refine with_tabW torchonlaw06_GridsReduced.tab4 torchonlaw06_GridsReduced.bits4 (fun HT_ HW_ => ?_)
              generalize w21.drew = w32 at BK684 BK685 BK694 BK695 HB hHeld ⊢
              refine tz 0 27 HT_ HW_ hHeld ?_
              refine one_ (i := 1) (N := some 28) #[true, true, false, false, false, false, false, false, false, false, false, false, false, false, false, false, false, false, false, false, false, false, false, false, false, false, false, false, false, false, false, false, false, false, false] rfl rfl (one_of HT_.out (by kernel_rfl)) (by decide) (fun K hK => ?_)
              refine gs _ Try.func14 (grids_Check.calls k t686 t687 t688 t698 _ A22.out) ?_
              rintro e w33 ⟨rfl, hb⟩
              refine ⟨_, rfl, ?_⟩
              replace BK684 := bb BK684 hb
              replace BK685 := bb BK685 hb
              replace BK694 := bb BK694 hb
              replace BK695 := bb BK695 hb
              replace HB := bst HB hb
              (try clear hb)
              (try clear hb2)
              (try clear hk)
              (try clear hi)
              refine hK.out _ _ ⟨(blk_cell BK694.out 0).trans rfl, (blk_cell BK694.out 1).trans rfl, (blk_cell BK694.out 2).trans rfl⟩ (fun hHeld => ?_)
              clear hK K
              refine norm_ (a' := ?_) ?_ ?_
              rotate_left
              · show Act.put _ (some 28) _ = _
                simp only [Act.put, List.setIfInBounds_toArray, List.set_cons_zero, List.set_cons_succ, i64_w, i32_w]
                rfl
              refine pz 2 29 HT_ ?_
              refine pz 3 30 HT_ ?_
              refine pz 4 31 HT_ ?_
              refine tz 5 32 HT_ HW_ hHeld ?_
              refine pz 6 33 HT_ ?_
              refine pz 7 34 HT_ ?_
              refine pz 8 35 HT_ ?_
              refine pz 9 36 HT_ ?_
              refine pz 12 39 HT_ ?_
              refine tz 10 37 HT_ HW_ hHeld ?_
              refine pz 11 38 HT_ ?_
              refine tz 13 40 HT_ HW_ hHeld ?_
              refine pz 14 41 HT_ ?_
              refine pz 15 42 HT_ ?_
              refine pz 16 43 HT_ ?_
              refine pz 17 44 HT_ ?_
              refine pz 19 46 HT_ ?_
              refine tz 18 45 HT_ HW_ hHeld ?_
              refine tz 20 47 HT_ HW_ hHeld ?_
              refine pz 21 48 HT_ ?_
              refine pz 22 49 HT_ ?_
              refine pz 23 50 HT_ ?_
              refine pu 24 51 HT_ ?_
              refine pu 25 52 HT_ ?_
              refine pu 26 53 HT_ ?_
              refine pz 27 54 HT_ ?_
              refine pz 28 55 HT_ ?_
              refine pu 29 56 HT_ ?_
              refine pu 30 57 HT_ ?_
              refine pu 31 58 HT_ ?_
              refine pu 32 59 HT_ ?_
              refine pu 33 60 HT_ ?_
              refine pz 34 61 HT_ ?_
              refine done_ (done_of HT_.out (by kernel_rfl)) ?_
              try go_wp2
              go_meet
              case rel => exact ⟨_, (true), (by first | rfl | (simp; done) | (simp [*]; done)), H', ⟨by first | omega | exact Nat.le_refl _⟩, ⟨pk BK684⟩, ⟨pk BK685⟩, ⟨pk BK694⟩, ⟨pk BK695⟩, ⟨bnow HB⟩⟩
            · rw [if_neg c31] at H
              have c31b0 : decide (t688 < t686) = false := decide_eq_false c31
              clear c31
              replace H := Option.bind_eq_some_iff.mp H
              obtain ⟨t700, A340, H⟩ := H
              replace H : (if t700 = true then ((torchonlaw06_lead.f a0_0 a0_1 a0_2 t689 t690 t691 t692).bind fun bt701 => (torchonlaw06_GridsReduced.j0 k (!(bt701.1 == t686) || (!(bt701.2.1 == t687) || (!(bt701.2.2 == t688)))) a0_0 a0_1 a0_2 a1_0 a1_1 a1_2 a1_3 t686 t687 t688 t689 t690 t691 t692)) else (torchonlaw06_GridsReduced.j0 k true a0_0 a0_1 a0_2 a1_0 a1_1 a1_2 a1_3 t686 t687 t688 t689 t690 t691 t692)) = some r := H
              have A34 := Aside0.mk A340
              clear A340
              by_cases c35 : t700 = true
              · subst c35
                have H1 : ((torchonlaw06_lead.f a0_0 a0_1 a0_2 t689 t690 t691 t692).bind fun bt701 => (torchonlaw06_GridsReduced.j0 k (!(bt701.1 == t686) || (!(bt701.2.1 == t687) || (!(bt701.2.2 == t688)))) a0_0 a0_1 a0_2 a1_0 a1_1 a1_2 a1_3 t686 t687 t688 t689 t690 t691 t692)) = some r := by rw [if_pos rfl] at H; exact H
                clear H
                have H := H1
                clear H1
                replace H := Option.bind_eq_some_iff.mp H
                obtain ⟨⟨t701, t702, t703⟩, A360, H⟩ := H
                replace H : (torchonlaw06_GridsReduced.j0 k (!(t701 == t686) || (!(t702 == t687) || (!(t703 == t688)))) a0_0 a0_1 a0_2 a1_0 a1_1 a1_2 a1_3 t686 t687 t688 t689 t690 t691 t692) = some r := H
                have A36 := Aside0.mk A360
                clear A360
                have H' := Aside0.mk H
                clear H
                try go_wp2
                replace BK684 := bd BK684
                replace BK685 := bd BK685
                replace BK694 := bd BK694
                replace BK695 := bd BK695
                replace HB := bdn HB
                refine start_ (n := 35) (S := fun w' => w'.cell? ⟨gb694, 0, none⟩ = some (.int .i64 t686) ∧ w'.cell? ⟨gb694, 1, none⟩ = some (.int .i64 t687) ∧ w'.cell? ⟨gb694, 2, none⟩ = some (.int .i64 t688) ∧ w'.cell? ⟨gb695, 0, none⟩ = some (.int .i64 t689) ∧ w'.cell? ⟨gb695, 1, none⟩ = some (.int .i64 t690) ∧ w'.cell? ⟨gb695, 2, none⟩ = some (.int .i64 t691) ∧ w'.cell? ⟨gb695, 3, none⟩ = some (.int .i64 t692) ∧ w'.cell? ⟨gb684, 0, none⟩ = some (.int .i64 a0_0) ∧ w'.cell? ⟨gb684, 1, none⟩ = some (.int .i64 a0_1) ∧ w'.cell? ⟨gb684, 2, none⟩ = some (.int .i64 a0_2)) (ds := []) #[false, false, false, false, false, false, false, false, false, false, false, false, false, false, false, false, false, false, false, false, false, false, false, false, false, false, false, false, false, false, false, false, false, false, false] (by kernel_rfl) rfl rfl ⟨(blk_cell BK694.out 0).trans rfl, (blk_cell BK694.out 1).trans rfl, (blk_cell BK694.out 2).trans rfl, (blk_cell BK695.out 0).trans rfl, (blk_cell BK695.out 1).trans rfl, (blk_cell BK695.out 2).trans rfl, (blk_cell BK695.out 3).trans rfl, (blk_cell BK684.out 0).trans rfl, (blk_cell BK684.out 1).trans rfl, (blk_cell BK684.out 2).trans rfl⟩ (fun hHeld => ?_); refine with_tabW torchonlaw06_GridsReduced.tab4 torchonlaw06_GridsReduced.bits4 (fun HT_ HW_ => ?_)
                generalize w21.drew = w37 at BK684 BK685 BK694 BK695 HB hHeld ⊢
                refine tz 0 27 HT_ HW_ hHeld ?_
                refine one_ (i := 1) (N := some 28) #[true, true, false, false, false, false, false, false, false, false, false, false, false, false, false, false, false, false, false, false, false, false, false, false, false, false, false, false, false, false, false, false, false, false, false] rfl rfl (one_of HT_.out (by kernel_rfl)) (by decide) (fun K hK => ?_)
                refine gs _ Try.func14 (grids_Check.calls k t686 t687 t688 t698 _ A22.out) ?_
                rintro e w38 ⟨rfl, hb⟩
                refine ⟨_, rfl, ?_⟩
                replace BK684 := bb BK684 hb
                replace BK685 := bb BK685 hb
                replace BK694 := bb BK694 hb
                replace BK695 := bb BK695 hb
                replace HB := bst HB hb
                (try clear hb)
                (try clear hb2)
                (try clear hk)
                (try clear hi)
                refine hK.out _ _ ⟨(blk_cell BK694.out 0).trans rfl, (blk_cell BK694.out 1).trans rfl, (blk_cell BK694.out 2).trans rfl, (blk_cell BK695.out 0).trans rfl, (blk_cell BK695.out 1).trans rfl, (blk_cell BK695.out 2).trans rfl, (blk_cell BK695.out 3).trans rfl, (blk_cell BK684.out 0).trans rfl, (blk_cell BK684.out 1).trans rfl, (blk_cell BK684.out 2).trans rfl⟩ (fun hHeld => ?_)
                clear hK K
                refine norm_ (a' := ?_) ?_ ?_
                rotate_left
                · show Act.put _ (some 28) _ = _
                  simp only [Act.put, List.setIfInBounds_toArray, List.set_cons_zero, List.set_cons_succ, i64_w, i32_w]
                  rfl
                refine pz 2 29 HT_ ?_
                refine pz 3 30 HT_ ?_
                refine pz 4 31 HT_ ?_
                refine tz 5 32 HT_ HW_ hHeld ?_
                refine pz 6 33 HT_ ?_
                refine pz 7 34 HT_ ?_
                refine pz 8 35 HT_ ?_
                refine pz 9 36 HT_ ?_
                refine pz 12 39 HT_ ?_
                refine tz 10 37 HT_ HW_ hHeld ?_
                refine pz 11 38 HT_ ?_
                refine tz 13 40 HT_ HW_ hHeld ?_
                refine pz 14 41 HT_ ?_
                refine pz 15 42 HT_ ?_
                refine pz 16 43 HT_ ?_
                refine pz 17 44 HT_ ?_
                refine pz 19 46 HT_ ?_
                refine tz 18 45 HT_ HW_ hHeld ?_
                refine tz 20 47 HT_ HW_ hHeld ?_
                refine pz 21 48 HT_ ?_
                refine pz 22 49 HT_ ?_
                refine pz 23 50 HT_ ?_
                refine tz 24 51 HT_ HW_ hHeld ?_
                refine one_ (i := 25) (N := some 52) #[true, true, true, true, true, true, true, true, true, true, true, true, true, true, true, true, true, true, true, true, true, true, true, true, true, true, false, false, false, false, false, false, false, false, false] rfl rfl (one_of HT_.out (by kernel_rfl)) (by decide) (fun K hK => ?_)
                refine gs _ Try.func15 (torchonref06_Matrix.calls t689 t690 t691 t692 true _ A34.out) ?_
                rintro e w39 ⟨rfl, hb⟩
                refine ⟨_, rfl, ?_⟩
                replace BK684 := bb BK684 hb
                replace BK685 := bb BK685 hb
                replace BK694 := bb BK694 hb
                replace BK695 := bb BK695 hb
                replace HB := bst HB hb
                (try clear hb)
                (try clear hb2)
                (try clear hk)
                (try clear hi)
                refine hK.out _ _ ⟨(blk_cell BK694.out 0).trans rfl, (blk_cell BK694.out 1).trans rfl, (blk_cell BK694.out 2).trans rfl, (blk_cell BK695.out 0).trans rfl, (blk_cell BK695.out 1).trans rfl, (blk_cell BK695.out 2).trans rfl, (blk_cell BK695.out 3).trans rfl, (blk_cell BK684.out 0).trans rfl, (blk_cell BK684.out 1).trans rfl, (blk_cell BK684.out 2).trans rfl⟩ (fun hHeld => ?_)
                clear hK K
                refine norm_ (a' := ?_) ?_ ?_
                rotate_left
                · show Act.put _ (some 52) _ = _
                  simp only [Act.put, List.setIfInBounds_toArray, List.set_cons_zero, List.set_cons_succ, i64_w, i32_w]
                  rfl
                refine pz 26 53 HT_ ?_
                refine pz 27 54 HT_ ?_
                refine pz 28 55 HT_ ?_
                refine tz 29 56 HT_ HW_ hHeld ?_
                refine tz 30 57 HT_ HW_ hHeld ?_
                refine tz 32 59 HT_ HW_ hHeld ?_
                refine one_ (i := 31) (N := some 58) #[true, true, true, true, true, true, true, true, true, true, true, true, true, true, true, true, true, true, true, true, true, true, true, true, true, true, true, true, true, true, true, true, true, false, false] rfl rfl (one_of HT_.out (by kernel_rfl)) (by decide) (fun K hK => ?_)
                refine gs _ Try.func16 (torchonlaw06_lead.calls a0_0 a0_1 a0_2 t689 t690 t691 t692 t701 t702 t703 _ A36.out) ?_
                rintro e w40 ⟨rfl, hb⟩
                refine ⟨_, rfl, ?_⟩
                replace BK684 := bb BK684 hb
                replace BK685 := bb BK685 hb
                replace BK694 := bb BK694 hb
                replace BK695 := bb BK695 hb
                replace HB := bst HB hb
                (try clear hb)
                (try clear hb2)
                (try clear hk)
                (try clear hi)
                refine hK.out _ _ ⟨(blk_cell BK694.out 0).trans rfl, (blk_cell BK694.out 1).trans rfl, (blk_cell BK694.out 2).trans rfl, (blk_cell BK695.out 0).trans rfl, (blk_cell BK695.out 1).trans rfl, (blk_cell BK695.out 2).trans rfl, (blk_cell BK695.out 3).trans rfl, (blk_cell BK684.out 0).trans rfl, (blk_cell BK684.out 1).trans rfl, (blk_cell BK684.out 2).trans rfl⟩ (fun hHeld => ?_)
                clear hK K
                refine norm_ (a' := ?_) ?_ ?_
                rotate_left
                · show Act.put _ (some 58) _ = _
                  simp only [Act.put, List.setIfInBounds_toArray, List.set_cons_zero, List.set_cons_succ, i64_w, i32_w]
                  rfl
                refine pz 33 60 HT_ ?_
                refine pz 34 61 HT_ ?_
                refine done_ (done_of HT_.out (by kernel_rfl)) ?_
                try go_wp2
                go_meet
                case rel => exact ⟨_, ((!(t701 == t686) || (!(t702 == t687) || (!(t703 == t688))))), (by first | rfl | (simp; done) | (simp [*]; done)), H', ⟨by first | omega | exact Nat.le_refl _⟩, ⟨pk BK684⟩, ⟨pk BK685⟩, ⟨pk BK694⟩, ⟨pk BK695⟩, ⟨bnow HB⟩⟩
              · replace c35 := Bool.eq_false_iff.mpr c35
                subst c35
                have H1 : (torchonlaw06_GridsReduced.j0 k true a0_0 a0_1 a0_2 a1_0 a1_1 a1_2 a1_3 t686 t687 t688 t689 t690 t691 t692) = some r := by rw [if_neg (show ¬ (false = true) by decide)] at H; exact H
                clear H
                have H := H1
                clear H1
                have H' := Aside0.mk H
                clear H
                try go_wp2
                replace BK684 := bd BK684
                replace BK685 := bd BK685
                replace BK694 := bd BK694
                replace BK695 := bd BK695
                replace HB := bdn HB
                refine start_ (n := 35) (S := fun w' => w'.cell? ⟨gb694, 0, none⟩ = some (.int .i64 t686) ∧ w'.cell? ⟨gb694, 1, none⟩ = some (.int .i64 t687) ∧ w'.cell? ⟨gb694, 2, none⟩ = some (.int .i64 t688) ∧ w'.cell? ⟨gb695, 0, none⟩ = some (.int .i64 t689) ∧ w'.cell? ⟨gb695, 1, none⟩ = some (.int .i64 t690) ∧ w'.cell? ⟨gb695, 2, none⟩ = some (.int .i64 t691) ∧ w'.cell? ⟨gb695, 3, none⟩ = some (.int .i64 t692)) (ds := []) #[false, false, false, false, false, false, false, false, false, false, false, false, false, false, false, false, false, false, false, false, false, false, false, false, false, false, false, false, false, false, false, false, false, false, false] (by kernel_rfl) rfl rfl ⟨(blk_cell BK694.out 0).trans rfl, (blk_cell BK694.out 1).trans rfl, (blk_cell BK694.out 2).trans rfl, (blk_cell BK695.out 0).trans rfl, (blk_cell BK695.out 1).trans rfl, (blk_cell BK695.out 2).trans rfl, (blk_cell BK695.out 3).trans rfl⟩ (fun hHeld => ?_); refine with_tabW torchonlaw06_GridsReduced.tab4 torchonlaw06_GridsReduced.bits4 (fun HT_ HW_ => ?_)
                generalize w21.drew = w41 at BK684 BK685 BK694 BK695 HB hHeld ⊢
                refine tz 0 27 HT_ HW_ hHeld ?_
                refine one_ (i := 1) (N := some 28) #[true, true, false, false, false, false, false, false, false, false, false, false, false, false, false, false, false, false, false, false, false, false, false, false, false, false, false, false, false, false, false, false, false, false, false] rfl rfl (one_of HT_.out (by kernel_rfl)) (by decide) (fun K hK => ?_)
                refine gs _ Try.func14 (grids_Check.calls k t686 t687 t688 t698 _ A22.out) ?_
                rintro e w42 ⟨rfl, hb⟩
                refine ⟨_, rfl, ?_⟩
                replace BK684 := bb BK684 hb
                replace BK685 := bb BK685 hb
                replace BK694 := bb BK694 hb
                replace BK695 := bb BK695 hb
                replace HB := bst HB hb
                (try clear hb)
                (try clear hb2)
                (try clear hk)
                (try clear hi)
                refine hK.out _ _ ⟨(blk_cell BK694.out 0).trans rfl, (blk_cell BK694.out 1).trans rfl, (blk_cell BK694.out 2).trans rfl, (blk_cell BK695.out 0).trans rfl, (blk_cell BK695.out 1).trans rfl, (blk_cell BK695.out 2).trans rfl, (blk_cell BK695.out 3).trans rfl⟩ (fun hHeld => ?_)
                clear hK K
                refine norm_ (a' := ?_) ?_ ?_
                rotate_left
                · show Act.put _ (some 28) _ = _
                  simp only [Act.put, List.setIfInBounds_toArray, List.set_cons_zero, List.set_cons_succ, i64_w, i32_w]
                  rfl
                refine pz 2 29 HT_ ?_
                refine pz 3 30 HT_ ?_
                refine pz 4 31 HT_ ?_
                refine tz 5 32 HT_ HW_ hHeld ?_
                refine pz 6 33 HT_ ?_
                refine pz 7 34 HT_ ?_
                refine pz 8 35 HT_ ?_
                refine pz 9 36 HT_ ?_
                refine pz 12 39 HT_ ?_
                refine tz 10 37 HT_ HW_ hHeld ?_
                refine pz 11 38 HT_ ?_
                refine tz 13 40 HT_ HW_ hHeld ?_
                refine pz 14 41 HT_ ?_
                refine pz 15 42 HT_ ?_
                refine pz 16 43 HT_ ?_
                refine pz 17 44 HT_ ?_
                refine pz 19 46 HT_ ?_
                refine tz 18 45 HT_ HW_ hHeld ?_
                refine tz 20 47 HT_ HW_ hHeld ?_
                refine pz 21 48 HT_ ?_
                refine pz 22 49 HT_ ?_
                refine pz 23 50 HT_ ?_
                refine tz 24 51 HT_ HW_ hHeld ?_
                refine one_ (i := 25) (N := some 52) #[true, true, true, true, true, true, true, true, true, true, true, true, true, true, true, true, true, true, true, true, true, true, true, true, true, true, false, false, false, false, false, false, false, false, false] rfl rfl (one_of HT_.out (by kernel_rfl)) (by decide) (fun K hK => ?_)
                refine gs _ Try.func15 (torchonref06_Matrix.calls t689 t690 t691 t692 false _ A34.out) ?_
                rintro e w43 ⟨rfl, hb⟩
                refine ⟨_, rfl, ?_⟩
                replace BK684 := bb BK684 hb
                replace BK685 := bb BK685 hb
                replace BK694 := bb BK694 hb
                replace BK695 := bb BK695 hb
                replace HB := bst HB hb
                (try clear hb)
                (try clear hb2)
                (try clear hk)
                (try clear hi)
                refine hK.out _ _ ⟨(blk_cell BK694.out 0).trans rfl, (blk_cell BK694.out 1).trans rfl, (blk_cell BK694.out 2).trans rfl, (blk_cell BK695.out 0).trans rfl, (blk_cell BK695.out 1).trans rfl, (blk_cell BK695.out 2).trans rfl, (blk_cell BK695.out 3).trans rfl⟩ (fun hHeld => ?_)
                clear hK K
                refine norm_ (a' := ?_) ?_ ?_
                rotate_left
                · show Act.put _ (some 52) _ = _
                  simp only [Act.put, List.setIfInBounds_toArray, List.set_cons_zero, List.set_cons_succ, i64_w, i32_w]
                  rfl
                refine pz 26 53 HT_ ?_
                refine pz 27 54 HT_ ?_
                refine pz 28 55 HT_ ?_
                refine pu 29 56 HT_ ?_
                refine pu 30 57 HT_ ?_
                refine pu 31 58 HT_ ?_
                refine pu 32 59 HT_ ?_
                refine pu 33 60 HT_ ?_
                refine pz 34 61 HT_ ?_
                refine done_ (done_of HT_.out (by kernel_rfl)) ?_
                try go_wp2
                go_meet
                case rel => exact ⟨_, (true), (by first | rfl | (simp; done) | (simp [*]; done)), H', ⟨by first | omega | exact Nat.le_refl _⟩, ⟨pk BK684⟩, ⟨pk BK685⟩, ⟨pk BK694⟩, ⟨pk BK695⟩, ⟨bnow HB⟩⟩
      · rw [if_neg c23] at H
        have c23b0 : (t698 == 0) = false := beq_eq_false_iff_ne.mpr c23
        have c23b1 : (t698 != 0) = true := bne_iff_ne.mpr c23
        (first | rw [c23b0] | (simp only [i64_w, i32_w]; rw [c23b0]) | skip)
        have H' := Aside0.mk H
        clear H
        try go_wp2
        replace BK684 := bd BK684
        replace BK685 := bd BK685
        replace BK694 := bd BK694
        replace BK695 := bd BK695
        replace HB := bdn HB
        refine start_ (n := 35) (S := fun w' => w'.cell? ⟨gb694, 0, none⟩ = some (.int .i64 t686) ∧ w'.cell? ⟨gb694, 1, none⟩ = some (.int .i64 t687) ∧ w'.cell? ⟨gb694, 2, none⟩ = some (.int .i64 t688)) (ds := []) #[false, false, false, false, false, false, false, false, false, false, false, false, false, false, false, false, false, false, false, false, false, false, false, false, false, false, false, false, false, false, false, false, false, false, false] (by kernel_rfl) rfl rfl ⟨(blk_cell BK694.out 0).trans rfl, (blk_cell BK694.out 1).trans rfl, (blk_cell BK694.out 2).trans rfl⟩ (fun hHeld => ?_); refine with_tabW torchonlaw06_GridsReduced.tab4 torchonlaw06_GridsReduced.bits4 (fun HT_ HW_ => ?_)
        generalize w21.drew = w44 at BK684 BK685 BK694 BK695 HB hHeld ⊢
        refine tz 0 27 HT_ HW_ hHeld ?_
        refine one_ (i := 1) (N := some 28) #[true, true, false, false, false, false, false, false, false, false, false, false, false, false, false, false, false, false, false, false, false, false, false, false, false, false, false, false, false, false, false, false, false, false, false] rfl rfl (one_of HT_.out (by kernel_rfl)) (by decide) (fun K hK => ?_)
        refine gs _ Try.func14 (grids_Check.calls k t686 t687 t688 t698 _ A22.out) ?_
        rintro e w45 ⟨rfl, hb⟩
        refine ⟨_, rfl, ?_⟩
        replace BK684 := bb BK684 hb
        replace BK685 := bb BK685 hb
        replace BK694 := bb BK694 hb
        replace BK695 := bb BK695 hb
        replace HB := bst HB hb
        (try clear hb)
        (try clear hb2)
        (try clear hk)
        (try clear hi)
        refine hK.out _ _ ⟨(blk_cell BK694.out 0).trans rfl, (blk_cell BK694.out 1).trans rfl, (blk_cell BK694.out 2).trans rfl⟩ (fun hHeld => ?_)
        clear hK K
        refine norm_ (a' := ?_) ?_ ?_
        rotate_left
        · show Act.put _ (some 28) _ = _
          simp only [Act.put, List.setIfInBounds_toArray, List.set_cons_zero, List.set_cons_succ, i64_w, i32_w]
          rfl
        refine pz 2 29 HT_ ?_
        refine pz 3 30 HT_ ?_
        refine pu 4 31 HT_ ?_
        refine pu 5 32 HT_ ?_
        refine pu 6 33 HT_ ?_
        refine pz 7 34 HT_ ?_
        refine pz 8 35 HT_ ?_
        refine pu 9 36 HT_ ?_
        refine pu 10 37 HT_ ?_
        refine pu 11 38 HT_ ?_
        refine pu 12 39 HT_ ?_
        refine pu 13 40 HT_ ?_
        refine pu 14 41 HT_ ?_
        refine pz 15 42 HT_ ?_
        refine pz 16 43 HT_ ?_
        refine pu 17 44 HT_ ?_
        refine pu 18 45 HT_ ?_
        refine pu 19 46 HT_ ?_
        refine pu 20 47 HT_ ?_
        refine pu 21 48 HT_ ?_
        refine pz 22 49 HT_ ?_
        refine pz 23 50 HT_ ?_
        refine pu 24 51 HT_ ?_
        refine pu 25 52 HT_ ?_
        refine pu 26 53 HT_ ?_
        refine pz 27 54 HT_ ?_
        refine pz 28 55 HT_ ?_
        refine pu 29 56 HT_ ?_
        refine pu 30 57 HT_ ?_
        refine pu 31 58 HT_ ?_
        refine pu 32 59 HT_ ?_
        refine pu 33 60 HT_ ?_
        refine pz 34 61 HT_ ?_
        refine done_ (done_of HT_.out (by kernel_rfl)) ?_
        try go_wp2
        go_meet
        case rel => exact ⟨_, (true), (by first | rfl | (simp; done) | (simp [*]; done)), H', ⟨by first | omega | exact Nat.le_refl _⟩, ⟨pk BK684⟩, ⟨pk BK685⟩, ⟨pk BK694⟩, ⟨pk BK695⟩, ⟨bnow HB⟩⟩
    case rest =>
      clear HC5
      try clear c1; try clear c2; try clear p2; try clear c3; try clear c14; try clear c15; try clear c23; try clear c23b0; try clear c23b1; try clear c35
      obtain ⟨kq, x61_4, rfl, HA, HJ4, BK684, BK685, BK694, BK695, HB⟩ := hcut
      cases kq with
      | zero => exact absurd HA.out (by simp [torchonlaw06_GridsReduced.j0])
      | succ kj4 =>
        have H := HA.out
        clear HA
        simp only [torchonlaw06_GridsReduced.j0] at H
        by_cases c46 : x61_4 = true
        · subst c46
          have H1 : (none) = some r := by rw [if_pos rfl] at H; exact H
          clear H
          have H := H1
          clear H1
          exact absurd H (by simp)
        · replace c46 := Bool.eq_false_iff.mpr c46
          subst c46
          have H1 : ((some (wrap64 (t689 * t692))).bind fun z704 => ((some (wrap64 (t690 * t691))).bind fun z705 => ((some (wrap64 (z704 - z705))).bind fun z706 => (if z706 = 1 then (torchonlaw06_GridsReduced.j1 kj4 false a0_0 a0_1 a0_2 a1_0 a1_1 a1_2 a1_3 t686 t687 t688) else (torchonlaw06_GridsReduced.j1 kj4 (z706 != (-1)) a0_0 a0_1 a0_2 a1_0 a1_1 a1_2 a1_3 t686 t687 t688))))) = some r := by rw [if_neg (show ¬ (false = true) by decide)] at H; exact H
          clear H
          have H := H1
          clear H1
          replace H := Option.bind_eq_some_iff.mp H
          obtain ⟨z704, E470, H⟩ := H
          replace H : ((some (wrap64 (t690 * t691))).bind fun z705 => ((some (wrap64 (z704 - z705))).bind fun z706 => (if z706 = 1 then (torchonlaw06_GridsReduced.j1 kj4 false a0_0 a0_1 a0_2 a1_0 a1_1 a1_2 a1_3 t686 t687 t688) else (torchonlaw06_GridsReduced.j1 kj4 (z706 != (-1)) a0_0 a0_1 a0_2 a1_0 a1_1 a1_2 a1_3 t686 t687 t688)))) = some r := H
          replace E470 := Option.some.inj E470
          have E47w : (IntKind.i64.wrap (t689 * t692)) = z704 := (i64_w _).trans E470
          replace H := Option.bind_eq_some_iff.mp H
          obtain ⟨z705, E480, H⟩ := H
          replace H : ((some (wrap64 (z704 - z705))).bind fun z706 => (if z706 = 1 then (torchonlaw06_GridsReduced.j1 kj4 false a0_0 a0_1 a0_2 a1_0 a1_1 a1_2 a1_3 t686 t687 t688) else (torchonlaw06_GridsReduced.j1 kj4 (z706 != (-1)) a0_0 a0_1 a0_2 a1_0 a1_1 a1_2 a1_3 t686 t687 t688))) = some r := H
          replace E480 := Option.some.inj E480
          have E48w : (IntKind.i64.wrap (t690 * t691)) = z705 := (i64_w _).trans E480
          replace H := Option.bind_eq_some_iff.mp H
          obtain ⟨z706, E490, H⟩ := H
          replace H : (if z706 = 1 then (torchonlaw06_GridsReduced.j1 kj4 false a0_0 a0_1 a0_2 a1_0 a1_1 a1_2 a1_3 t686 t687 t688) else (torchonlaw06_GridsReduced.j1 kj4 (z706 != (-1)) a0_0 a0_1 a0_2 a1_0 a1_1 a1_2 a1_3 t686 t687 t688)) = some r := H
          replace E490 := Option.some.inj E490
          have E49w : (IntKind.i64.wrap (z704 - z705)) = z706 := (i64_w _).trans E490
          have HC50 := Aside0.mk H
          clear H
          have hnb51 := NB695_684.out
          have hnc51 := NB684_695.out
          have hnb52 := NB695_685.out
          have hnc52 := NB685_695.out
          have hnb53 := NB695_694.out
          have hnc53 := NB694_695.out
          have ⟨hcz54_0, hcz54_1, hcz54_2, hcz54_3, hfz54_0, hfz54_1, hfz54_2, hfz54_3⟩ := cf4 BK695
          go_upto_region 7 with (fail)
          go_cut [78] (fun v78 wc => ∃ (kq : Nat) (x78_49 : Bool), v78 = .bool x78_49 ∧ Aside0 (torchonlaw06_GridsReduced.j1 kq x78_49 a0_0 a0_1 a0_2 a1_0 a1_1 a1_2 a1_3 t686 t687 t688 = some r) ∧ Aside0 (kq ≤ kj4) ∧ Aside0 (wc.heap[gb684]? = some (.cells #[.int .i64 a0_0, .int .i64 a0_1, .int .i64 a0_2] 23 (0, 0))) ∧ Aside0 (wc.heap[gb685]? = some (.cells #[.int .i64 a1_0, .int .i64 a1_1, .int .i64 a1_2, .int .i64 a1_3] 25 (0, 0))) ∧ Aside0 (wc.heap[gb694]? = some (.cells #[.int .i64 t686, .int .i64 t687, .int .i64 t688] 23 (0, 0))) ∧ Aside0 (wc.heap[gb695]? = some (.cells #[.int .i64 t689, .int .i64 t690, .int .i64 t691, .int .i64 t692] 25 (0, 0))) ∧ Aside0 (Below w.heap.size w wc))
          case first =>
            have H := HC50.out
            clear HC50
            by_cases c55 : z706 = 1
            · rw [if_pos c55] at H
              have c55b0 : (z706 == 1) = true := beq_iff_eq.mpr c55
              have c55b1 : (z706 != 1) = false := bne_eq_false_iff_eq.mpr c55
              clear c55
              (first | rw [c55b0] | (simp only [i64_w, i32_w]; rw [c55b0]) | skip)
              have H' := Aside0.mk H
              clear H
              go_wp2
              go_meet
              case rel => exact ⟨_, (false), (by first | rfl | (simp; done) | (simp [*]; done)), H', ⟨by have := HJ4.out; first | omega | exact Nat.le_refl _⟩, ⟨pk BK684⟩, ⟨pk BK685⟩, ⟨pk BK694⟩, ⟨pk BK695⟩, ⟨bnow HB⟩⟩
            · rw [if_neg c55] at H
              have c55b0 : (z706 == 1) = false := beq_eq_false_iff_ne.mpr c55
              have c55b1 : (z706 != 1) = true := bne_iff_ne.mpr c55
              (first | rw [c55b0] | (simp only [i64_w, i32_w]; rw [c55b0]) | skip)
              have H' := Aside0.mk H
              clear H
              go_wp2
              go_meet
              case rel => exact ⟨_, ((z706 != (-1))), (by first | rfl | (simp; done) | (simp [*]; done)), H', ⟨by have := HJ4.out; first | omega | exact Nat.le_refl _⟩, ⟨pk BK684⟩, ⟨pk BK685⟩, ⟨pk BK694⟩, ⟨pk BK695⟩, ⟨bnow HB⟩⟩
          case rest =>
            clear HC50
            try clear c1; try clear c2; try clear p2; try clear c3; try clear c4; try clear c5; try clear p6; try clear c14; try clear c15; try clear c23; try clear c23b0; try clear c23b1; try clear c35; try clear c46; try clear c51; try clear c52; try clear c53; try clear c55; try clear c55b0; try clear c55b1; try clear hcz54_0; try clear hcz54_1; try clear hcz54_2; try clear hcz54_3; try clear hfz54_0; try clear hfz54_1; try clear hfz54_2; try clear hfz54_3; try clear p2
            obtain ⟨kq, x78_49, rfl, HA, HJ49, BK684, BK685, BK694, BK695, HB⟩ := hcut
            cases kq with
            | zero => exact absurd HA.out (by simp [torchonlaw06_GridsReduced.j1])
            | succ kj49 =>
              have H := HA.out
              clear HA
              simp only [torchonlaw06_GridsReduced.j1] at H
              by_cases c56 : x78_49 = true
              · subst c56
                have H1 : (none) = some r := by rw [if_pos rfl] at H; exact H
                clear H
                have H := H1
                clear H1
                exact absurd H (by simp)
              · replace c56 := Bool.eq_false_iff.mpr c56
                subst c56
                have H1 : ((some (Int.tmod a1_0 4)).bind fun z707 => ((some (Int.tmod a1_1 4)).bind fun z708 => ((some (Int.tmod a1_2 4)).bind fun z709 => ((some (Int.tmod a1_3 4)).bind fun z710 => ((torchonlaw06_mat.f z707 z708 z709 z710).bind fun bt711 => ((some (wrap64 (bt711.1 * bt711.2.2.2))).bind fun z715 => ((some (wrap64 (bt711.2.1 * bt711.2.2.1))).bind fun z716 => ((some (wrap64 (z715 - z716))).bind fun z717 => ((torchonlaw06_lead.f a0_0 a0_1 a0_2 bt711.1 bt711.2.1 bt711.2.2.1 bt711.2.2.2).bind fun bt718 => (if z717 = 1 then ((grids_Check.f kj49 bt718.1 bt718.2.1 bt718.2.2).bind fun t722 => (torchonlaw06_GridsReduced.j2 kj49 (t722 != 0) t686 t687 t688 bt718.1 bt718.2.1 bt718.2.2)) else (if z717 = (-1) then ((grids_Check.f kj49 bt718.1 bt718.2.1 bt718.2.2).bind fun t723 => (torchonlaw06_GridsReduced.j2 kj49 (t723 != 0) t686 t687 t688 bt718.1 bt718.2.1 bt718.2.2)) else (torchonlaw06_GridsReduced.j2 kj49 true t686 t687 t688 bt718.1 bt718.2.1 bt718.2.2)))))))))))) = some r := by rw [if_neg (show ¬ (false = true) by decide)] at H; exact H
                clear H
                have H := H1
                clear H1
                replace H := Option.bind_eq_some_iff.mp H
                obtain ⟨z707, E570, H⟩ := H
                replace H : ((some (Int.tmod a1_1 4)).bind fun z708 => ((some (Int.tmod a1_2 4)).bind fun z709 => ((some (Int.tmod a1_3 4)).bind fun z710 => ((torchonlaw06_mat.f z707 z708 z709 z710).bind fun bt711 => ((some (wrap64 (bt711.1 * bt711.2.2.2))).bind fun z715 => ((some (wrap64 (bt711.2.1 * bt711.2.2.1))).bind fun z716 => ((some (wrap64 (z715 - z716))).bind fun z717 => ((torchonlaw06_lead.f a0_0 a0_1 a0_2 bt711.1 bt711.2.1 bt711.2.2.1 bt711.2.2.2).bind fun bt718 => (if z717 = 1 then ((grids_Check.f kj49 bt718.1 bt718.2.1 bt718.2.2).bind fun t722 => (torchonlaw06_GridsReduced.j2 kj49 (t722 != 0) t686 t687 t688 bt718.1 bt718.2.1 bt718.2.2)) else (if z717 = (-1) then ((grids_Check.f kj49 bt718.1 bt718.2.1 bt718.2.2).bind fun t723 => (torchonlaw06_GridsReduced.j2 kj49 (t723 != 0) t686 t687 t688 bt718.1 bt718.2.1 bt718.2.2)) else (torchonlaw06_GridsReduced.j2 kj49 true t686 t687 t688 bt718.1 bt718.2.1 bt718.2.2))))))))))) = some r := H
                replace E570 := Option.some.inj E570
                replace H := Option.bind_eq_some_iff.mp H
                obtain ⟨z708, E580, H⟩ := H
                replace H : ((some (Int.tmod a1_2 4)).bind fun z709 => ((some (Int.tmod a1_3 4)).bind fun z710 => ((torchonlaw06_mat.f z707 z708 z709 z710).bind fun bt711 => ((some (wrap64 (bt711.1 * bt711.2.2.2))).bind fun z715 => ((some (wrap64 (bt711.2.1 * bt711.2.2.1))).bind fun z716 => ((some (wrap64 (z715 - z716))).bind fun z717 => ((torchonlaw06_lead.f a0_0 a0_1 a0_2 bt711.1 bt711.2.1 bt711.2.2.1 bt711.2.2.2).bind fun bt718 => (if z717 = 1 then ((grids_Check.f kj49 bt718.1 bt718.2.1 bt718.2.2).bind fun t722 => (torchonlaw06_GridsReduced.j2 kj49 (t722 != 0) t686 t687 t688 bt718.1 bt718.2.1 bt718.2.2)) else (if z717 = (-1) then ((grids_Check.f kj49 bt718.1 bt718.2.1 bt718.2.2).bind fun t723 => (torchonlaw06_GridsReduced.j2 kj49 (t723 != 0) t686 t687 t688 bt718.1 bt718.2.1 bt718.2.2)) else (torchonlaw06_GridsReduced.j2 kj49 true t686 t687 t688 bt718.1 bt718.2.1 bt718.2.2)))))))))) = some r := H
                replace E580 := Option.some.inj E580
                replace H := Option.bind_eq_some_iff.mp H
                obtain ⟨z709, E590, H⟩ := H
                replace H : ((some (Int.tmod a1_3 4)).bind fun z710 => ((torchonlaw06_mat.f z707 z708 z709 z710).bind fun bt711 => ((some (wrap64 (bt711.1 * bt711.2.2.2))).bind fun z715 => ((some (wrap64 (bt711.2.1 * bt711.2.2.1))).bind fun z716 => ((some (wrap64 (z715 - z716))).bind fun z717 => ((torchonlaw06_lead.f a0_0 a0_1 a0_2 bt711.1 bt711.2.1 bt711.2.2.1 bt711.2.2.2).bind fun bt718 => (if z717 = 1 then ((grids_Check.f kj49 bt718.1 bt718.2.1 bt718.2.2).bind fun t722 => (torchonlaw06_GridsReduced.j2 kj49 (t722 != 0) t686 t687 t688 bt718.1 bt718.2.1 bt718.2.2)) else (if z717 = (-1) then ((grids_Check.f kj49 bt718.1 bt718.2.1 bt718.2.2).bind fun t723 => (torchonlaw06_GridsReduced.j2 kj49 (t723 != 0) t686 t687 t688 bt718.1 bt718.2.1 bt718.2.2)) else (torchonlaw06_GridsReduced.j2 kj49 true t686 t687 t688 bt718.1 bt718.2.1 bt718.2.2))))))))) = some r := H
                replace E590 := Option.some.inj E590
                replace H := Option.bind_eq_some_iff.mp H
                obtain ⟨z710, E600, H⟩ := H
                replace H : ((torchonlaw06_mat.f z707 z708 z709 z710).bind fun bt711 => ((some (wrap64 (bt711.1 * bt711.2.2.2))).bind fun z715 => ((some (wrap64 (bt711.2.1 * bt711.2.2.1))).bind fun z716 => ((some (wrap64 (z715 - z716))).bind fun z717 => ((torchonlaw06_lead.f a0_0 a0_1 a0_2 bt711.1 bt711.2.1 bt711.2.2.1 bt711.2.2.2).bind fun bt718 => (if z717 = 1 then ((grids_Check.f kj49 bt718.1 bt718.2.1 bt718.2.2).bind fun t722 => (torchonlaw06_GridsReduced.j2 kj49 (t722 != 0) t686 t687 t688 bt718.1 bt718.2.1 bt718.2.2)) else (if z717 = (-1) then ((grids_Check.f kj49 bt718.1 bt718.2.1 bt718.2.2).bind fun t723 => (torchonlaw06_GridsReduced.j2 kj49 (t723 != 0) t686 t687 t688 bt718.1 bt718.2.1 bt718.2.2)) else (torchonlaw06_GridsReduced.j2 kj49 true t686 t687 t688 bt718.1 bt718.2.1 bt718.2.2)))))))) = some r := H
                replace E600 := Option.some.inj E600
                replace H := Option.bind_eq_some_iff.mp H
                obtain ⟨⟨t711, t712, t713, t714⟩, A610, H⟩ := H
                replace H : ((some (wrap64 (t711 * t714))).bind fun z715 => ((some (wrap64 (t712 * t713))).bind fun z716 => ((some (wrap64 (z715 - z716))).bind fun z717 => ((torchonlaw06_lead.f a0_0 a0_1 a0_2 t711 t712 t713 t714).bind fun bt718 => (if z717 = 1 then ((grids_Check.f kj49 bt718.1 bt718.2.1 bt718.2.2).bind fun t722 => (torchonlaw06_GridsReduced.j2 kj49 (t722 != 0) t686 t687 t688 bt718.1 bt718.2.1 bt718.2.2)) else (if z717 = (-1) then ((grids_Check.f kj49 bt718.1 bt718.2.1 bt718.2.2).bind fun t723 => (torchonlaw06_GridsReduced.j2 kj49 (t723 != 0) t686 t687 t688 bt718.1 bt718.2.1 bt718.2.2)) else (torchonlaw06_GridsReduced.j2 kj49 true t686 t687 t688 bt718.1 bt718.2.1 bt718.2.2))))))) = some r := H
                have A61 := Aside0.mk A610
                clear A610
                replace H := Option.bind_eq_some_iff.mp H
                obtain ⟨z715, E620, H⟩ := H
                replace H : ((some (wrap64 (t712 * t713))).bind fun z716 => ((some (wrap64 (z715 - z716))).bind fun z717 => ((torchonlaw06_lead.f a0_0 a0_1 a0_2 t711 t712 t713 t714).bind fun bt718 => (if z717 = 1 then ((grids_Check.f kj49 bt718.1 bt718.2.1 bt718.2.2).bind fun t722 => (torchonlaw06_GridsReduced.j2 kj49 (t722 != 0) t686 t687 t688 bt718.1 bt718.2.1 bt718.2.2)) else (if z717 = (-1) then ((grids_Check.f kj49 bt718.1 bt718.2.1 bt718.2.2).bind fun t723 => (torchonlaw06_GridsReduced.j2 kj49 (t723 != 0) t686 t687 t688 bt718.1 bt718.2.1 bt718.2.2)) else (torchonlaw06_GridsReduced.j2 kj49 true t686 t687 t688 bt718.1 bt718.2.1 bt718.2.2)))))) = some r := H
                replace E620 := Option.some.inj E620
                have E62w : (IntKind.i64.wrap (t711 * t714)) = z715 := (i64_w _).trans E620
                replace H := Option.bind_eq_some_iff.mp H
                obtain ⟨z716, E630, H⟩ := H
                replace H : ((some (wrap64 (z715 - z716))).bind fun z717 => ((torchonlaw06_lead.f a0_0 a0_1 a0_2 t711 t712 t713 t714).bind fun bt718 => (if z717 = 1 then ((grids_Check.f kj49 bt718.1 bt718.2.1 bt718.2.2).bind fun t722 => (torchonlaw06_GridsReduced.j2 kj49 (t722 != 0) t686 t687 t688 bt718.1 bt718.2.1 bt718.2.2)) else (if z717 = (-1) then ((grids_Check.f kj49 bt718.1 bt718.2.1 bt718.2.2).bind fun t723 => (torchonlaw06_GridsReduced.j2 kj49 (t723 != 0) t686 t687 t688 bt718.1 bt718.2.1 bt718.2.2)) else (torchonlaw06_GridsReduced.j2 kj49 true t686 t687 t688 bt718.1 bt718.2.1 bt718.2.2))))) = some r := H
                replace E630 := Option.some.inj E630
                have E63w : (IntKind.i64.wrap (t712 * t713)) = z716 := (i64_w _).trans E630
                replace H := Option.bind_eq_some_iff.mp H
                obtain ⟨z717, E640, H⟩ := H
                replace H : ((torchonlaw06_lead.f a0_0 a0_1 a0_2 t711 t712 t713 t714).bind fun bt718 => (if z717 = 1 then ((grids_Check.f kj49 bt718.1 bt718.2.1 bt718.2.2).bind fun t722 => (torchonlaw06_GridsReduced.j2 kj49 (t722 != 0) t686 t687 t688 bt718.1 bt718.2.1 bt718.2.2)) else (if z717 = (-1) then ((grids_Check.f kj49 bt718.1 bt718.2.1 bt718.2.2).bind fun t723 => (torchonlaw06_GridsReduced.j2 kj49 (t723 != 0) t686 t687 t688 bt718.1 bt718.2.1 bt718.2.2)) else (torchonlaw06_GridsReduced.j2 kj49 true t686 t687 t688 bt718.1 bt718.2.1 bt718.2.2)))) = some r := H
                replace E640 := Option.some.inj E640
                have E64w : (IntKind.i64.wrap (z715 - z716)) = z717 := (i64_w _).trans E640
                replace H := Option.bind_eq_some_iff.mp H
                obtain ⟨⟨t718, t719, t720⟩, A650, H⟩ := H
                replace H : (if z717 = 1 then ((grids_Check.f kj49 t718 t719 t720).bind fun t722 => (torchonlaw06_GridsReduced.j2 kj49 (t722 != 0) t686 t687 t688 t718 t719 t720)) else (if z717 = (-1) then ((grids_Check.f kj49 t718 t719 t720).bind fun t723 => (torchonlaw06_GridsReduced.j2 kj49 (t723 != 0) t686 t687 t688 t718 t719 t720)) else (torchonlaw06_GridsReduced.j2 kj49 true t686 t687 t688 t718 t719 t720))) = some r := H
                have A65 := Aside0.mk A650
                clear A650
                have HC66 := Aside0.mk H
                clear H
                have hnb67 := NB685_684.out
                have hnc67 := NB684_685.out
                have hnb68 := NB685_694.out
                have hnc68 := NB694_685.out
                have hnb69 := NB685_695.out
                have hnc69 := NB695_685.out
                have ⟨hcz70_0, hcz70_1, hcz70_2, hcz70_3, hfz70_0, hfz70_1, hfz70_2, hfz70_3⟩ := cf4 BK685
                go_upto_region 12 with (first | ((with_reducible refine gate_callee (f := 17) rfl ?_); refine gl 91 Try.func17 (torchonlaw06_mat.calls z707 z708 z709 z710 t711 t712 t713 t714 _ A61.out) ?_; rintro e w71 ⟨rfl, hb⟩; refine ⟨_, rfl, ?_⟩; replace BK684 := bb BK684 hb; replace BK685 := bb BK685 hb; replace BK694 := bb BK694 hb; replace BK695 := bb BK695 hb; replace HB := bst HB hb; clear hb; have ⟨hcz72_0, hcz72_1, hcz72_2, hcz72_3, hfz72_0, hfz72_1, hfz72_2, hfz72_3⟩ := cf4 BK685) | ((with_reducible refine gate_store (t := 25) (p := 3) rfl ?_); refine sx 25 3 (((((w71.setCell ⟨gb685, 0, none⟩ (.int .i64 t711)).setCell ⟨gb685, 1, none⟩ (.int .i64 t712)).setCell ⟨gb685, 2, none⟩ (.int .i64 t713)).setCell ⟨gb685, 3, none⟩ (.int .i64 t714))) fun w73 hw => ?_; replace BK684 := fw hw BK684; replace BK685 := pw4 hw BK685; replace BK694 := fw hw BK694; replace BK695 := fw hw BK695; replace HB := bw hw HB; clear hw; have ⟨hcz74_0, hcz74_1, hcz74_2, hcz74_3, hfz74_0, hfz74_1, hfz74_2, hfz74_3⟩ := cf4 BK685; have hnb75 := NB684_694.out; have hnc75 := NB694_684.out; have hnb76 := NB684_695.out; have hnc76 := NB695_684.out; have ⟨hcz77_0, hcz77_1, hcz77_2, hfz77_0, hfz77_1, hfz77_2⟩ := cf3 BK684) | ((with_reducible refine gate_callee (f := 16) rfl ?_); refine gl 105 Try.func16 (torchonlaw06_lead.calls a0_0 a0_1 a0_2 t711 t712 t713 t714 t718 t719 t720 _ A65.out) ?_; rintro e w78 ⟨rfl, hb⟩; refine ⟨_, rfl, ?_⟩; replace BK684 := bb BK684 hb; replace BK685 := bb BK685 hb; replace BK694 := bb BK694 hb; replace BK695 := bb BK695 hb; replace HB := bst HB hb; clear hb) | ((with_reducible refine gate_dst (N := 9) rfl ?_); refine bx 9 #[.int .i64 0, .int .i64 0, .int .i64 0] 23 fun gb721 hg w79 BK721 hb => ?_; have GW721 := gw hg HB; have GE721 := gw hg HB; have NB684_721 := nlt hg BK684; have NB721_684 := ngt hg BK684; have NB685_721 := nlt hg BK685; have NB721_685 := ngt hg BK685; have NB694_721 := nlt hg BK694; have NB721_694 := ngt hg BK694; have NB695_721 := nlt hg BK695; have NB721_695 := ngt hg BK695; replace BK684 := bb BK684 hb; replace BK685 := bb BK685 hb; replace BK694 := bb BK694 hb; replace BK695 := bb BK695 hb; replace HB := bst HB hb; clear hb hg; have hnb80 := NB721_684.out; have hnc80 := NB684_721.out; have hnb81 := NB721_685.out; have hnc81 := NB685_721.out; have hnb82 := NB721_694.out; have hnc82 := NB694_721.out; have hnb83 := NB721_695.out; have hnc83 := NB695_721.out; have ⟨hcz84_0, hcz84_1, hcz84_2, hfz84_0, hfz84_1, hfz84_2⟩ := cf3 BK721) | ((with_reducible refine gate_store (t := 23) (p := 9) rfl ?_); refine sx 23 9 ((((w79.setCell ⟨gb721, 0, none⟩ (.int .i64 t718)).setCell ⟨gb721, 1, none⟩ (.int .i64 t719)).setCell ⟨gb721, 2, none⟩ (.int .i64 t720))) fun w85 hw => ?_; replace BK684 := fw hw BK684; replace BK685 := fw hw BK685; replace BK694 := fw hw BK694; replace BK695 := fw hw BK695; replace BK721 := pw3 hw BK721; replace HB := bw hw HB; clear hw))
                (try simp only [Act.put, List.setIfInBounds_toArray, List.set_cons_zero, List.set_cons_succ])
                go_cut [116] (fun v116 wc => ∃ (kq : Nat) (x116_65 : Bool), v116 = .bool x116_65 ∧ Aside0 (torchonlaw06_GridsReduced.j2 kq x116_65 t686 t687 t688 t718 t719 t720 = some r) ∧ Aside0 (kq ≤ kj49) ∧ Aside0 (wc.heap[gb684]? = some (.cells #[.int .i64 a0_0, .int .i64 a0_1, .int .i64 a0_2] 23 (0, 0))) ∧ Aside0 (wc.heap[gb685]? = some (.cells #[.int .i64 t711, .int .i64 t712, .int .i64 t713, .int .i64 t714] 25 (0, 0))) ∧ Aside0 (wc.heap[gb694]? = some (.cells #[.int .i64 t686, .int .i64 t687, .int .i64 t688] 23 (0, 0))) ∧ Aside0 (wc.heap[gb695]? = some (.cells #[.int .i64 t689, .int .i64 t690, .int .i64 t691, .int .i64 t692] 25 (0, 0))) ∧ Aside0 (wc.heap[gb721]? = some (.cells #[.int .i64 t718, .int .i64 t719, .int .i64 t720] 23 (0, 0))) ∧ Aside0 (Below w.heap.size w wc))
                case first =>
                  have H := HC66.out
                  clear HC66
                  by_cases c86 : z717 = 1
                  · rw [if_pos c86] at H
                    have c86b0 : (z717 == 1) = true := beq_iff_eq.mpr c86
                    have c86b1 : (z717 != 1) = false := bne_eq_false_iff_eq.mpr c86
                    clear c86
                    (first | rw [c86b0] | (simp only [i64_w, i32_w]; rw [c86b0]) | skip)
                    replace H := Option.bind_eq_some_iff.mp H
                    obtain ⟨t722, A870, H⟩ := H
                    replace H : (torchonlaw06_GridsReduced.j2 kj49 (t722 != 0) t686 t687 t688 t718 t719 t720) = some r := H
                    have A87 := Aside0.mk A870
                    clear A870
                    have H' := Aside0.mk H
                    clear H
                    have hnb88 := NB721_684.out
                    have hnc88 := NB684_721.out
                    have hnb89 := NB721_685.out
                    have hnc89 := NB685_721.out
                    have hnb90 := NB721_694.out
                    have hnc90 := NB694_721.out
                    have hnb91 := NB721_695.out
                    have hnc91 := NB695_721.out
                    have ⟨hcz92_0, hcz92_1, hcz92_2, hfz92_0, hfz92_1, hfz92_2⟩ := cf3 BK721
                    go_wp2_with (first | (go_at_call 14; (with_reducible refine (grids_Check.calls kj49 t718 t719 t720 t722 _ A87.out).mono ?_); rintro e w93 ⟨rfl, hb⟩; replace BK684 := bb BK684 hb; replace BK685 := bb BK685 hb; replace BK694 := bb BK694 hb; replace BK695 := bb BK695 hb; replace BK721 := bb BK721 hb; replace HB := bst HB hb; clear hb))
                    go_meet
                    case rel => exact ⟨_, ((t722 != 0)), (by first | rfl | (simp; done) | (simp [*]; done)), H', ⟨by have := HJ4.out; have := HJ49.out; first | omega | exact Nat.le_refl _⟩, ⟨pk BK684⟩, ⟨pk BK685⟩, ⟨pk BK694⟩, ⟨pk BK695⟩, ⟨pk BK721⟩, ⟨bnow HB⟩⟩
                  · rw [if_neg c86] at H
                    have c86b0 : (z717 == 1) = false := beq_eq_false_iff_ne.mpr c86
                    have c86b1 : (z717 != 1) = true := bne_iff_ne.mpr c86
                    (first | rw [c86b0] | (simp only [i64_w, i32_w]; rw [c86b0]) | skip)
                    by_cases c94 : z717 = (-1)
                    · rw [if_pos c94] at H
                      have c94b0 : (z717 == (-1)) = true := beq_iff_eq.mpr c94
                      have c94b1 : (z717 != (-1)) = false := bne_eq_false_iff_eq.mpr c94
                      clear c94
                      replace H := Option.bind_eq_some_iff.mp H
                      obtain ⟨t723, A950, H⟩ := H
                      replace H : (torchonlaw06_GridsReduced.j2 kj49 (t723 != 0) t686 t687 t688 t718 t719 t720) = some r := H
                      have A95 := Aside0.mk A950
                      clear A950
                      have H' := Aside0.mk H
                      clear H
                      have hnb96 := NB721_684.out
                      have hnc96 := NB684_721.out
                      have hnb97 := NB721_685.out
                      have hnc97 := NB685_721.out
                      have hnb98 := NB721_694.out
                      have hnc98 := NB694_721.out
                      have hnb99 := NB721_695.out
                      have hnc99 := NB695_721.out
                      have ⟨hcz100_0, hcz100_1, hcz100_2, hfz100_0, hfz100_1, hfz100_2⟩ := cf3 BK721
                      go_wp2_with (first | (go_at_call 14; (with_reducible refine (grids_Check.calls kj49 t718 t719 t720 t723 _ A95.out).mono ?_); rintro e w101 ⟨rfl, hb⟩; replace BK684 := bb BK684 hb; replace BK685 := bb BK685 hb; replace BK694 := bb BK694 hb; replace BK695 := bb BK695 hb; replace BK721 := bb BK721 hb; replace HB := bst HB hb; clear hb))
                      go_meet
                      case rel => exact ⟨_, ((t723 != 0)), (by first | rfl | (simp; done) | (simp [*]; done)), H', ⟨by have := HJ4.out; have := HJ49.out; first | omega | exact Nat.le_refl _⟩, ⟨pk BK684⟩, ⟨pk BK685⟩, ⟨pk BK694⟩, ⟨pk BK695⟩, ⟨pk BK721⟩, ⟨bnow HB⟩⟩
                    · rw [if_neg c94] at H
                      have c94b0 : (z717 == (-1)) = false := beq_eq_false_iff_ne.mpr c94
                      have c94b1 : (z717 != (-1)) = true := bne_iff_ne.mpr c94
                      have H' := Aside0.mk H
                      clear H
                      go_wp2
                      go_meet
                      case rel => exact ⟨_, (true), (by first | rfl | (simp; done) | (simp [*]; done)), H', ⟨by have := HJ4.out; have := HJ49.out; first | omega | exact Nat.le_refl _⟩, ⟨pk BK684⟩, ⟨pk BK685⟩, ⟨pk BK694⟩, ⟨pk BK695⟩, ⟨pk BK721⟩, ⟨bnow HB⟩⟩
                case rest =>
                  clear HC66
                  try clear c1; try clear c2; try clear p2; try clear c3; try clear c4; try clear c5; try clear c6; try clear p6; try clear c7; try clear c8; try clear c9; try clear c14; try clear c15; try clear c16; try clear c17; try clear c23; try clear c23b0; try clear c23b1; try clear c35; try clear c46; try clear c51; try clear c52; try clear c53; try clear c55; try clear c55b0; try clear c55b1; try clear c56; try clear p64; try clear c67; try clear c68; try clear c69; try clear c75; try clear c76; try clear c80; try clear c81; try clear c82; try clear c83; try clear c86; try clear c86b0; try clear c86b1; try clear c88; try clear c89; try clear c90; try clear c91; try clear c94; try clear c94b0; try clear c94b1; try clear c96; try clear c97; try clear c98; try clear c99; try clear hcz100_0; try clear hcz100_1; try clear hcz100_2; try clear hcz54_0; try clear hcz54_1; try clear hcz54_2; try clear hcz54_3; try clear hcz70_0; try clear hcz70_1; try clear hcz70_2; try clear hcz70_3; try clear hcz72_0; try clear hcz72_1; try clear hcz72_2; try clear hcz72_3; try clear hcz74_0; try clear hcz74_1; try clear hcz74_2; try clear hcz74_3; try clear hcz77_0; try clear hcz77_1; try clear hcz77_2; try clear hcz84_0; try clear hcz84_1; try clear hcz84_2; try clear hcz92_0; try clear hcz92_1; try clear hcz92_2; try clear hfz100_0; try clear hfz100_1; try clear hfz100_2; try clear hfz54_0; try clear hfz54_1; try clear hfz54_2; try clear hfz54_3; try clear hfz70_0; try clear hfz70_1; try clear hfz70_2; try clear hfz70_3; try clear hfz72_0; try clear hfz72_1; try clear hfz72_2; try clear hfz72_3; try clear hfz74_0; try clear hfz74_1; try clear hfz74_2; try clear hfz74_3; try clear hfz77_0; try clear hfz77_1; try clear hfz77_2; try clear hfz84_0; try clear hfz84_1; try clear hfz84_2; try clear hfz92_0; try clear hfz92_1; try clear hfz92_2; try clear p2; try clear p6
                  obtain ⟨kq, x116_65, rfl, HA, HJ65, BK684, BK685, BK694, BK695, BK721, HB⟩ := hcut
                  cases kq with
                  | zero => exact absurd HA.out (by simp [torchonlaw06_GridsReduced.j2])
                  | succ kj65 =>
                    have H := HA.out
                    clear HA
                    simp only [torchonlaw06_GridsReduced.j2] at H
                    by_cases c102 : x116_65 = true
                    · subst c102
                      have H1 : ((torchonlaw06_awake.f kj65).bind fun t724 => (some t724)) = some r := by rw [if_pos rfl] at H; exact H
                      clear H
                      have H := H1
                      clear H1
                      replace H := Option.bind_eq_some_iff.mp H
                      obtain ⟨t724, A1030, H⟩ := H
                      replace H : (some t724) = some r := H
                      have A103 := Aside0.mk A1030
                      clear A1030
                      obtain rfl := Option.some.inj H
                      go_wp2_with (first | ((with_reducible refine gate_callee (f := 13) rfl ?_); refine gl 117 Try.func13 (torchonlaw06_awake.calls kj65  t724 _ A103.out) ?_; rintro e w104 ⟨rfl, hb⟩; refine ⟨_, rfl, ?_⟩; replace BK684 := bb BK684 hb; replace BK685 := bb BK685 hb; replace BK694 := bb BK694 hb; replace BK695 := bb BK695 hb; replace BK721 := bb BK721 hb; replace HB := bst HB hb; clear hb))
                      go_ret
                      exact rt HB
                    · replace c102 := Bool.eq_false_iff.mpr c102
                      subst c102
                      have H1 : ((grids_Reduce.f kj65 t718 t719 t720).bind fun bt725 => (if bt725.2.2.2.2.2.2.2 = 0 then (if (bt725.1 == t686 && (bt725.2.1 == t687 && (bt725.2.2.1 == t688))) = true then ((torchonlaw06_awake.f kj65).bind fun t735 => (some t735)) else (none)) else (none))) = some r := by rw [if_neg (show ¬ (false = true) by decide)] at H; exact H
                      clear H
                      have H := H1
                      clear H1
                      replace H := Option.bind_eq_some_iff.mp H
                      obtain ⟨⟨t725, t726, t727, t728, t729, t730, t731, t732⟩, A1050, H⟩ := H
                      replace H : (if t732 = 0 then (if (t725 == t686 && (t726 == t687 && (t727 == t688))) = true then ((torchonlaw06_awake.f kj65).bind fun t735 => (some t735)) else (none)) else (none)) = some r := H
                      have A105 := Aside0.mk A1050
                      clear A1050
                      by_cases c106 : t732 = 0
                      · rw [if_pos c106] at H
                        have c106b0 : (t732 == 0) = true := beq_iff_eq.mpr c106
                        have c106b1 : (t732 != 0) = false := bne_eq_false_iff_eq.mpr c106
                        clear c106
                        by_cases c107 : (t725 == t686 && (t726 == t687 && (t727 == t688))) = true
                        · rw [if_pos c107] at H
                          have c107b0 : (t725 == t686 && (t726 == t687 && (t727 == t688))) = true := c107
                          (try (have c107b1 : decide (t725 = t686 && (t726 == t687 && (t727 == t688))) = true := by simpa using c107))
                          (try (have c107b2 : (t725 == t686 && (t726 == t687 && (t727 == t688))) = true := by simpa using c107))
                          clear c107
                          replace H := Option.bind_eq_some_iff.mp H
                          obtain ⟨t735, A1080, H⟩ := H
                          replace H : (some t735) = some r := H
                          have A108 := Aside0.mk A1080
                          clear A1080
                          obtain rfl := Option.some.inj H
                          have hnb109 := NB721_684.out
                          have hnc109 := NB684_721.out
                          have hnb110 := NB721_685.out
                          have hnc110 := NB685_721.out
                          have hnb111 := NB721_694.out
                          have hnc111 := NB694_721.out
                          have hnb112 := NB721_695.out
                          have hnc112 := NB695_721.out
                          have ⟨hcz113_0, hcz113_1, hcz113_2, hfz113_0, hfz113_1, hfz113_2⟩ := cf3 BK721
                          go_wp2_with (first | ((with_reducible refine gate_callee (f := 11) rfl ?_); refine gl 120 Try.func11 (grids_Reduce.calls kj65 t718 t719 t720 t725 t726 t727 t728 t729 t730 t731 t732 _ A105.out) ?_; rintro e w114 ⟨rfl, hb⟩; refine ⟨_, rfl, ?_⟩; replace BK684 := bb BK684 hb; replace BK685 := bb BK685 hb; replace BK694 := bb BK694 hb; replace BK695 := bb BK695 hb; replace BK721 := bb BK721 hb; replace HB := bst HB hb; clear hb) | ((with_reducible refine gate_dst (N := 10) rfl ?_); refine bx 10 #[.int .i64 0, .int .i64 0, .int .i64 0] 23 fun gb733 hg w115 BK733 hb => ?_; have GW733 := gw hg HB; have GE733 := gw hg HB; have NB684_733 := nlt hg BK684; have NB733_684 := ngt hg BK684; have NB685_733 := nlt hg BK685; have NB733_685 := ngt hg BK685; have NB694_733 := nlt hg BK694; have NB733_694 := ngt hg BK694; have NB695_733 := nlt hg BK695; have NB733_695 := ngt hg BK695; have NB721_733 := nlt hg BK721; have NB733_721 := ngt hg BK721; replace BK684 := bb BK684 hb; replace BK685 := bb BK685 hb; replace BK694 := bb BK694 hb; replace BK695 := bb BK695 hb; replace BK721 := bb BK721 hb; replace HB := bst HB hb; clear hb hg) | ((with_reducible refine gate_dst (N := 11) rfl ?_); refine bx 11 #[.int .i64 0, .int .i64 0, .int .i64 0, .int .i64 0] 25 fun gb734 hg w116 BK734 hb => ?_; have GW734 := gw hg HB; have GE734 := gw hg HB; have NB684_734 := nlt hg BK684; have NB734_684 := ngt hg BK684; have NB685_734 := nlt hg BK685; have NB734_685 := ngt hg BK685; have NB694_734 := nlt hg BK694; have NB734_694 := ngt hg BK694; have NB695_734 := nlt hg BK695; have NB734_695 := ngt hg BK695; have NB721_734 := nlt hg BK721; have NB734_721 := ngt hg BK721; have NB733_734 := nlt hg BK733; have NB734_733 := ngt hg BK733; replace BK684 := bb BK684 hb; replace BK685 := bb BK685 hb; replace BK694 := bb BK694 hb; replace BK695 := bb BK695 hb; replace BK721 := bb BK721 hb; replace BK733 := bb BK733 hb; replace HB := bst HB hb; clear hb hg; have hnb117 := NB733_684.out; have hnc117 := NB684_733.out; have hnb118 := NB733_685.out; have hnc118 := NB685_733.out; have hnb119 := NB733_694.out; have hnc119 := NB694_733.out; have hnb120 := NB733_695.out; have hnc120 := NB695_733.out; have hnb121 := NB733_721.out; have hnc121 := NB721_733.out; have hnb122 := NB733_734.out; have hnc122 := NB734_733.out; have ⟨hcz123_0, hcz123_1, hcz123_2, hfz123_0, hfz123_1, hfz123_2⟩ := cf3 BK733) | ((with_reducible refine gate_store (t := 23) (p := 10) rfl ?_); refine sx 23 10 ((((w116.setCell ⟨gb733, 0, none⟩ (.int .i64 t725)).setCell ⟨gb733, 1, none⟩ (.int .i64 t726)).setCell ⟨gb733, 2, none⟩ (.int .i64 t727))) fun w124 hw => ?_; replace BK684 := fw hw BK684; replace BK685 := fw hw BK685; replace BK694 := fw hw BK694; replace BK695 := fw hw BK695; replace BK721 := fw hw BK721; replace BK733 := pw3 hw BK733; replace BK734 := fw hw BK734; replace HB := bw hw HB; clear hw; have hnb125 := NB734_684.out; have hnc125 := NB684_734.out; have hnb126 := NB734_685.out; have hnc126 := NB685_734.out; have hnb127 := NB734_694.out; have hnc127 := NB694_734.out; have hnb128 := NB734_695.out; have hnc128 := NB695_734.out; have hnb129 := NB734_721.out; have hnc129 := NB721_734.out; have ⟨hcz130_0, hcz130_1, hcz130_2, hcz130_3, hfz130_0, hfz130_1, hfz130_2, hfz130_3⟩ := cf4 BK734) | ((with_reducible refine gate_store (t := 25) (p := 11) rfl ?_); refine sx 25 11 (((((w124.setCell ⟨gb734, 0, none⟩ (.int .i64 t728)).setCell ⟨gb734, 1, none⟩ (.int .i64 t729)).setCell ⟨gb734, 2, none⟩ (.int .i64 t730)).setCell ⟨gb734, 3, none⟩ (.int .i64 t731))) fun w131 hw => ?_; replace BK684 := fw hw BK684; replace BK685 := fw hw BK685; replace BK694 := fw hw BK694; replace BK695 := fw hw BK695; replace BK721 := fw hw BK721; replace BK733 := fw hw BK733; replace BK734 := pw4 hw BK734; replace HB := bw hw HB; clear hw; have ⟨hcz132_0, hcz132_1, hcz132_2, hfz132_0, hfz132_1, hfz132_2⟩ := cf3 BK733; have hnb133 := NB694_684.out; have hnc133 := NB684_694.out; have hnb134 := NB694_685.out; have hnc134 := NB685_694.out; have hnb135 := NB694_695.out; have hnc135 := NB695_694.out; have ⟨hcz136_0, hcz136_1, hcz136_2, hfz136_0, hfz136_1, hfz136_2⟩ := cf3 BK694) | (go_at_call 13; (with_reducible refine (torchonlaw06_awake.calls kj65  t735 _ A108.out).mono ?_); rintro e w137 ⟨rfl, hb⟩; replace BK684 := bb BK684 hb; replace BK685 := bb BK685 hb; replace BK694 := bb BK694 hb; replace BK695 := bb BK695 hb; replace BK721 := bb BK721 hb; replace BK733 := bb BK733 hb; replace BK734 := bb BK734 hb; replace HB := bst HB hb; clear hb))
                          go_ret
                          exact rt HB
                        · rw [if_neg c107] at H
                          exact absurd H (by simp)
                      · rw [if_neg c106] at H
                        exact absurd H (by simp)
  · rw [if_neg c4] at H
    have c4b0 : (t693 == 0) = false := beq_eq_false_iff_ne.mpr c4
    have c4b1 : (t693 != 0) = true := bne_iff_ne.mpr c4
    replace H := Option.bind_eq_some_iff.mp H
    obtain ⟨t696, A1380, H⟩ := H
    replace H : (if t696 = 2 then ((torchonlaw06_awake.f k).bind fun t697 => (some t697)) else (none)) = some r := H
    have A138 := Aside0.mk A1380
    clear A1380
    by_cases c139 : t696 = 2
    · rw [if_pos c139] at H
      have c139b0 : (t696 == 2) = true := beq_iff_eq.mpr c139
      have c139b1 : (t696 != 2) = false := bne_eq_false_iff_eq.mpr c139
      clear c139
      replace H := Option.bind_eq_some_iff.mp H
      obtain ⟨t697, A1400, H⟩ := H
      replace H : (some t697) = some r := H
      have A140 := Aside0.mk A1400
      clear A1400
      obtain rfl := Option.some.inj H
      go_enter Try.func4, Try.ntmps4
      go_wp2_with (first | ((with_reducible refine gate_dst (N := 2) rfl ?_); refine bx 2 #[.int .i64 a0_0, .int .i64 a0_1, .int .i64 a0_2] 23 fun gb684 hg w141 BK684 hb => ?_; have GW684 := gw hg HB; have GE684 := gw hg HB; replace HB := bst HB hb; clear hb hg) | ((with_reducible refine gate_dst (N := 3) rfl ?_); refine bx 3 #[.int .i64 a1_0, .int .i64 a1_1, .int .i64 a1_2, .int .i64 a1_3] 25 fun gb685 hg w142 BK685 hb => ?_; have GW685 := gw hg HB; have GE685 := gw hg HB; have NB684_685 := nlt hg BK684; have NB685_684 := ngt hg BK684; replace BK684 := bb BK684 hb; replace HB := bst HB hb; clear hb hg; have hnb143 := NB684_685.out; have hnc143 := NB685_684.out; have ⟨hcz144_0, hcz144_1, hcz144_2, hfz144_0, hfz144_1, hfz144_2⟩ := cf3 BK684) | ((with_reducible refine gate_callee (f := 11) rfl ?_); refine gl 15 Try.func11 (grids_Reduce.calls k a0_0 a0_1 a0_2 t686 t687 t688 t689 t690 t691 t692 t693 _ A3.out) ?_; rintro e w145 ⟨rfl, hb⟩; refine ⟨_, rfl, ?_⟩; replace BK684 := bb BK684 hb; replace BK685 := bb BK685 hb; replace HB := bst HB hb; clear hb) | ((with_reducible refine gate_dst (N := 5) rfl ?_); refine bx 5 #[.int .i64 0, .int .i64 0, .int .i64 0] 23 fun gb694 hg w146 BK694 hb => ?_; have GW694 := gw hg HB; have GE694 := gw hg HB; have NB684_694 := nlt hg BK684; have NB694_684 := ngt hg BK684; have NB685_694 := nlt hg BK685; have NB694_685 := ngt hg BK685; replace BK684 := bb BK684 hb; replace BK685 := bb BK685 hb; replace HB := bst HB hb; clear hb hg) | ((with_reducible refine gate_dst (N := 6) rfl ?_); refine bx 6 #[.int .i64 0, .int .i64 0, .int .i64 0, .int .i64 0] 25 fun gb695 hg w147 BK695 hb => ?_; have GW695 := gw hg HB; have GE695 := gw hg HB; have NB684_695 := nlt hg BK684; have NB695_684 := ngt hg BK684; have NB685_695 := nlt hg BK685; have NB695_685 := ngt hg BK685; have NB694_695 := nlt hg BK694; have NB695_694 := ngt hg BK694; replace BK684 := bb BK684 hb; replace BK685 := bb BK685 hb; replace BK694 := bb BK694 hb; replace HB := bst HB hb; clear hb hg; have hnb148 := NB694_684.out; have hnc148 := NB684_694.out; have hnb149 := NB694_685.out; have hnc149 := NB685_694.out; have hnb150 := NB694_695.out; have hnc150 := NB695_694.out; have ⟨hcz151_0, hcz151_1, hcz151_2, hfz151_0, hfz151_1, hfz151_2⟩ := cf3 BK694) | ((with_reducible refine gate_store (t := 23) (p := 5) rfl ?_); refine sx 23 5 ((((w147.setCell ⟨gb694, 0, none⟩ (.int .i64 t686)).setCell ⟨gb694, 1, none⟩ (.int .i64 t687)).setCell ⟨gb694, 2, none⟩ (.int .i64 t688))) fun w152 hw => ?_; replace BK684 := fw hw BK684; replace BK685 := fw hw BK685; replace BK694 := pw3 hw BK694; replace BK695 := fw hw BK695; replace HB := bw hw HB; clear hw; have hnb153 := NB695_684.out; have hnc153 := NB684_695.out; have hnb154 := NB695_685.out; have hnc154 := NB685_695.out; have ⟨hcz155_0, hcz155_1, hcz155_2, hcz155_3, hfz155_0, hfz155_1, hfz155_2, hfz155_3⟩ := cf4 BK695) | ((with_reducible refine gate_store (t := 25) (p := 6) rfl ?_); refine sx 25 6 (((((w152.setCell ⟨gb695, 0, none⟩ (.int .i64 t689)).setCell ⟨gb695, 1, none⟩ (.int .i64 t690)).setCell ⟨gb695, 2, none⟩ (.int .i64 t691)).setCell ⟨gb695, 3, none⟩ (.int .i64 t692))) fun w156 hw => ?_; replace BK684 := fw hw BK684; replace BK685 := fw hw BK685; replace BK694 := fw hw BK694; replace BK695 := pw4 hw BK695; replace HB := bw hw HB; clear hw; have ⟨hcz157_0, hcz157_1, hcz157_2, hfz157_0, hfz157_1, hfz157_2⟩ := cf3 BK684) | ((with_reducible refine gate_callee (f := 14) rfl ?_); refine gl 22 Try.func14 (grids_Check.calls k a0_0 a0_1 a0_2 t696 _ A138.out) ?_; rintro e w158 ⟨rfl, hb⟩; refine ⟨_, rfl, ?_⟩; replace BK684 := bb BK684 hb; replace BK685 := bb BK685 hb; replace BK694 := bb BK694 hb; replace BK695 := bb BK695 hb; replace HB := bst HB hb; clear hb) | (go_at_call 13; (with_reducible refine (torchonlaw06_awake.calls k  t697 _ A140.out).mono ?_); rintro e w159 ⟨rfl, hb⟩; replace BK684 := bb BK684 hb; replace BK685 := bb BK685 hb; replace BK694 := bb BK694 hb; replace BK695 := bb BK695 hb; replace HB := bst HB hb; clear hb))
      go_ret
      exact rt HB
    · rw [if_neg c139] at H
      exact absurd H (by simp)
end
end Go.Proofs.Ytmcajdepoohlhaa.G
