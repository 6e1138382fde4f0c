/- Functions of the program as plain Lean functions, and their contracts (printed by a program of this session). No condition beyond what each states. -/
import Derived.Test.YtmcajdepoohlhaaCTurnsP0
import Derived.Test.YtmcajdepoohlhaaCTurnsP1
import Derived.Test.YtmcajdepoohlhaaCTurnsP2
namespace Go.Proofs.Ytmcajdepoohlhaa.G
open Go.RowKit Go.Proofs.YtmcajdepoohlhaaW.PrintWords Go.Proofs.YtmcajdepoohlhaaW.PrintLast Go.Proofs.YtmcajdepoohlhaaW.PrintMore
attribute [local go_sem] max2_int min2_int max_two min_two max_three min_three max_four min_four
set_option linter.unusedVariables false
set_option linter.unusedSimpArgs false
section
/-! ### grids_Group: function 22 -/
def grids_Group.l0 : Nat → List (S25) → Int → Int → Int → Int → Int → Int → Option ((List (S25)) × Int)
  | 0, _, _, _, _, _, _, _ => none
  | k + 1, x7, x22, x23, x517000, x517001, x517002, x517003 => if x23 < x22 then (if 0 ≤ x23 then (if x23 < (x7.length : Int) then ((grids_times.f x517000 x517001 x517002 x517003 ((rd_T25 x7 x23).f0) ((rd_T25 x7 x23).f1) ((rd_T25 x7 x23).f2) ((rd_T25 x7 x23).f3)).bind fun bt521 => ((grids_inverse.f x517000 x517001 x517002 x517003).bind fun bt525 => ((grids_times.f bt521.1 bt521.2.1 bt521.2.2.1 bt521.2.2.2 bt525.1 bt525.2.1 bt525.2.2.1 bt525.2.2.2).bind fun bt529 => ((some (wrap64 (x23 + 1))).bind fun z534 => (grids_Group.l0 k (x7.set (x23 : Int).toNat (⟨bt529.1, bt529.2.1, bt529.2.2.1, bt529.2.2.2⟩ : S25)) x22 z534 x517000 x517001 x517002 x517003))))) else (none)) else (none)) else ((api_GrMatrix_58.f k x7).bind fun t535 => (some (t535, 0)))
def grids_Group.f (k : Nat) (a0_0 : Int) (a0_1 : Int) (a0_2 : Int) : Option ((List (S25)) × Int) := (grids_Check.f k a0_0 a0_1 a0_2).bind fun t507 => (if t507 = 0 then ((grids_reduce.f k a0_0 a0_1 a0_2).bind fun bt508 => ((grids_group.f k bt508.1 bt508.2.1 bt508.2.2.1).bind fun t517 => (grids_Group.l0 k t517 (t517.length : Int) 0 bt508.2.2.2.1 bt508.2.2.2.2.1 bt508.2.2.2.2.2.1 bt508.2.2.2.2.2.2))) else (some (([] : List (S25)), t507)))
theorem grids_Group.mono_l : ∀ k, (∀ y0 y1 y2 y3 y4 y5 y6, LeO (grids_Group.l0 k y0 y1 y2 y3 y4 y5 y6) (grids_Group.l0 (k + 1) y0 y1 y2 y3 y4 y5 y6))
  | 0 => fun _ _ _ _ _ _ _ r h => by simp [grids_Group.l0] at h
  | k + 1 => by
    have ih0 := grids_Group.mono_l k
    · intro y0 y1 y2 y3 y4 y5 y6
      unfold grids_Group.l0
      repeat' first
      | (with_reducible exact ih0 _ _ _ _ _ _ _)
      | (with_reducible exact api_GrMatrix_58.mono _ _)
      | (with_reducible exact grids_Check.mono _ _ _ _)
      | (with_reducible exact grids_group.mono _ _ _ _)
      | (with_reducible exact grids_reduce.mono _ _ _ _)
      | (with_reducible exact LeO.refl _)
      | (with_reducible exact LeO.none _)
      | (with_reducible refine LeO.ite ?_ ?_)
      | (with_reducible refine LeO.bind ?_ (fun _ => ?_))
      | exact ih0 _ _ _ _ _ _ _
      | exact api_GrMatrix_58.mono _ _
      | exact grids_Check.mono _ _ _ _
      | exact grids_group.mono _ _ _ _
      | exact grids_reduce.mono _ _ _ _
      | exact LeO.none _
      | refine LeO.ite ?_ ?_
      | refine LeO.bind ?_ (fun _ => ?_)
theorem grids_Group.mono : ∀ a0 a1 a2 k, LeO (grids_Group.f k a0 a1 a2) (grids_Group.f (k + 1) a0 a1 a2) := by
  intro a0 a1 a2 k
  have ih0 := grids_Group.mono_l k
  unfold grids_Group.f
  repeat' first
      | (with_reducible exact ih0 _ _ _ _ _ _ _)
      | (with_reducible exact api_GrMatrix_58.mono _ _)
      | (with_reducible exact grids_Check.mono _ _ _ _)
      | (with_reducible exact grids_group.mono _ _ _ _)
      | (with_reducible exact grids_reduce.mono _ _ _ _)
      | (with_reducible exact LeO.refl _)
      | (with_reducible exact LeO.none _)
      | (with_reducible refine LeO.ite ?_ ?_)
      | (with_reducible refine LeO.bind ?_ (fun _ => ?_))
      | exact ih0 _ _ _ _ _ _ _
      | exact api_GrMatrix_58.mono _ _
      | exact grids_Check.mono _ _ _ _
      | exact grids_group.mono _ _ _ _
      | exact grids_reduce.mono _ _ _ _
      | exact LeO.none _
      | refine LeO.ite ?_ ?_
      | refine LeO.bind ?_ (fun _ => ?_)
def grids_Group.T9 : Bool × List (List Nat × List Nat) := (true, [([], []), ([], []), ([], []), ([], []), ([], []), ([3, 4], [3, 4]), ([5], [5]), ([2, 6], [2, 6]), ([], []), ([8, 7], [8]), ([7, 9, 9], [7, 9]), ([0, 1, 0, 1, 2, 3, 4, 5, 6, 7, 8, 9, 10], [0, 1]), ([11, 10, 10, 0, 1, 2, 3, 4, 5, 6, 7, 8, 9, 10], [10, 11])])
def grids_Group.B9 : List Nat := [0, 0, 0, 0, 0, 24, 56, 124, 0, 508, 1020, 2047, 4095]
theorem grids_Group.tab9 : rtab .any (opsOf Try.f22 9) = grids_Group.T9 := by kernel_rfl
theorem grids_Group.bits9 : waitsOk grids_Group.T9.2 grids_Group.B9 = true := by kernel_rfl
set_option maxHeartbeats 8000000 in
set_option maxRecDepth 100000 in
theorem grids_Group.calls (k : Nat) (a0_0 : Int) (a0_1 : Int) (a0_2 : Int) (r1 : List (S25)) (r2 : Int) (w : World) (h : grids_Group.f k a0_0 a0_1 a0_2 = some (r1, r2)) :
    Calls Try.prog 22 #[.agg #[.int .i64 a0_0, .int .i64 a0_1, .int .i64 a0_2]] w fun e w' => ∃ v0_ : Value, e = .returned (.tuple #[v0_, .int .i64 r2]) ∧ Kd.R k25 25 w' w.heap.size (fun _ => True) v0_ r1 ∧ Below w.heap.size w w' := by
  have hu23 := Try.underlying23
  have hu25 := Try.underlying25
  have HB := Aside0.mk (Below.refl w.heap.size w)
  have H : ((grids_Check.f k a0_0 a0_1 a0_2).bind fun t507 => (if t507 = 0 then ((grids_reduce.f k a0_0 a0_1 a0_2).bind fun bt508 => ((grids_group.f k bt508.1 bt508.2.1 bt508.2.2.1).bind fun t517 => (grids_Group.l0 k t517 (t517.length : Int) 0 bt508.2.2.2.1 bt508.2.2.2.2.1 bt508.2.2.2.2.2.1 bt508.2.2.2.2.2.2))) else (some (([] : List (S25)), t507)))) = some (r1, r2) := h
  clear h
  replace H := Option.bind_eq_some_iff.mp H
  obtain ⟨t507, A20, H⟩ := H
  replace H : (if t507 = 0 then ((grids_reduce.f k a0_0 a0_1 a0_2).bind fun bt508 => ((grids_group.f k bt508.1 bt508.2.1 bt508.2.2.1).bind fun t517 => (grids_Group.l0 k t517 (t517.length : Int) 0 bt508.2.2.2.1 bt508.2.2.2.2.1 bt508.2.2.2.2.2.1 bt508.2.2.2.2.2.2))) else (some (([] : List (S25)), t507))) = some (r1, r2) := H
  have A2 := Aside0.mk A20
  clear A20
  by_cases c3 : t507 = 0
  · rw [if_pos c3] at H
    have c3b0 : (t507 == 0) = true := beq_iff_eq.mpr c3
    have c3b1 : (t507 != 0) = false := bne_eq_false_iff_eq.mpr c3
    clear c3
    replace H := Option.bind_eq_some_iff.mp H
    obtain ⟨⟨t508, t509, t510, t511, t512, t513, t514⟩, A40, H⟩ := H
    replace H : ((grids_group.f k t508 t509 t510).bind fun t517 => (grids_Group.l0 k t517 (t517.length : Int) 0 t511 t512 t513 t514)) = some (r1, r2) := H
    have A4 := Aside0.mk A40
    clear A40
    replace H := Option.bind_eq_some_iff.mp H
    obtain ⟨t517, A50, H⟩ := H
    replace H : (grids_Group.l0 k t517 (t517.length : Int) 0 t511 t512 t513 t514) = some (r1, r2) := H
    have A5 := Aside0.mk A50
    clear A50
    have H' := Aside0.mk H
    clear H
    go_enter Try.func22, Try.ntmps22
    go_wp2_with (first | ((with_reducible refine gate_dst (N := 1) rfl ?_); refine box_event ?hg (N := 1) ?hd (cs := #[.int .i64 a0_0, .int .i64 a0_1, .int .i64 a0_2]) (t := 23) ?hr ?_; (case hd => rfl); (case hg => rfl); (case hr => first | (go_simp; done) | (go_simp; rfl)); intro gb506 hg w6 hbox hb; have BK506 := Aside0.mk (hbox); have GW506 := Aside0.mk ((by rw [hg]; exact (below_size (bnow HB)) : w.heap.size ≤ gb506)); have GE506 := Aside0.mk ((by rw [hg]; exact (below_size (bnow HB)) : w.heap.size ≤ gb506)); replace HB := bst HB hb; clear hb hbox hg; have hcz7_0 : w6.cell? ⟨gb506, 0, none⟩ = some (.int .i64 a0_0) := (blk_cell BK506.out 0).trans rfl; have hcz7_1 : w6.cell? ⟨gb506, 1, none⟩ = some (.int .i64 a0_1) := (blk_cell BK506.out 1).trans rfl; have hcz7_2 : w6.cell? ⟨gb506, 2, none⟩ = some (.int .i64 a0_2) := (blk_cell BK506.out 2).trans rfl; have hfz7_0 := blk_frozen BK506.out 0; have hfz7_1 := blk_frozen BK506.out 1; have hfz7_2 := blk_frozen BK506.out 2) | ((with_reducible refine gate_callee (f := 14) rfl ?_); refine goesL_ (some 10) rfl rfl Try.func14 (by kernel_rfl) rfl #[.agg #[.int .i64 a0_0, .int .i64 a0_1, .int .i64 a0_2]] rfl am ?_; (with_reducible refine (grids_Check.calls k a0_0 a0_1 a0_2 t507 _ A2.out).mono ?_); rintro e w8 ⟨rfl, hb⟩; refine ⟨_, rfl, ?_⟩; replace BK506 := bb BK506 hb; replace HB := bst HB hb; clear hb; have hcz9_0 : w8.cell? ⟨gb506, 0, none⟩ = some (.int .i64 a0_0) := (blk_cell BK506.out 0).trans rfl; have hcz9_1 : w8.cell? ⟨gb506, 1, none⟩ = some (.int .i64 a0_1) := (blk_cell BK506.out 1).trans rfl; have hcz9_2 : w8.cell? ⟨gb506, 2, none⟩ = some (.int .i64 a0_2) := (blk_cell BK506.out 2).trans rfl; have hfz9_0 := blk_frozen BK506.out 0; have hfz9_1 := blk_frozen BK506.out 1; have hfz9_2 := blk_frozen BK506.out 2) | ((with_reducible refine gate_callee (f := 38) rfl ?_); refine goesL_ (some 16) rfl rfl Try.func38 (by kernel_rfl) rfl #[.agg #[.int .i64 a0_0, .int .i64 a0_1, .int .i64 a0_2]] rfl am ?_; (with_reducible refine (grids_reduce.calls k a0_0 a0_1 a0_2 t508 t509 t510 t511 t512 t513 t514 _ A4.out).mono ?_); rintro e w10 ⟨rfl, hb⟩; refine ⟨_, rfl, ?_⟩; replace BK506 := bb BK506 hb; replace HB := bst HB hb; clear hb) | ((with_reducible refine gate_dst (N := 5) rfl ?_); refine box_event ?hg (N := 5) ?hd (cs := #[.int .i64 0, .int .i64 0, .int .i64 0]) (t := 23) ?hr ?_; (case hd => rfl); (case hg => rfl); (case hr => first | (go_simp; done) | (go_simp; rfl)); intro gb515 hg w11 hbox hb; have BK515 := Aside0.mk (hbox); have GW515 := Aside0.mk ((by rw [hg]; exact (below_size (bnow HB)) : w.heap.size ≤ gb515)); have GE515 := Aside0.mk ((by rw [hg]; exact (below_size (bnow HB)) : w.heap.size ≤ gb515)); have NB506_515 := Aside0.mk ((by rw [hg]; exact Nat.ne_of_lt (blk_lt (g := gb506) (o := .cells #[.int .i64 a0_0, .int .i64 a0_1, .int .i64 a0_2] 23 (0, 0)) (pk BK506)) : gb506 ≠ gb515)); have NB515_506 := Aside0.mk ((by rw [hg]; exact Nat.ne_of_gt (blk_lt (g := gb506) (o := .cells #[.int .i64 a0_0, .int .i64 a0_1, .int .i64 a0_2] 23 (0, 0)) (pk BK506)) : gb515 ≠ gb506)); replace BK506 := bb BK506 hb; replace HB := bst HB hb; clear hb hbox hg) | ((with_reducible refine gate_dst (N := 6) rfl ?_); refine box_event ?hg (N := 6) ?hd (cs := #[.int .i64 0, .int .i64 0, .int .i64 0, .int .i64 0]) (t := 25) ?hr ?_; (case hd => rfl); (case hg => rfl); (case hr => first | (go_simp; done) | (go_simp; rfl)); intro gb516 hg w12 hbox hb; have BK516 := Aside0.mk (hbox); have GW516 := Aside0.mk ((by rw [hg]; exact (below_size (bnow HB)) : w.heap.size ≤ gb516)); have GE516 := Aside0.mk ((by rw [hg]; exact (below_size (bnow HB)) : w.heap.size ≤ gb516)); have NB506_516 := Aside0.mk ((by rw [hg]; exact Nat.ne_of_lt (blk_lt (g := gb506) (o := .cells #[.int .i64 a0_0, .int .i64 a0_1, .int .i64 a0_2] 23 (0, 0)) (pk BK506)) : gb506 ≠ gb516)); have NB516_506 := Aside0.mk ((by rw [hg]; exact Nat.ne_of_gt (blk_lt (g := gb506) (o := .cells #[.int .i64 a0_0, .int .i64 a0_1, .int .i64 a0_2] 23 (0, 0)) (pk BK506)) : gb516 ≠ gb506)); have NB515_516 := Aside0.mk ((by rw [hg]; exact Nat.ne_of_lt (blk_lt (g := gb515) (o := .cells #[.int .i64 0, .int .i64 0, .int .i64 0] 23 (0, 0)) (pk BK515)) : gb515 ≠ gb516)); have NB516_515 := Aside0.mk ((by rw [hg]; exact Nat.ne_of_gt (blk_lt (g := gb515) (o := .cells #[.int .i64 0, .int .i64 0, .int .i64 0] 23 (0, 0)) (pk BK515)) : gb516 ≠ gb515)); replace BK506 := bb BK506 hb; replace BK515 := bb BK515 hb; replace HB := bst HB hb; clear hb hbox hg; have hnb13 := NB515_506.out; have hnc13 := NB506_515.out; have hnb14 := NB515_516.out; have hnc14 := NB516_515.out; have hcz15_0 : w12.cell? ⟨gb515, 0, none⟩ = some (.int .i64 0) := (blk_cell BK515.out 0).trans rfl; have hcz15_1 : w12.cell? ⟨gb515, 1, none⟩ = some (.int .i64 0) := (blk_cell BK515.out 1).trans rfl; have hcz15_2 : w12.cell? ⟨gb515, 2, none⟩ = some (.int .i64 0) := (blk_cell BK515.out 2).trans rfl; have hfz15_0 := blk_frozen BK515.out 0; have hfz15_1 := blk_frozen BK515.out 1; have hfz15_2 := blk_frozen BK515.out 2) | ((with_reducible refine gate_store (t := 23) (p := 5) rfl ?_); refine store_event (t := 23) (p := 5) (v := ?vo_w16) (w1 := (((w12.setCell ⟨gb515, 0, none⟩ (.int .i64 t508)).setCell ⟨gb515, 1, none⟩ (.int .i64 t509)).setCell ⟨gb515, 2, none⟩ (.int .i64 t510))) ?hg ?ho ?hn ?hr ?_; (case ho => rfl); (case hg => rfl); (case hn => rfl); (case hr => first | (go_simp; done) | (go_simp; rfl)); intro w16 hw; have n0_ : Aside0 (w16.heap[gb506]? = some (.cells #[.int .i64 a0_0, .int .i64 a0_1, .int .i64 a0_2] 23 (0, 0))) := ⟨(by rw [hw]; exact (by (with_reducible repeat (first | refine blk_drewN ?_ _ | refine blk_drew ?_ | refine blk_alloc ?_ _)); refine blk_far ?_ NB506_515.out _; (with_reducible repeat (first | refine blk_drewN ?_ _ | refine blk_drew ?_ | refine blk_alloc ?_ _)); refine blk_far ?_ NB506_515.out _; (with_reducible repeat (first | refine blk_drewN ?_ _ | refine blk_drew ?_ | refine blk_alloc ?_ _)); refine blk_far ?_ NB506_515.out _; (with_reducible repeat (first | refine blk_drewN ?_ _ | refine blk_drew ?_ | refine blk_alloc ?_ _)); exact BK506.out))⟩; have n1_ : Aside0 (w16.heap[gb515]? = some (.cells #[.int .i64 t508, .int .i64 t509, .int .i64 t510] 23 (0, 0))) := ⟨(by rw [hw]; exact (by (with_reducible repeat (first | refine blk_drewN ?_ _ | refine blk_drew ?_ | refine blk_alloc ?_ _)); refine blk_put (cs := #[.int .i64 t508, .int .i64 t509, .int .i64 0]) ?_ 2 _ rfl; (with_reducible repeat (first | refine blk_drewN ?_ _ | refine blk_drew ?_ | refine blk_alloc ?_ _)); refine blk_put (cs := #[.int .i64 t508, .int .i64 0, .int .i64 0]) ?_ 1 _ rfl; (with_reducible repeat (first | refine blk_drewN ?_ _ | refine blk_drew ?_ | refine blk_alloc ?_ _)); refine blk_put (cs := #[.int .i64 0, .int .i64 0, .int .i64 0]) ?_ 0 _ rfl; (with_reducible repeat (first | refine blk_drewN ?_ _ | refine blk_drew ?_ | refine blk_alloc ?_ _)); exact BK515.out))⟩; have n2_ : Aside0 (w16.heap[gb516]? = some (.cells #[.int .i64 0, .int .i64 0, .int .i64 0, .int .i64 0] 25 (0, 0))) := ⟨(by rw [hw]; exact (by (with_reducible repeat (first | refine blk_drewN ?_ _ | refine blk_drew ?_ | refine blk_alloc ?_ _)); refine blk_far ?_ NB516_515.out _; (with_reducible repeat (first | refine blk_drewN ?_ _ | refine blk_drew ?_ | refine blk_alloc ?_ _)); refine blk_far ?_ NB516_515.out _; (with_reducible repeat (first | refine blk_drewN ?_ _ | refine blk_drew ?_ | refine blk_alloc ?_ _)); refine blk_far ?_ NB516_515.out _; (with_reducible repeat (first | refine blk_drewN ?_ _ | refine blk_drew ?_ | refine blk_alloc ?_ _)); exact BK516.out))⟩; have n3_ : Aside0 (Below w.heap.size w w16) := ⟨(by rw [hw]; exact (bnow HB))⟩; clear hw; clear BK506; clear BK515; clear BK516; clear HB; have BK506 := n0_; have BK515 := n1_; have BK516 := n2_; have HB := n3_; clear n0_ n1_ n2_ n3_; have hnb17 := NB516_506.out; have hnc17 := NB506_516.out; have hcz18_0 : w16.cell? ⟨gb516, 0, none⟩ = some (.int .i64 0) := (blk_cell BK516.out 0).trans rfl; have hcz18_1 : w16.cell? ⟨gb516, 1, none⟩ = some (.int .i64 0) := (blk_cell BK516.out 1).trans rfl; have hcz18_2 : w16.cell? ⟨gb516, 2, none⟩ = some (.int .i64 0) := (blk_cell BK516.out 2).trans rfl; have hcz18_3 : w16.cell? ⟨gb516, 3, none⟩ = some (.int .i64 0) := (blk_cell BK516.out 3).trans rfl; have hfz18_0 := blk_frozen BK516.out 0; have hfz18_1 := blk_frozen BK516.out 1; have hfz18_2 := blk_frozen BK516.out 2; have hfz18_3 := blk_frozen BK516.out 3) | ((with_reducible refine gate_store (t := 25) (p := 6) rfl ?_); refine store_event (t := 25) (p := 6) (v := ?vo_w19) (w1 := ((((w16.setCell ⟨gb516, 0, none⟩ (.int .i64 t511)).setCell ⟨gb516, 1, none⟩ (.int .i64 t512)).setCell ⟨gb516, 2, none⟩ (.int .i64 t513)).setCell ⟨gb516, 3, none⟩ (.int .i64 t514))) ?hg ?ho ?hn ?hr ?_; (case ho => rfl); (case hg => rfl); (case hn => rfl); (case hr => first | (go_simp; done) | (go_simp; rfl)); intro w19 hw; have n0_ : Aside0 (w19.heap[gb506]? = some (.cells #[.int .i64 a0_0, .int .i64 a0_1, .int .i64 a0_2] 23 (0, 0))) := ⟨(by rw [hw]; exact (by (with_reducible repeat (first | refine blk_drewN ?_ _ | refine blk_drew ?_ | refine blk_alloc ?_ _)); refine blk_far ?_ NB506_516.out _; (with_reducible repeat (first | refine blk_drewN ?_ _ | refine blk_drew ?_ | refine blk_alloc ?_ _)); refine blk_far ?_ NB506_516.out _; (with_reducible repeat (first | refine blk_drewN ?_ _ | refine blk_drew ?_ | refine blk_alloc ?_ _)); refine blk_far ?_ NB506_516.out _; (with_reducible repeat (first | refine blk_drewN ?_ _ | refine blk_drew ?_ | refine blk_alloc ?_ _)); refine blk_far ?_ NB506_516.out _; (with_reducible repeat (first | refine blk_drewN ?_ _ | refine blk_drew ?_ | refine blk_alloc ?_ _)); exact BK506.out))⟩; have n1_ : Aside0 (w19.heap[gb515]? = some (.cells #[.int .i64 t508, .int .i64 t509, .int .i64 t510] 23 (0, 0))) := ⟨(by rw [hw]; exact (by (with_reducible repeat (first | refine blk_drewN ?_ _ | refine blk_drew ?_ | refine blk_alloc ?_ _)); refine blk_far ?_ NB515_516.out _; (with_reducible repeat (first | refine blk_drewN ?_ _ | refine blk_drew ?_ | refine blk_alloc ?_ _)); refine blk_far ?_ NB515_516.out _; (with_reducible repeat (first | refine blk_drewN ?_ _ | refine blk_drew ?_ | refine blk_alloc ?_ _)); refine blk_far ?_ NB515_516.out _; (with_reducible repeat (first | refine blk_drewN ?_ _ | refine blk_drew ?_ | refine blk_alloc ?_ _)); refine blk_far ?_ NB515_516.out _; (with_reducible repeat (first | refine blk_drewN ?_ _ | refine blk_drew ?_ | refine blk_alloc ?_ _)); exact BK515.out))⟩; have n2_ : Aside0 (w19.heap[gb516]? = some (.cells #[.int .i64 t511, .int .i64 t512, .int .i64 t513, .int .i64 t514] 25 (0, 0))) := ⟨(by rw [hw]; exact (by (with_reducible repeat (first | refine blk_drewN ?_ _ | refine blk_drew ?_ | refine blk_alloc ?_ _)); refine blk_put (cs := #[.int .i64 t511, .int .i64 t512, .int .i64 t513, .int .i64 0]) ?_ 3 _ rfl; (with_reducible repeat (first | refine blk_drewN ?_ _ | refine blk_drew ?_ | refine blk_alloc ?_ _)); refine blk_put (cs := #[.int .i64 t511, .int .i64 t512, .int .i64 0, .int .i64 0]) ?_ 2 _ rfl; (with_reducible repeat (first | refine blk_drewN ?_ _ | refine blk_drew ?_ | refine blk_alloc ?_ _)); refine blk_put (cs := #[.int .i64 t511, .int .i64 0, .int .i64 0, .int .i64 0]) ?_ 1 _ rfl; (with_reducible repeat (first | refine blk_drewN ?_ _ | refine blk_drew ?_ | refine blk_alloc ?_ _)); refine blk_put (cs := #[.int .i64 0, .int .i64 0, .int .i64 0, .int .i64 0]) ?_ 0 _ rfl; (with_reducible repeat (first | refine blk_drewN ?_ _ | refine blk_drew ?_ | refine blk_alloc ?_ _)); exact BK516.out))⟩; have n3_ : Aside0 (Below w.heap.size w w19) := ⟨(by rw [hw]; exact (bnow HB))⟩; clear hw; clear BK506; clear BK515; clear BK516; clear HB; have BK506 := n0_; have BK515 := n1_; have BK516 := n2_; have HB := n3_; clear n0_ n1_ n2_ n3_; have hcz20_0 : w19.cell? ⟨gb515, 0, none⟩ = some (.int .i64 t508) := (blk_cell BK515.out 0).trans rfl; have hcz20_1 : w19.cell? ⟨gb515, 1, none⟩ = some (.int .i64 t509) := (blk_cell BK515.out 1).trans rfl; have hcz20_2 : w19.cell? ⟨gb515, 2, none⟩ = some (.int .i64 t510) := (blk_cell BK515.out 2).trans rfl; have hfz20_0 := blk_frozen BK515.out 0; have hfz20_1 := blk_frozen BK515.out 1; have hfz20_2 := blk_frozen BK515.out 2) | ((with_reducible refine gate_callee (f := 39) rfl ?_); refine goesL_ (some 20) rfl rfl Try.func39 (by kernel_rfl) rfl #[.agg #[.int .i64 t508, .int .i64 t509, .int .i64 t510]] rfl am ?_; (with_reducible refine (grids_group.calls k t508 t509 t510 t517 _ A5.out).mono ?_); rintro e w21 ⟨v518, rfl, ho0, hb⟩; refine ⟨_, rfl, ?_⟩; have HO519 := Aside0.mk (Kd.R_lower (Kd.R_newB ho0 (g := gb516) (o := .cells #[.int .i64 t511, .int .i64 t512, .int .i64 t513, .int .i64 t514] 25 (0, 0)) (pk BK516)) (below_size (bnow HB))); replace BK506 := bb BK506 hb; replace BK515 := bb BK515 hb; replace BK516 := bb BK516 hb; replace HB := bst HB hb; (try clear hb); (try clear hb2); (try clear hk); (try clear hi); (try clear ho0); obtain ⟨Ao22, co22, eo22⟩ := Kd.R_slice HO519.out; subst eo22))
    (try simp only [Act.put, List.setIfInBounds_toArray, List.set_cons_zero, List.set_cons_succ])
    go_loopg [23] k (fun kq v23 w' => ∃ (x7_1 : List (S25)) (x23_1 : Int) (x517000_1 : Int) (x517001_1 : Int) (x517002_1 : Int) (x517003_1 : Int), v23 = .int .i64 x23_1 ∧ Aside0 (grids_Group.l0 kq x7_1 (t517.length : Int) x23_1 x517000_1 x517001_1 x517002_1 x517003_1 = some (r1, r2)) ∧ Aside0 (kq ≤ k) ∧ Aside0 (Kd.R k25 25 w' w.heap.size (fun k_ => k_ ≠ gb516) (.slice Ao22 t517.length co22) x7_1) ∧ Aside0 (w'.heap[gb506]? = some (.cells #[.int .i64 a0_0, .int .i64 a0_1, .int .i64 a0_2] 23 (0, 0))) ∧ Aside0 (w'.heap[gb515]? = some (.cells #[.int .i64 t508, .int .i64 t509, .int .i64 t510] 23 (0, 0))) ∧ Aside0 (w'.heap[gb516]? = some (.cells #[.int .i64 x517000_1, .int .i64 x517001_1, .int .i64 x517002_1, .int .i64 x517003_1] 25 (0, 0))) ∧ Aside0 (Below w.heap.size w w'))
    case atStart => exact ⟨(t517), (0), (t511), (t512), (t513), (t514), (by first | rfl | (simp; done) | (simp [*]; done)), H', ⟨Nat.le_refl _⟩, ⟨by (with_reducible repeat (first | apply Kd.R_alloc | apply Kd.R_drewN | apply Kd.R_drew)); exact Kd.R_mono HO519.out (fun _ hk => hk.2)⟩, ⟨pk BK506⟩, ⟨pk BK515⟩, ⟨pk BK516⟩, ⟨bnow HB⟩⟩
    case round =>
      clear H'
      try clear c1
      try clear c2
      try clear p2
      try clear c3
      try clear c3b0
      try clear c3b1
      try clear c13
      try clear c14
      try clear c17
      try clear c22
      try clear hcz15_0
      try clear hcz15_1
      try clear hcz15_2
      try clear hcz18_0
      try clear hcz18_1
      try clear hcz18_2
      try clear hcz18_3
      try clear hcz20_0
      try clear hcz20_1
      try clear hcz20_2
      try clear hcz7_0
      try clear hcz7_1
      try clear hcz7_2
      try clear hcz9_0
      try clear hcz9_1
      try clear hcz9_2
      try clear hfz15_0
      try clear hfz15_1
      try clear hfz15_2
      try clear hfz18_0
      try clear hfz18_1
      try clear hfz18_2
      try clear hfz18_3
      try clear hfz20_0
      try clear hfz20_1
      try clear hfz20_2
      try clear hfz7_0
      try clear hfz7_1
      try clear hfz7_2
      try clear hfz9_0
      try clear hfz9_1
      try clear hfz9_2
      obtain ⟨x7_1, x23_1, x517000_1, x517001_1, x517002_1, x517003_1, rfl, HA, HK1, HO_7, BK506, BK515, BK516, HB⟩ := hrel
      have hl7_1 := (Kd.R_reads' HO_7.out).1
      rw [hl7_1] at HO_7
      (try simp only [hl7_1])
      (try simp only [hl7_1] at BK506)
      (try simp only [hl7_1] at BK515)
      (try simp only [hl7_1] at BK516)
      cases gk with
      | zero => exact absurd HA.out (by simp [grids_Group.l0])
      | succ k1 =>
        have H := HA.out
        clear HA
        simp only [grids_Group.l0] at H
        by_cases c23 : x23_1 < (t517.length : Int)
        · rw [if_pos c23] at H
          have c23b0 : decide (x23_1 < (t517.length : Int)) = true := decide_eq_true c23
          (try (have c23h0 := c23b0; simp only [hl7_1] at c23h0))
          clear c23
          by_cases c24 : 0 ≤ x23_1
          · rw [if_pos c24] at H
            have c24b0 : decide (0 ≤ x23_1) = true := decide_eq_true c24
            clear c24
            by_cases c25 : x23_1 < (x7_1.length : Int)
            · rw [if_pos c25] at H
              have c25b0 : decide (x23_1 < (x7_1.length : Int)) = true := decide_eq_true c25
              (try (have c25h0 := c25b0; simp only [hl7_1] at c25h0))
              clear c25
              replace H := Option.bind_eq_some_iff.mp H
              obtain ⟨⟨t521, t522, t523, t524⟩, A260, H⟩ := H
              replace H : ((grids_inverse.f x517000_1 x517001_1 x517002_1 x517003_1).bind fun bt525 => ((grids_times.f t521 t522 t523 t524 bt525.1 bt525.2.1 bt525.2.2.1 bt525.2.2.2).bind fun bt529 => ((some (wrap64 (x23_1 + 1))).bind fun z534 => (grids_Group.l0 k1 (x7_1.set (x23_1 : Int).toNat (⟨bt529.1, bt529.2.1, bt529.2.2.1, bt529.2.2.2⟩ : S25)) (t517.length : Int) z534 x517000_1 x517001_1 x517002_1 x517003_1)))) = some (r1, r2) := H
              have A26 := Aside0.mk A260
              clear A260
              replace H := Option.bind_eq_some_iff.mp H
              obtain ⟨⟨t525, t526, t527, t528⟩, A270, H⟩ := H
              replace H : ((grids_times.f t521 t522 t523 t524 t525 t526 t527 t528).bind fun bt529 => ((some (wrap64 (x23_1 + 1))).bind fun z534 => (grids_Group.l0 k1 (x7_1.set (x23_1 : Int).toNat (⟨bt529.1, bt529.2.1, bt529.2.2.1, bt529.2.2.2⟩ : S25)) (t517.length : Int) z534 x517000_1 x517001_1 x517002_1 x517003_1))) = some (r1, r2) := H
              have A27 := Aside0.mk A270
              clear A270
              replace H := Option.bind_eq_some_iff.mp H
              obtain ⟨⟨t529, t530, t531, t532⟩, A280, H⟩ := H
              replace H : ((some (wrap64 (x23_1 + 1))).bind fun z534 => (grids_Group.l0 k1 (x7_1.set (x23_1 : Int).toNat (⟨t529, t530, t531, t532⟩ : S25)) (t517.length : Int) z534 x517000_1 x517001_1 x517002_1 x517003_1)) = some (r1, r2) := H
              have A28 := Aside0.mk A280
              clear A280
              obtain ⟨y533, hy533⟩ : ∃ y_ : List (S25), y_ = (x7_1.set (x23_1 : Int).toNat (⟨t529, t530, t531, t532⟩ : S25)) := ⟨_, rfl⟩
              replace H : ((some (wrap64 (x23_1 + 1))).bind fun z534 => (grids_Group.l0 k1 y533 (t517.length : Int) z534 x517000_1 x517001_1 x517002_1 x517003_1)) = some (r1, r2) := by first | (rw [hy533]; with_reducible exact H) | (have H2_ := (Option.bind_some _ _).symm.trans H; rw [hy533]; with_reducible exact H2_) | (have H2_ := (Option.bind_some _ _).symm.trans H; with_reducible exact H2_) | with_reducible exact H | (rw [hy533]; exact H) | exact H
              have Ny533 := Aside0.mk hy533
              clear hy533
              replace H := Option.bind_eq_some_iff.mp H
              obtain ⟨z534, E300, H⟩ := H
              replace H : (grids_Group.l0 k1 y533 (t517.length : Int) z534 x517000_1 x517001_1 x517002_1 x517003_1) = some (r1, r2) := H
              replace E300 := Option.some.inj E300
              have E30w : (IntKind.i64.wrap (x23_1 + 1)) = z534 := (i64_w _).trans E300
              have H' := Aside0.mk H
              clear H
              try go_wp2
              have n0_ := Aside0.mk (Kd.R_drew HO_7.out)
              have n1_ := Aside0.mk (blk_drew BK506.out)
              have n2_ := Aside0.mk (blk_drew BK515.out)
              have n3_ := Aside0.mk (blk_drew BK516.out)
              have n4_ := Aside0.mk (below_drew1 HB.out)
              clear HO_7
              clear BK506
              clear BK515
              clear BK516
              clear HB
              have HO_7 := n0_
              have BK506 := n1_
              have BK515 := n2_
              have BK516 := n3_
              have HB := n4_
              clear n0_ n1_ n2_ n3_ n4_
              have p520 : 0 ≤ (x23_1 : Int) := of_decide_eq_true (by first | (with_reducible assumption) | assumption)
              have q520 : x23_1 < (x7_1.length : Int) := of_decide_eq_true (by first | (with_reducible assumption) | assumption)
              obtain ⟨ad520, e520, hx520_0, hx520_1, hx520_2, hx520_3⟩ := at_T25 (Kd.R_reads' HO_7.out).2.2 x23_1 p520 q520
              cases e520
              replace p520 := eq_true p520
              replace q520 := eq_true q520
              refine start_ (n := 13) (S := fun w' => w'.cell? ⟨gb516, 0, none⟩ = some (.int .i64 x517000_1) ∧ w'.cell? ⟨gb516, 1, none⟩ = some (.int .i64 x517001_1) ∧ w'.cell? ⟨gb516, 2, none⟩ = some (.int .i64 x517002_1) ∧ w'.cell? ⟨gb516, 3, none⟩ = some (.int .i64 x517003_1) ∧ w'.cell? (ad520.add ((x23_1).toNat * 4)) = some (.int .i64 ((rd_T25 x7_1 x23_1).f0)) ∧ w'.cell? ⟨(ad520.add ((x23_1).toNat * 4)).block, (ad520.add ((x23_1).toNat * 4)).off + 1, none⟩ = some (.int .i64 ((rd_T25 x7_1 x23_1).f1)) ∧ w'.cell? ⟨(ad520.add ((x23_1).toNat * 4)).block, (ad520.add ((x23_1).toNat * 4)).off + 2, none⟩ = some (.int .i64 ((rd_T25 x7_1 x23_1).f2)) ∧ w'.cell? ⟨(ad520.add ((x23_1).toNat * 4)).block, (ad520.add ((x23_1).toNat * 4)).off + 3, none⟩ = some (.int .i64 ((rd_T25 x7_1 x23_1).f3))) (ds := [12]) #[false, false, false, false, false, false, false, false, false, false, false, false, false] (by kernel_rfl) rfl rfl ⟨(blk_cell BK516.out 0).trans rfl, (blk_cell BK516.out 1).trans rfl, (blk_cell BK516.out 2).trans rfl, (blk_cell BK516.out 3).trans rfl, hx520_0, hx520_1, hx520_2, hx520_3⟩ (fun hHeld => ?_); refine with_tabW grids_Group.tab9 grids_Group.bits9 (fun HT_ HW_ => ?_)
              generalize wr.drew = w31 at HO_7 BK506 BK515 BK516 HB hx520_0 hx520_1 hx520_2 hx520_3 hHeld ⊢
              refine pure_ (i := 0) (N := some 26) (v := ?_) (a' := ?_) #[true, false, false, false, false, false, false, false, false, false, false, false, false] rfl rfl (any_of HT_.out (by kernel_rfl)) (fun _ _ _ h => h) (Or.inl ⟨by rfl, ?_⟩) ?_ ?_
              rotate_left
              · intro w'
                go_simp
                with_reducible rfl
              rotate_left
              · simp only [Act.put, List.setIfInBounds_toArray, List.set_cons_zero, List.set_cons_succ, i64_w, i32_w]
                rfl
              refine pure_ (i := 1) (N := some 27) (v := ?_) (a' := ?_) #[true, true, false, false, false, false, false, false, false, false, false, false, false] rfl rfl (any_of HT_.out (by kernel_rfl)) (fun _ _ _ h => h) (Or.inl ⟨by rfl, ?_⟩) ?_ ?_
              rotate_left
              · intro w'
                go_simp
                with_reducible rfl
              rotate_left
              · simp only [Act.put, List.setIfInBounds_toArray, List.set_cons_zero, List.set_cons_succ, i64_w, i32_w]
                rfl
              refine pure_ (i := 3) (N := some 29) (v := ?_) (a' := ?_) #[true, true, false, true, false, false, false, false, false, false, false, false, false] rfl rfl (any_of HT_.out (by kernel_rfl)) (fun _ _ _ h => h) (Or.inl ⟨by rfl, ?_⟩) ?_ ?_
              rotate_left
              · intro w'
                go_simp
                with_reducible rfl
              rotate_left
              · simp only [Act.put, List.setIfInBounds_toArray, List.set_cons_zero, List.set_cons_succ, i64_w, i32_w]
                rfl
              refine pure_ (i := 4) (N := some 30) (v := ?_) (a' := ?_) #[true, true, false, true, true, false, false, false, false, false, false, false, false] rfl rfl (any_of HT_.out (by kernel_rfl)) (fun _ _ _ h => h) (Or.inl ⟨by rfl, ?_⟩) ?_ ?_
              rotate_left
              · intro w'
                go_simp
                with_reducible rfl
              rotate_left
              · simp only [Act.put, List.setIfInBounds_toArray, List.set_cons_zero, List.set_cons_succ, i64_w, i32_w]
                rfl
              refine pure_ (i := 5) (N := some 31) (v := ?_) (a' := ?_) #[true, true, false, true, true, true, false, false, false, false, false, false, false] rfl rfl (any_of HT_.out (by kernel_rfl)) (fun _ _ _ h => h) (Or.inl ⟨by rfl, ?_⟩) ?_ ?_
              rotate_left
              · intro w'
                go_simp
                with_reducible rfl
              rotate_left
              · simp only [Act.put, List.setIfInBounds_toArray, List.set_cons_zero, List.set_cons_succ, i64_w, i32_w]
                rfl
              refine take_ (i := 2) (N := some 28) (v := ?_) (a' := ?_) #[true, true, true, true, true, true, false, false, false, false, false, false, false] rfl rfl (take_ofW HT_.out HW_.out (by kernel_rfl)) (fun _ _ _ h => h) (Or.inl ⟨by rfl, ?_⟩) hHeld ?_ ?_
              rotate_left
              · rintro w' ⟨s0, s1, s2, s3, s4, s5, s6, s7⟩
                go_simp
                with_reducible rfl
              rotate_left
              · simp only [Act.put, List.setIfInBounds_toArray, List.set_cons_zero, List.set_cons_succ, i64_w, i32_w]
                rfl
              refine take_ (i := 6) (N := some 32) (v := ?_) (a' := ?_) #[true, true, true, true, true, true, true, false, false, false, false, false, false] rfl rfl (take_ofW HT_.out HW_.out (by kernel_rfl)) (fun _ _ _ h => h) (Or.inl ⟨by rfl, ?_⟩) hHeld ?_ ?_
              rotate_left
              · rintro w' ⟨s0, s1, s2, s3, s4, s5, s6, s7⟩
                go_simp
                with_reducible rfl
              rotate_left
              · simp only [Act.put, List.setIfInBounds_toArray, List.set_cons_zero, List.set_cons_succ, i64_w, i32_w]
                rfl
              refine take_ (i := 8) (N := some 34) (v := ?_) (a' := ?_) #[true, true, true, true, true, true, true, false, true, false, false, false, false] rfl rfl (take_ofW HT_.out HW_.out (by kernel_rfl)) (fun _ _ _ h => h) (Or.inl ⟨by rfl, ?_⟩) hHeld ?_ ?_
              rotate_left
              · rintro w' ⟨s0, s1, s2, s3, s4, s5, s6, s7⟩
                go_simp
                with_reducible rfl
              rotate_left
              · simp only [Act.put, List.setIfInBounds_toArray, List.set_cons_zero, List.set_cons_succ, i64_w, i32_w]
                rfl
              refine one_ (i := 7) (N := some 33) #[true, true, true, true, true, true, true, true, true, false, false, false, false] rfl rfl (one_of HT_.out (by kernel_rfl)) (by decide) (fun K hK => ?_)
              refine goes_ Try.func40 (by kernel_rfl) rfl #[.agg #[.int .i64 x517000_1, .int .i64 x517001_1, .int .i64 x517002_1, .int .i64 x517003_1], .agg #[.int .i64 ((rd_T25 x7_1 x23_1).f0), .int .i64 ((rd_T25 x7_1 x23_1).f1), .int .i64 ((rd_T25 x7_1 x23_1).f2), .int .i64 ((rd_T25 x7_1 x23_1).f3)]] (by rfl) rfl rfl am ?_
              with_reducible refine (grids_times.calls x517000_1 x517001_1 x517002_1 x517003_1 ((rd_T25 x7_1 x23_1).f0) ((rd_T25 x7_1 x23_1).f1) ((rd_T25 x7_1 x23_1).f2) ((rd_T25 x7_1 x23_1).f3) t521 t522 t523 t524 _ A26.out).mono ?_
              rintro e w32 ⟨rfl, hb⟩
              have HS4_ := (hb.cell (World.block_lt_of_cell? _ _ (hHeld.2.2.2.2.1))).trans (hHeld.2.2.2.2.1)
              have HS5_ := (hb.cell (World.block_lt_of_cell? _ _ (hHeld.2.2.2.2.2.1))).trans (hHeld.2.2.2.2.2.1)
              have HS6_ := (hb.cell (World.block_lt_of_cell? _ _ (hHeld.2.2.2.2.2.2.1))).trans (hHeld.2.2.2.2.2.2.1)
              have HS7_ := (hb.cell (World.block_lt_of_cell? _ _ (hHeld.2.2.2.2.2.2.2))).trans (hHeld.2.2.2.2.2.2.2)
              refine ⟨_, rfl, ?_⟩
              have n0_ := Aside0.mk (Kd.R_below (by (with_reducible repeat (first | apply Kd.R_alloc | apply Kd.R_drewN | apply Kd.R_drew)); exact HO_7.out) hb)
              have n1_ := bb BK506 hb
              have n2_ := bb BK515 hb
              have n3_ := bb BK516 hb
              have n4_ := bst HB hb
              clear HO_7
              clear BK506
              clear BK515
              clear BK516
              clear HB
              have HO_7 := n0_
              have BK506 := n1_
              have BK515 := n2_
              have BK516 := n3_
              have HB := n4_
              clear n0_ n1_ n2_ n3_ n4_
              (try clear hb)
              (try clear hb2)
              (try clear hk)
              (try clear hi)
              refine hK.out _ _ ⟨(blk_cell BK516.out 0).trans rfl, (blk_cell BK516.out 1).trans rfl, (blk_cell BK516.out 2).trans rfl, (blk_cell BK516.out 3).trans rfl, HS4_, HS5_, HS6_, HS7_⟩ (fun hHeld => ?_)
              clear hK K
              refine norm_ (a' := ?_) ?_ ?_
              rotate_left
              · show Act.put _ (some 33) _ = _
                simp only [Act.put, List.setIfInBounds_toArray, List.set_cons_zero, List.set_cons_succ, i64_w, i32_w]
                rfl
              refine one_ (i := 9) (N := some 35) #[true, true, true, true, true, true, true, true, true, true, false, false, false] rfl rfl (one_of HT_.out (by kernel_rfl)) (by decide) (fun K hK => ?_)
              refine goes_ Try.func57 (by kernel_rfl) rfl #[.agg #[.int .i64 x517000_1, .int .i64 x517001_1, .int .i64 x517002_1, .int .i64 x517003_1]] (by rfl) rfl rfl am ?_
              with_reducible refine (grids_inverse.calls x517000_1 x517001_1 x517002_1 x517003_1 t525 t526 t527 t528 _ A27.out).mono ?_
              rintro e w33 ⟨rfl, hb⟩
              have HS4_ := (hb.cell (World.block_lt_of_cell? _ _ (hHeld.2.2.2.2.1))).trans (hHeld.2.2.2.2.1)
              have HS5_ := (hb.cell (World.block_lt_of_cell? _ _ (hHeld.2.2.2.2.2.1))).trans (hHeld.2.2.2.2.2.1)
              have HS6_ := (hb.cell (World.block_lt_of_cell? _ _ (hHeld.2.2.2.2.2.2.1))).trans (hHeld.2.2.2.2.2.2.1)
              have HS7_ := (hb.cell (World.block_lt_of_cell? _ _ (hHeld.2.2.2.2.2.2.2))).trans (hHeld.2.2.2.2.2.2.2)
              refine ⟨_, rfl, ?_⟩
              have n0_ := Aside0.mk (Kd.R_below (by (with_reducible repeat (first | apply Kd.R_alloc | apply Kd.R_drewN | apply Kd.R_drew)); exact HO_7.out) hb)
              have n1_ := bb BK506 hb
              have n2_ := bb BK515 hb
              have n3_ := bb BK516 hb
              have n4_ := bst HB hb
              clear HO_7
              clear BK506
              clear BK515
              clear BK516
              clear HB
              have HO_7 := n0_
              have BK506 := n1_
              have BK515 := n2_
              have BK516 := n3_
              have HB := n4_
              clear n0_ n1_ n2_ n3_ n4_
              (try clear hb)
              (try clear hb2)
              (try clear hk)
              (try clear hi)
              refine hK.out _ _ ⟨(blk_cell BK516.out 0).trans rfl, (blk_cell BK516.out 1).trans rfl, (blk_cell BK516.out 2).trans rfl, (blk_cell BK516.out 3).trans rfl, HS4_, HS5_, HS6_, HS7_⟩ (fun hHeld => ?_)
              clear hK K
              refine norm_ (a' := ?_) ?_ ?_
              rotate_left
              · show Act.put _ (some 35) _ = _
                simp only [Act.put, List.setIfInBounds_toArray, List.set_cons_zero, List.set_cons_succ, i64_w, i32_w]
                rfl
              refine one_ (i := 10) (N := some 36) #[true, true, true, true, true, true, true, true, true, true, true, false, false] rfl rfl (one_of HT_.out (by kernel_rfl)) (by decide) (fun K hK => ?_)
              refine goes_ Try.func40 (by kernel_rfl) rfl #[.agg #[.int .i64 t521, .int .i64 t522, .int .i64 t523, .int .i64 t524], .agg #[.int .i64 t525, .int .i64 t526, .int .i64 t527, .int .i64 t528]] (by rfl) rfl rfl am ?_
              with_reducible refine (grids_times.calls t521 t522 t523 t524 t525 t526 t527 t528 t529 t530 t531 t532 _ A28.out).mono ?_
              rintro e w34 ⟨rfl, hb⟩
              have HS4_ := (hb.cell (World.block_lt_of_cell? _ _ (hHeld.2.2.2.2.1))).trans (hHeld.2.2.2.2.1)
              have HS5_ := (hb.cell (World.block_lt_of_cell? _ _ (hHeld.2.2.2.2.2.1))).trans (hHeld.2.2.2.2.2.1)
              have HS6_ := (hb.cell (World.block_lt_of_cell? _ _ (hHeld.2.2.2.2.2.2.1))).trans (hHeld.2.2.2.2.2.2.1)
              have HS7_ := (hb.cell (World.block_lt_of_cell? _ _ (hHeld.2.2.2.2.2.2.2))).trans (hHeld.2.2.2.2.2.2.2)
              refine ⟨_, rfl, ?_⟩
              have n0_ := Aside0.mk (Kd.R_below (by (with_reducible repeat (first | apply Kd.R_alloc | apply Kd.R_drewN | apply Kd.R_drew)); exact HO_7.out) hb)
              have n1_ := bb BK506 hb
              have n2_ := bb BK515 hb
              have n3_ := bb BK516 hb
              have n4_ := bst HB hb
              clear HO_7
              clear BK506
              clear BK515
              clear BK516
              clear HB
              have HO_7 := n0_
              have BK506 := n1_
              have BK515 := n2_
              have BK516 := n3_
              have HB := n4_
              clear n0_ n1_ n2_ n3_ n4_
              (try clear hb)
              (try clear hb2)
              (try clear hk)
              (try clear hi)
              have p29 : 0 ≤ (x23_1 : Int) := of_decide_eq_true (by first | (with_reducible assumption) | assumption)
              have q29 : (x23_1 : Int) < ((x7_1.length : Int) : Int) := of_decide_eq_true (by first | (with_reducible assumption) | assumption)
              obtain ⟨go29, co29, eo29, gb29, gl29, cl29, HG29⟩ := Kd.R_form HO_7.out (by omega)
              (first | cases eo29 | (injection eo29 with ea_ en_ ec_; (first | subst ea_ | (injection ea_ with ea_; subst ea_)); subst ec_; clear en_))
              have GB29 := Aside0.mk gb29
              have GG29 := Aside0.mk HG29
              clear gb29 gl29 HG29
              (first | simp only [add_plain] at hx520_0 | skip)
              (first | simp only [add_plain] at hx520_1 | skip)
              (first | simp only [add_plain] at hx520_2 | skip)
              (first | simp only [add_plain] at hx520_3 | skip)
              obtain ⟨ce29, hcl29, hM29, hcc29, hfr29⟩ := Kd.R_elem HO_7.out z25 (x23_1 : Int) p29 q29
              obtain rfl := k25_openM hM29
              have hx29_0 : World.cell? _ ⟨go29, (x23_1 : Int).toNat * 4, none⟩ = some (.int .i64 ((rd_T25 x7_1 x23_1).f0)) := hcc29 0 _ rfl
              have hx29_1 : World.cell? _ ⟨go29, (x23_1 : Int).toNat * 4 + 1, none⟩ = some (.int .i64 ((rd_T25 x7_1 x23_1).f1)) := hcc29 1 _ rfl
              have hx29_2 : World.cell? _ ⟨go29, (x23_1 : Int).toNat * 4 + 2, none⟩ = some (.int .i64 ((rd_T25 x7_1 x23_1).f2)) := hcc29 2 _ rfl
              have hx29_3 : World.cell? _ ⟨go29, (x23_1 : Int).toNat * 4 + 3, none⟩ = some (.int .i64 ((rd_T25 x7_1 x23_1).f3)) := hcc29 3 _ rfl
              have hf29_0 : World.frozen? _ ⟨go29, (x23_1 : Int).toNat * 4, none⟩ = false := hfr29 0
              have hf29_1 : World.frozen? _ ⟨go29, (x23_1 : Int).toNat * 4 + 1, none⟩ = false := hfr29 1
              have hf29_2 : World.frozen? _ ⟨go29, (x23_1 : Int).toNat * 4 + 2, none⟩ = false := hfr29 2
              have hf29_3 : World.frozen? _ ⟨go29, (x23_1 : Int).toNat * 4 + 3, none⟩ = false := hfr29 3
              (try rw [World.frozen?_setCells] at hf29_0)
              (try rw [World.frozen?_setCells] at hf29_1)
              (try rw [World.frozen?_setCells] at hf29_2)
              (try rw [World.frozen?_setCells] at hf29_3)
              clear hcl29 hcc29 hfr29 hM29
              replace p29 := eq_true p29
              replace q29 := eq_true q29
              obtain ⟨ce35, hcl35, hM35, hcc35, hfr35⟩ := Kd.R_elem HO_7.out z25 (x23_1 : Int) (of_decide_eq_true (by first | (with_reducible assumption) | assumption)) (by have h_ : (x23_1 : Int) < ((x7_1.length : Int) : Int) := of_decide_eq_true (by first | (with_reducible assumption) | assumption); first | exact h_ | (have e_ := (Kd.R_reads' HO_7.out).1; omega) | simpa using h_)
              obtain rfl := k25_openM hM35
              have HP35 := (Kd.R_seg HO_7.out (x23_1 : Int) (of_decide_eq_true (by first | (with_reducible assumption) | assumption)) (by have h_ : (x23_1 : Int) < ((x7_1.length : Int) : Int) := of_decide_eq_true (by first | (with_reducible assumption) | assumption); first | exact h_ | (have e_ := (Kd.R_reads' HO_7.out).1; omega) | simpa using h_) (seg := [.int .i64 t529, .int .i64 t530, .int .i64 t531, .int .i64 t532]) (j := 0) hcl35 hcc35 (show 4 ≤ 4 from by decide) (x' := (⟨t529, t530, t531, t532⟩ : S25)) (k25_mkM _ _ _ (⟨t529, t530, t531, t532⟩ : S25) ) (fun _ hk => hk)).1
              rw [← Ny533.out] at HP35
              have HQ35 := Aside0.mk HP35
              clear hcl35 hcc35 hfr35 hM35 HP35
              refine hK.out _ _ ⟨(blk_cell BK516.out 0).trans rfl, (blk_cell BK516.out 1).trans rfl, (blk_cell BK516.out 2).trans rfl, (blk_cell BK516.out 3).trans rfl, HS4_, HS5_, HS6_, HS7_⟩ (fun hHeld => ?_)
              clear hK K
              refine norm_ (a' := ?_) ?_ ?_
              rotate_left
              · show Act.put _ (some 36) _ = _
                simp only [Act.put, List.setIfInBounds_toArray, List.set_cons_zero, List.set_cons_succ, i64_w, i32_w]
                rfl
              refine pure_ (i := 11) (N := some 37) (v := ?_) (a' := ?_) #[true, true, true, true, true, true, true, true, true, true, true, true, false] rfl rfl (any_of HT_.out (by kernel_rfl)) (fun _ _ _ h => h) (Or.inl ⟨by rfl, ?_⟩) ?_ ?_
              rotate_left
              · intro w'
                go_simp
                with_reducible rfl
              rotate_left
              · simp only [Act.put, List.setIfInBounds_toArray, List.set_cons_zero, List.set_cons_succ, i64_w, i32_w]
                rfl
              refine last_ (i := 12) (N := none) #[true, true, true, true, true, true, true, true, true, true, true, true, true] rfl rfl (one_of HT_.out (by kernel_rfl)) (by decide) (fun K hK => ?_)
              refine skip_ (w1 := ?_) (by rfl) rfl ?_ ?_
              rotate_left
              · go_simp
                rfl
              refine hK.out _ _ ?_
              clear hK K
              refine done_ (done_of HT_.out (by kernel_rfl)) ?_
              try go_wp2
              (try simp only [← hl7_1])
              go_roundg k1
              case measure => have := HK1.out; omega
              case rel => exact ⟨(y533), (z534), (x517000_1), (x517001_1), (x517002_1), (x517003_1), (by first | rfl | (simp; done) | (simp [*]; done)), H', ⟨by have := HK1.out; omega⟩, ⟨by (try simp only [hl7_1]); (with_reducible repeat (first | apply Kd.R_alloc | apply Kd.R_drewN | apply Kd.R_drew)); exact HQ35.out⟩, ⟨by (try simp only [hl7_1]); (with_reducible repeat (first | refine blk_drewN ?_ _ | refine blk_drew ?_ | refine blk_alloc ?_ _)); refine blk_far ?_ (by have h_ := Kd.R_ne HO_7.out BK506.out (by decide); intro e_; exact h_ (by rw [e_]; rfl)) _; (with_reducible repeat (first | refine blk_drewN ?_ _ | refine blk_drew ?_ | refine blk_alloc ?_ _)); refine blk_far ?_ (by have h_ := Kd.R_ne HO_7.out BK506.out (by decide); intro e_; exact h_ (by rw [e_]; rfl)) _; (with_reducible repeat (first | refine blk_drewN ?_ _ | refine blk_drew ?_ | refine blk_alloc ?_ _)); refine blk_far ?_ (by have h_ := Kd.R_ne HO_7.out BK506.out (by decide); intro e_; exact h_ (by rw [e_]; rfl)) _; (with_reducible repeat (first | refine blk_drewN ?_ _ | refine blk_drew ?_ | refine blk_alloc ?_ _)); refine blk_far ?_ (by have h_ := Kd.R_ne HO_7.out BK506.out (by decide); intro e_; exact h_ (by rw [e_]; rfl)) _; (with_reducible repeat (first | refine blk_drewN ?_ _ | refine blk_drew ?_ | refine blk_alloc ?_ _)); exact BK506.out⟩, ⟨by (try simp only [hl7_1]); (with_reducible repeat (first | refine blk_drewN ?_ _ | refine blk_drew ?_ | refine blk_alloc ?_ _)); refine blk_far ?_ (by have h_ := Kd.R_ne HO_7.out BK515.out (by decide); intro e_; exact h_ (by rw [e_]; rfl)) _; (with_reducible repeat (first | refine blk_drewN ?_ _ | refine blk_drew ?_ | refine blk_alloc ?_ _)); refine blk_far ?_ (by have h_ := Kd.R_ne HO_7.out BK515.out (by decide); intro e_; exact h_ (by rw [e_]; rfl)) _; (with_reducible repeat (first | refine blk_drewN ?_ _ | refine blk_drew ?_ | refine blk_alloc ?_ _)); refine blk_far ?_ (by have h_ := Kd.R_ne HO_7.out BK515.out (by decide); intro e_; exact h_ (by rw [e_]; rfl)) _; (with_reducible repeat (first | refine blk_drewN ?_ _ | refine blk_drew ?_ | refine blk_alloc ?_ _)); refine blk_far ?_ (by have h_ := Kd.R_ne HO_7.out BK515.out (by decide); intro e_; exact h_ (by rw [e_]; rfl)) _; (with_reducible repeat (first | refine blk_drewN ?_ _ | refine blk_drew ?_ | refine blk_alloc ?_ _)); exact BK515.out⟩, ⟨by (try simp only [hl7_1]); (with_reducible repeat (first | refine blk_drewN ?_ _ | refine blk_drew ?_ | refine blk_alloc ?_ _)); refine blk_far ?_ (by have h_ := Kd.R_away HO_7.out (fun _ hk => hk); intro e_; exact h_ (by rw [e_]; rfl)) _; (with_reducible repeat (first | refine blk_drewN ?_ _ | refine blk_drew ?_ | refine blk_alloc ?_ _)); refine blk_far ?_ (by have h_ := Kd.R_away HO_7.out (fun _ hk => hk); intro e_; exact h_ (by rw [e_]; rfl)) _; (with_reducible repeat (first | refine blk_drewN ?_ _ | refine blk_drew ?_ | refine blk_alloc ?_ _)); refine blk_far ?_ (by have h_ := Kd.R_away HO_7.out (fun _ hk => hk); intro e_; exact h_ (by rw [e_]; rfl)) _; (with_reducible repeat (first | refine blk_drewN ?_ _ | refine blk_drew ?_ | refine blk_alloc ?_ _)); refine blk_far ?_ (by have h_ := Kd.R_away HO_7.out (fun _ hk => hk); intro e_; exact h_ (by rw [e_]; rfl)) _; (with_reducible repeat (first | refine blk_drewN ?_ _ | refine blk_drew ?_ | refine blk_alloc ?_ _)); exact BK516.out⟩, ⟨by repeat (first | (with_reducible first | exact HB.out | apply below_alloc | apply pw_below_drewN | apply below_drew1 | refine below_set ?_ GB29.out | refine below_set ?_ GB29.out | refine below_set ?_ GB29.out | refine below_set ?_ GB29.out | refine below_set ?_ GE506.out | refine below_set ?_ GE515.out | refine below_set ?_ GE516.out) | exact HB.out)⟩⟩
            · rw [if_neg c25] at H
              exact absurd H (by simp)
          · rw [if_neg c24] at H
            exact absurd H (by simp)
        · rw [if_neg c23] at H
          have c23b0 : decide (x23_1 < (t517.length : Int)) = false := decide_eq_false c23
          (try (have c23h0 := c23b0; simp only [hl7_1] at c23h0))
          clear c23
          replace H := Option.bind_eq_some_iff.mp H
          obtain ⟨t535, A360, H⟩ := H
          replace H : (some (t535, 0)) = some (r1, r2) := H
          have A36 := Aside0.mk A360
          clear A360
          simp only [Option.some.injEq, Prod.mk.injEq] at H
          obtain ⟨rfl, rfl⟩ := H
          go_wp2_with (first | ((with_reducible refine gate_callee (f := 58) rfl ?_); refine goesL_ (some 40) rfl rfl Try.func58 (by kernel_rfl) rfl #[.slice Ao22 x7_1.length co22, .func (.func 42) #[] #[]] rfl am ?_; (with_reducible refine (api_GrMatrix_58.calls k1 (fun k_ => some k_ = (.slice Ao22 x7_1.length co22 : Value).ownBlock) (.slice Ao22 x7_1.length co22) x7_1  t535 w _ ?side1 ?side2 A36.out).mono ?_); (case side1 => repeat (first | (with_reducible first | exact HB.out | apply below_alloc | apply pw_below_drewN | apply below_drew1 | refine below_set ?_ GE506.out | refine below_set ?_ GE515.out | refine below_set ?_ GE516.out) | exact HB.out)); (case side2 => exact Kd.R_tight rfl HO_7.out); rintro e w37 ⟨rfl, hy0, hb, hkp⟩; refine ⟨_, rfl, ?_⟩; have n0_ := Aside0.mk (Kd.R_reok rfl hy0 (fun k_ e_ => HO_7.out.1 k_ e_)); have n1_ := Aside0.mk (blk_kept (pk BK506) hkp (fun hs_ => (fun e_ => (Kd.R_ne HO_7.out BK506.out (by decide)) e_) hs_)); have n2_ := Aside0.mk (blk_kept (pk BK515) hkp (fun hs_ => (fun e_ => (Kd.R_ne HO_7.out BK515.out (by decide)) e_) hs_)); have n3_ := Aside0.mk (blk_kept (pk BK516) hkp (fun hs_ => (fun e_ => (Kd.R_away HO_7.out (fun _ hk => hk)) e_) hs_)); have n4_ := Aside0.mk (hb); clear HO_7; clear BK506; clear BK515; clear BK516; clear HB; have HO_7 := n0_; have BK506 := n1_; have BK515 := n2_; have BK516 := n3_; have HB := n4_; clear n0_ n1_ n2_ n3_ n4_; (try clear hb); (try clear hkp); (try clear hy0)))
          go_ret2
          exact ⟨_, by first | rfl | (simp [errW_none, errW_some] <;> rfl) | (simp [*, errW_none, errW_some] <;> rfl), by (with_reducible repeat (first | apply Kd.R_alloc | apply Kd.R_drewN | apply Kd.R_drew)); exact Kd.R_mono HO_7.out (fun _ hk => trivial), by repeat (first | (with_reducible first | exact HB.out | apply below_alloc | apply pw_below_drewN | apply below_drew1 | refine below_set ?_ GE506.out | refine below_set ?_ GE515.out | refine below_set ?_ GE516.out) | exact HB.out)⟩
  · rw [if_neg c3] at H
    have c3b0 : (t507 == 0) = false := beq_eq_false_iff_ne.mpr c3
    have c3b1 : (t507 != 0) = true := bne_iff_ne.mpr c3
    simp only [Option.some.injEq, Prod.mk.injEq] at H
    obtain ⟨rfl, rfl⟩ := H
    go_enter Try.func22, Try.ntmps22
    go_wp2_with (first | ((with_reducible refine gate_dst (N := 1) rfl ?_); refine box_event ?hg (N := 1) ?hd (cs := #[.int .i64 a0_0, .int .i64 a0_1, .int .i64 a0_2]) (t := 23) ?hr ?_; (case hd => rfl); (case hg => rfl); (case hr => first | (go_simp; done) | (go_simp; rfl)); intro gb506 hg w38 hbox hb; have BK506 := Aside0.mk (hbox); have GW506 := Aside0.mk ((by rw [hg]; exact (below_size (bnow HB)) : w.heap.size ≤ gb506)); have GE506 := Aside0.mk ((by rw [hg]; exact (below_size (bnow HB)) : w.heap.size ≤ gb506)); replace HB := bst HB hb; clear hb hbox hg; have hcz39_0 : w38.cell? ⟨gb506, 0, none⟩ = some (.int .i64 a0_0) := (blk_cell BK506.out 0).trans rfl; have hcz39_1 : w38.cell? ⟨gb506, 1, none⟩ = some (.int .i64 a0_1) := (blk_cell BK506.out 1).trans rfl; have hcz39_2 : w38.cell? ⟨gb506, 2, none⟩ = some (.int .i64 a0_2) := (blk_cell BK506.out 2).trans rfl; have hfz39_0 := blk_frozen BK506.out 0; have hfz39_1 := blk_frozen BK506.out 1; have hfz39_2 := blk_frozen BK506.out 2) | ((with_reducible refine gate_callee (f := 14) rfl ?_); refine goesL_ (some 10) rfl rfl Try.func14 (by kernel_rfl) rfl #[.agg #[.int .i64 a0_0, .int .i64 a0_1, .int .i64 a0_2]] rfl am ?_; (with_reducible refine (grids_Check.calls k a0_0 a0_1 a0_2 t507 _ A2.out).mono ?_); rintro e w40 ⟨rfl, hb⟩; refine ⟨_, rfl, ?_⟩; replace BK506 := bb BK506 hb; replace HB := bst HB hb; clear hb))
    go_ret2
    exact ⟨_, by first | rfl | (simp [errW_none, errW_some] <;> rfl) | (simp [*, errW_none, errW_some] <;> rfl), by first | exact Kd.R_nil _ _ _ _ _ | exact Kd.N_nil _ _ _ _ _ | exact Kd.V_nil _ _ _ _ _ | exact Kd.Q_nil _ _ _ _ _ | exact Kd.S_nil _ _ _ _ _, by repeat (first | (with_reducible first | exact HB.out | apply below_alloc | apply pw_below_drewN | apply below_drew1 | refine below_set ?_ GE506.out) | exact HB.out)⟩
end
section
/-! ### grids_matrix: function 59 -/
def grids_matrix.f (a0_0 : Int) (a0_1 : Int) (a0_2 : Int) (a0_3 : Int) : Option (Bool) := (grids_outside.f a0_0 10000).bind fun t537 => (if t537 = true then (some false) else ((grids_outside.f a0_1 10000).bind fun t538 => (if t538 = true then (some false) else ((grids_outside.f a0_2 10000).bind fun t539 => (if t539 = true then (some false) else ((grids_outside.f a0_3 10000).bind fun t540 => (some (!t540))))))))
set_option maxHeartbeats 8000000 in
set_option maxRecDepth 100000 in
theorem grids_matrix.calls (a0_0 : Int) (a0_1 : Int) (a0_2 : Int) (a0_3 : Int) (r : Bool) (w : World) (h : grids_matrix.f a0_0 a0_1 a0_2 a0_3 = some r) :
    Calls Try.prog 59 #[.agg #[.int .i64 a0_0, .int .i64 a0_1, .int .i64 a0_2, .int .i64 a0_3]] w fun e w' => e = .returned (.bool r) ∧ Below w.heap.size w w' := by
  have hu25 := Try.underlying25
  have HB := Aside0.mk (Below.refl w.heap.size w)
  have H : ((grids_outside.f a0_0 10000).bind fun t537 => (if t537 = true then (some false) else ((grids_outside.f a0_1 10000).bind fun t538 => (if t538 = true then (some false) else ((grids_outside.f a0_2 10000).bind fun t539 => (if t539 = true then (some false) else ((grids_outside.f a0_3 10000).bind fun t540 => (some (!t540))))))))) = some r := h
  clear h
  replace H := Option.bind_eq_some_iff.mp H
  obtain ⟨t537, A20, H⟩ := H
  replace H : (if t537 = true then (some false) else ((grids_outside.f a0_1 10000).bind fun t538 => (if t538 = true then (some false) else ((grids_outside.f a0_2 10000).bind fun t539 => (if t539 = true then (some false) else ((grids_outside.f a0_3 10000).bind fun t540 => (some (!t540)))))))) = some r := H
  have A2 := Aside0.mk A20
  clear A20
  by_cases c3 : t537 = true
  · subst c3
    have H1 : (some false) = some r := by rw [if_pos rfl] at H; exact H
    clear H
    have H := H1
    clear H1
    obtain rfl := Option.some.inj H
    go_enter Try.func59, Try.ntmps59
    go_wp2_with (first | ((with_reducible refine gate_dst (N := 1) rfl ?_); refine box_event ?hg (N := 1) ?hd (cs := #[.int .i64 a0_0, .int .i64 a0_1, .int .i64 a0_2, .int .i64 a0_3]) (t := 25) ?hr ?_; (case hd => rfl); (case hg => rfl); (case hr => first | (go_simp; done) | (go_simp; rfl)); intro gb536 hg w4 hbox hb; have BK536 := Aside0.mk (hbox); have GW536 := Aside0.mk ((by rw [hg]; exact (below_size (bnow HB)) : w.heap.size ≤ gb536)); have GE536 := Aside0.mk ((by rw [hg]; exact (below_size (bnow HB)) : w.heap.size ≤ gb536)); replace HB := bst HB hb; clear hb hbox hg; have hcz5_0 : w4.cell? ⟨gb536, 0, none⟩ = some (.int .i64 a0_0) := (blk_cell BK536.out 0).trans rfl; have hcz5_1 : w4.cell? ⟨gb536, 1, none⟩ = some (.int .i64 a0_1) := (blk_cell BK536.out 1).trans rfl; have hcz5_2 : w4.cell? ⟨gb536, 2, none⟩ = some (.int .i64 a0_2) := (blk_cell BK536.out 2).trans rfl; have hcz5_3 : w4.cell? ⟨gb536, 3, none⟩ = some (.int .i64 a0_3) := (blk_cell BK536.out 3).trans rfl; have hfz5_0 := blk_frozen BK536.out 0; have hfz5_1 := blk_frozen BK536.out 1; have hfz5_2 := blk_frozen BK536.out 2; have hfz5_3 := blk_frozen BK536.out 3) | ((with_reducible refine gate_callee (f := 46) rfl ?_); refine goesL_ (some 5) rfl rfl Try.func46 (by kernel_rfl) rfl #[.int .i64 a0_0, .int .i64 10000] rfl am ?_; (with_reducible refine (grids_outside.calls a0_0 10000 true _ A2.out).mono ?_); rintro e w' ⟨rfl, ⟨nd, rfl⟩⟩; refine ⟨_, rfl, ?_⟩))
    go_ret
    exact ⟨by first | rfl | (simp [errW_none, errW_some] <;> rfl) | (simp [*, errW_none, errW_some] <;> rfl), by repeat (first | (with_reducible first | exact HB.out | apply below_alloc | apply pw_below_drewN | apply below_drew1 | refine below_set ?_ GE536.out) | exact HB.out)⟩
  · replace c3 := Bool.eq_false_iff.mpr c3
    subst c3
    have H1 : ((grids_outside.f a0_1 10000).bind fun t538 => (if t538 = true then (some false) else ((grids_outside.f a0_2 10000).bind fun t539 => (if t539 = true then (some false) else ((grids_outside.f a0_3 10000).bind fun t540 => (some (!t540))))))) = some r := by rw [if_neg (show ¬ (false = true) by decide)] at H; exact H
    clear H
    have H := H1
    clear H1
    replace H := Option.bind_eq_some_iff.mp H
    obtain ⟨t538, A60, H⟩ := H
    replace H : (if t538 = true then (some false) else ((grids_outside.f a0_2 10000).bind fun t539 => (if t539 = true then (some false) else ((grids_outside.f a0_3 10000).bind fun t540 => (some (!t540)))))) = some r := H
    have A6 := Aside0.mk A60
    clear A60
    by_cases c7 : t538 = true
    · subst c7
      have H1 : (some false) = some r := by rw [if_pos rfl] at H; exact H
      clear H
      have H := H1
      clear H1
      obtain rfl := Option.some.inj H
      go_enter Try.func59, Try.ntmps59
      go_wp2_with (first | ((with_reducible refine gate_dst (N := 1) rfl ?_); refine box_event ?hg (N := 1) ?hd (cs := #[.int .i64 a0_0, .int .i64 a0_1, .int .i64 a0_2, .int .i64 a0_3]) (t := 25) ?hr ?_; (case hd => rfl); (case hg => rfl); (case hr => first | (go_simp; done) | (go_simp; rfl)); intro gb536 hg w8 hbox hb; have BK536 := Aside0.mk (hbox); have GW536 := Aside0.mk ((by rw [hg]; exact (below_size (bnow HB)) : w.heap.size ≤ gb536)); have GE536 := Aside0.mk ((by rw [hg]; exact (below_size (bnow HB)) : w.heap.size ≤ gb536)); replace HB := bst HB hb; clear hb hbox hg; have hcz9_0 : w8.cell? ⟨gb536, 0, none⟩ = some (.int .i64 a0_0) := (blk_cell BK536.out 0).trans rfl; have hcz9_1 : w8.cell? ⟨gb536, 1, none⟩ = some (.int .i64 a0_1) := (blk_cell BK536.out 1).trans rfl; have hcz9_2 : w8.cell? ⟨gb536, 2, none⟩ = some (.int .i64 a0_2) := (blk_cell BK536.out 2).trans rfl; have hcz9_3 : w8.cell? ⟨gb536, 3, none⟩ = some (.int .i64 a0_3) := (blk_cell BK536.out 3).trans rfl; have hfz9_0 := blk_frozen BK536.out 0; have hfz9_1 := blk_frozen BK536.out 1; have hfz9_2 := blk_frozen BK536.out 2; have hfz9_3 := blk_frozen BK536.out 3) | ((with_reducible refine gate_callee (f := 46) rfl ?_); refine goesL_ (some 5) rfl rfl Try.func46 (by kernel_rfl) rfl #[.int .i64 a0_0, .int .i64 10000] rfl am ?_; (with_reducible refine (grids_outside.calls a0_0 10000 false _ A2.out).mono ?_); rintro e w' ⟨rfl, ⟨nd, rfl⟩⟩; refine ⟨_, rfl, ?_⟩) | (go_at_call 46; (with_reducible refine (grids_outside.calls a0_1 10000 true _ A6.out).mono ?_); rintro e w' ⟨rfl, ⟨nd, rfl⟩⟩))
      go_ret
      exact ⟨by first | rfl | (simp [errW_none, errW_some] <;> rfl) | (simp [*, errW_none, errW_some] <;> rfl), by repeat (first | (with_reducible first | exact HB.out | apply below_alloc | apply pw_below_drewN | apply below_drew1 | refine below_set ?_ GE536.out) | exact HB.out)⟩
    · replace c7 := Bool.eq_false_iff.mpr c7
      subst c7
      have H1 : ((grids_outside.f a0_2 10000).bind fun t539 => (if t539 = true then (some false) else ((grids_outside.f a0_3 10000).bind fun t540 => (some (!t540))))) = some r := by rw [if_neg (show ¬ (false = true) by decide)] at H; exact H
      clear H
      have H := H1
      clear H1
      replace H := Option.bind_eq_some_iff.mp H
      obtain ⟨t539, A100, H⟩ := H
      replace H : (if t539 = true then (some false) else ((grids_outside.f a0_3 10000).bind fun t540 => (some (!t540)))) = some r := H
      have A10 := Aside0.mk A100
      clear A100
      by_cases c11 : t539 = true
      · subst c11
        have H1 : (some false) = some r := by rw [if_pos rfl] at H; exact H
        clear H
        have H := H1
        clear H1
        obtain rfl := Option.some.inj H
        go_enter Try.func59, Try.ntmps59
        go_wp2_with (first | ((with_reducible refine gate_dst (N := 1) rfl ?_); refine box_event ?hg (N := 1) ?hd (cs := #[.int .i64 a0_0, .int .i64 a0_1, .int .i64 a0_2, .int .i64 a0_3]) (t := 25) ?hr ?_; (case hd => rfl); (case hg => rfl); (case hr => first | (go_simp; done) | (go_simp; rfl)); intro gb536 hg w12 hbox hb; have BK536 := Aside0.mk (hbox); have GW536 := Aside0.mk ((by rw [hg]; exact (below_size (bnow HB)) : w.heap.size ≤ gb536)); have GE536 := Aside0.mk ((by rw [hg]; exact (below_size (bnow HB)) : w.heap.size ≤ gb536)); replace HB := bst HB hb; clear hb hbox hg; have hcz13_0 : w12.cell? ⟨gb536, 0, none⟩ = some (.int .i64 a0_0) := (blk_cell BK536.out 0).trans rfl; have hcz13_1 : w12.cell? ⟨gb536, 1, none⟩ = some (.int .i64 a0_1) := (blk_cell BK536.out 1).trans rfl; have hcz13_2 : w12.cell? ⟨gb536, 2, none⟩ = some (.int .i64 a0_2) := (blk_cell BK536.out 2).trans rfl; have hcz13_3 : w12.cell? ⟨gb536, 3, none⟩ = some (.int .i64 a0_3) := (blk_cell BK536.out 3).trans rfl; have hfz13_0 := blk_frozen BK536.out 0; have hfz13_1 := blk_frozen BK536.out 1; have hfz13_2 := blk_frozen BK536.out 2; have hfz13_3 := blk_frozen BK536.out 3) | ((with_reducible refine gate_callee (f := 46) rfl ?_); refine goesL_ (some 5) rfl rfl Try.func46 (by kernel_rfl) rfl #[.int .i64 a0_0, .int .i64 10000] rfl am ?_; (with_reducible refine (grids_outside.calls a0_0 10000 false _ A2.out).mono ?_); rintro e w' ⟨rfl, ⟨nd, rfl⟩⟩; refine ⟨_, rfl, ?_⟩) | (go_at_call 46; (with_reducible refine (grids_outside.calls a0_1 10000 false _ A6.out).mono ?_); rintro e w' ⟨rfl, ⟨nd, rfl⟩⟩) | (go_at_call 46; (with_reducible refine (grids_outside.calls a0_2 10000 true _ A10.out).mono ?_); rintro e w' ⟨rfl, ⟨nd, rfl⟩⟩))
        go_ret
        exact ⟨by first | rfl | (simp [errW_none, errW_some] <;> rfl) | (simp [*, errW_none, errW_some] <;> rfl), by repeat (first | (with_reducible first | exact HB.out | apply below_alloc | apply pw_below_drewN | apply below_drew1 | refine below_set ?_ GE536.out) | exact HB.out)⟩
      · replace c11 := Bool.eq_false_iff.mpr c11
        subst c11
        have H1 : ((grids_outside.f a0_3 10000).bind fun t540 => (some (!t540))) = some r := by rw [if_neg (show ¬ (false = true) by decide)] at H; exact H
        clear H
        have H := H1
        clear H1
        replace H := Option.bind_eq_some_iff.mp H
        obtain ⟨t540, A140, H⟩ := H
        replace H : (some (!t540)) = some r := H
        have A14 := Aside0.mk A140
        clear A140
        obtain rfl := Option.some.inj H
        go_enter Try.func59, Try.ntmps59
        go_wp2_with (first | ((with_reducible refine gate_dst (N := 1) rfl ?_); refine box_event ?hg (N := 1) ?hd (cs := #[.int .i64 a0_0, .int .i64 a0_1, .int .i64 a0_2, .int .i64 a0_3]) (t := 25) ?hr ?_; (case hd => rfl); (case hg => rfl); (case hr => first | (go_simp; done) | (go_simp; rfl)); intro gb536 hg w15 hbox hb; have BK536 := Aside0.mk (hbox); have GW536 := Aside0.mk ((by rw [hg]; exact (below_size (bnow HB)) : w.heap.size ≤ gb536)); have GE536 := Aside0.mk ((by rw [hg]; exact (below_size (bnow HB)) : w.heap.size ≤ gb536)); replace HB := bst HB hb; clear hb hbox hg; have hcz16_0 : w15.cell? ⟨gb536, 0, none⟩ = some (.int .i64 a0_0) := (blk_cell BK536.out 0).trans rfl; have hcz16_1 : w15.cell? ⟨gb536, 1, none⟩ = some (.int .i64 a0_1) := (blk_cell BK536.out 1).trans rfl; have hcz16_2 : w15.cell? ⟨gb536, 2, none⟩ = some (.int .i64 a0_2) := (blk_cell BK536.out 2).trans rfl; have hcz16_3 : w15.cell? ⟨gb536, 3, none⟩ = some (.int .i64 a0_3) := (blk_cell BK536.out 3).trans rfl; have hfz16_0 := blk_frozen BK536.out 0; have hfz16_1 := blk_frozen BK536.out 1; have hfz16_2 := blk_frozen BK536.out 2; have hfz16_3 := blk_frozen BK536.out 3) | ((with_reducible refine gate_callee (f := 46) rfl ?_); refine goesL_ (some 5) rfl rfl Try.func46 (by kernel_rfl) rfl #[.int .i64 a0_0, .int .i64 10000] rfl am ?_; (with_reducible refine (grids_outside.calls a0_0 10000 false _ A2.out).mono ?_); rintro e w' ⟨rfl, ⟨nd, rfl⟩⟩; refine ⟨_, rfl, ?_⟩) | (go_at_call 46; (with_reducible refine (grids_outside.calls a0_1 10000 false _ A6.out).mono ?_); rintro e w' ⟨rfl, ⟨nd, rfl⟩⟩) | (go_at_call 46; (with_reducible refine (grids_outside.calls a0_2 10000 false _ A10.out).mono ?_); rintro e w' ⟨rfl, ⟨nd, rfl⟩⟩) | (go_at_call 46; (with_reducible refine (grids_outside.calls a0_3 10000 t540 _ A14.out).mono ?_); rintro e w' ⟨rfl, ⟨nd, rfl⟩⟩))
        go_ret
        exact ⟨by first | rfl | (simp [errW_none, errW_some] <;> rfl) | (simp [*, errW_none, errW_some] <;> rfl), by repeat (first | (with_reducible first | exact HB.out | apply below_alloc | apply pw_below_drewN | apply below_drew1 | refine below_set ?_ GE536.out) | exact HB.out)⟩
end
section
/-! ### grids_move: function 62 -/
def grids_move.f (k : Nat) (a0_0 : Int) (a0_1 : Int) (a0_2 : Int) (a0_3 : Int) (a0_4 : Int) (a0_5 : Int) : Option (Bool) := (grids_matrix.f a0_0 a0_1 a0_2 a0_3).bind fun t542 => (if t542 = true then ((grids_point.f k (([(⟨a0_4, a0_5⟩ : S37)] : List (S37)))).bind fun t546 => (some t546)) else (some false))
theorem grids_move.mono : ∀ a0 a1 a2 a3 a4 a5 k, LeO (grids_move.f k a0 a1 a2 a3 a4 a5) (grids_move.f (k + 1) a0 a1 a2 a3 a4 a5) := by
  intro a0 a1 a2 a3 a4 a5 k
  unfold grids_move.f
  repeat' first
      | (with_reducible exact grids_point.mono _ _)
      | (with_reducible exact LeO.refl _)
      | (with_reducible exact LeO.none _)
      | (with_reducible refine LeO.ite ?_ ?_)
      | (with_reducible refine LeO.bind ?_ (fun _ => ?_))
      | exact grids_point.mono _ _
      | exact LeO.none _
      | refine LeO.ite ?_ ?_
      | refine LeO.bind ?_ (fun _ => ?_)
set_option maxHeartbeats 8000000 in
set_option maxRecDepth 100000 in
theorem grids_move.calls (k : Nat) (a0_0 : Int) (a0_1 : Int) (a0_2 : Int) (a0_3 : Int) (a0_4 : Int) (a0_5 : Int) (r : Bool) (w : World) (h : grids_move.f k a0_0 a0_1 a0_2 a0_3 a0_4 a0_5 = some r) :
    Calls Try.prog 62 #[.agg #[.int .i64 a0_0, .int .i64 a0_1, .int .i64 a0_2, .int .i64 a0_3, .int .i64 a0_4, .int .i64 a0_5]] w fun e w' => e = .returned (.bool r) ∧ Below w.heap.size w w' := by
  have hu55 := Try.underlying55
  have hu25 := Try.underlying25
  have hu37 := Try.underlying37
  have HB := Aside0.mk (Below.refl w.heap.size w)
  have H : ((grids_matrix.f a0_0 a0_1 a0_2 a0_3).bind fun t542 => (if t542 = true then ((grids_point.f k (([(⟨a0_4, a0_5⟩ : S37)] : List (S37)))).bind fun t546 => (some t546)) else (some false))) = some r := h
  clear h
  replace H := Option.bind_eq_some_iff.mp H
  obtain ⟨t542, A20, H⟩ := H
  replace H : (if t542 = true then ((grids_point.f k (([(⟨a0_4, a0_5⟩ : S37)] : List (S37)))).bind fun t546 => (some t546)) else (some false)) = some r := H
  have A2 := Aside0.mk A20
  clear A20
  by_cases c3 : t542 = true
  · subst c3
    have H1 : ((grids_point.f k (([(⟨a0_4, a0_5⟩ : S37)] : List (S37)))).bind fun t546 => (some t546)) = some r := by rw [if_pos rfl] at H; exact H
    clear H
    have H := H1
    clear H1
    obtain ⟨y543, hy543⟩ : ∃ y_ : List (S37), y_ = (([(⟨a0_4, a0_5⟩ : S37)] : List (S37))) := ⟨_, rfl⟩
    replace H : ((grids_point.f k y543).bind fun t546 => (some t546)) = some r := by first | (rw [hy543]; with_reducible exact H) | (have H2_ := (Option.bind_some _ _).symm.trans H; rw [hy543]; with_reducible exact H2_) | (have H2_ := (Option.bind_some _ _).symm.trans H; with_reducible exact H2_) | with_reducible exact H | (rw [hy543]; exact H) | exact H
    have Ny543 := Aside0.mk hy543
    clear hy543
    replace H := Option.bind_eq_some_iff.mp H
    obtain ⟨t546, A40, H⟩ := H
    replace H : (some t546) = some r := H
    have A4 := Aside0.mk A40
    clear A40
    obtain rfl := Option.some.inj H
    go_enter Try.func62, Try.ntmps62
    go_wp2_with (first | ((with_reducible refine gate_dst (N := 1) rfl ?_); (try (refine gate_guard (by rfl) ?_; dsimp only)); refine box_event ?hg (N := 1) ?hd (cs := #[.int .i64 a0_0, .int .i64 a0_1, .int .i64 a0_2, .int .i64 a0_3, .int .i64 a0_4, .int .i64 a0_5]) (t := 55) ?hr ?_; (case hd => rfl); (case hg => rfl); (case hr => first | (go_simp; done) | (go_simp; rfl)); intro gb541 hg w5 hbox hb; have BK541 := Aside0.mk (hbox); have GW541 := Aside0.mk ((by rw [hg]; exact (below_size (bnow HB)) : w.heap.size ≤ gb541)); have GE541 := Aside0.mk ((by rw [hg]; exact (below_size (bnow HB)) : w.heap.size ≤ gb541)); replace HB := bst HB hb; clear hb hbox hg; have hcz6_0 : w5.cell? ⟨gb541, 0, none⟩ = some (.int .i64 a0_0) := (blk_cell BK541.out 0).trans rfl; have hcz6_1 : w5.cell? ⟨gb541, 1, none⟩ = some (.int .i64 a0_1) := (blk_cell BK541.out 1).trans rfl; have hcz6_2 : w5.cell? ⟨gb541, 2, none⟩ = some (.int .i64 a0_2) := (blk_cell BK541.out 2).trans rfl; have hcz6_3 : w5.cell? ⟨gb541, 3, none⟩ = some (.int .i64 a0_3) := (blk_cell BK541.out 3).trans rfl; have hcz6_4 : w5.cell? ⟨gb541, 4, none⟩ = some (.int .i64 a0_4) := (blk_cell BK541.out 4).trans rfl; have hcz6_5 : w5.cell? ⟨gb541, 5, none⟩ = some (.int .i64 a0_5) := (blk_cell BK541.out 5).trans rfl; have hfz6_0 := blk_frozen BK541.out 0; have hfz6_1 := blk_frozen BK541.out 1; have hfz6_2 := blk_frozen BK541.out 2; have hfz6_3 := blk_frozen BK541.out 3; have hfz6_4 := blk_frozen BK541.out 4; have hfz6_5 := blk_frozen BK541.out 5) | ((with_reducible refine gate_callee (f := 59) rfl ?_); refine goesL_ (some 5) rfl rfl Try.func59 (by kernel_rfl) rfl #[.agg #[.int .i64 a0_0, .int .i64 a0_1, .int .i64 a0_2, .int .i64 a0_3]] rfl am ?_; (with_reducible refine (grids_matrix.calls a0_0 a0_1 a0_2 a0_3 true _ A2.out).mono ?_); rintro e w7 ⟨rfl, hb⟩; refine ⟨_, rfl, ?_⟩; replace BK541 := bb BK541 hb; replace HB := bst HB hb; clear hb; have hcz8_0 : w7.cell? ⟨gb541, 0, none⟩ = some (.int .i64 a0_0) := (blk_cell BK541.out 0).trans rfl; have hcz8_1 : w7.cell? ⟨gb541, 1, none⟩ = some (.int .i64 a0_1) := (blk_cell BK541.out 1).trans rfl; have hcz8_2 : w7.cell? ⟨gb541, 2, none⟩ = some (.int .i64 a0_2) := (blk_cell BK541.out 2).trans rfl; have hcz8_3 : w7.cell? ⟨gb541, 3, none⟩ = some (.int .i64 a0_3) := (blk_cell BK541.out 3).trans rfl; have hcz8_4 : w7.cell? ⟨gb541, 4, none⟩ = some (.int .i64 a0_4) := (blk_cell BK541.out 4).trans rfl; have hcz8_5 : w7.cell? ⟨gb541, 5, none⟩ = some (.int .i64 a0_5) := (blk_cell BK541.out 5).trans rfl; have hfz8_0 := blk_frozen BK541.out 0; have hfz8_1 := blk_frozen BK541.out 1; have hfz8_2 := blk_frozen BK541.out 2; have hfz8_3 := blk_frozen BK541.out 3; have hfz8_4 := blk_frozen BK541.out 4; have hfz8_5 := blk_frozen BK541.out 5) | ((with_reducible refine gate_dst (N := 9) rfl ?_); (try (refine gate_guard (by rfl) ?_; dsimp only)); refine Kd.R_lit k37 _ 37 ?hg (N := 9) ?hd (xs := ([(⟨a0_4, a0_5⟩ : S37)] : List (S37))) (inner := [.int .i64 a0_4, .int .i64 a0_5]) (ok := fun _ => True) (okp := fun _ => True) ?hr ?hp (fun _ hk => hk) trivial (Below.refl _ _) (Nat.le_refl _) (by simp) ?_; (case hd => rfl); (case hg => rfl); (case hr => first | (go_simp; done) | (go_simp; rfl)); (case hp => exact (Reps.c2 (show Kd.M k37 _ _ _ (⟨a0_4, a0_5⟩ : S37) [.int .i64 a0_4, .int .i64 a0_5] from (k37_mkM _ _ _ (⟨a0_4, a0_5⟩ : S37) )) (Reps.none _ _))); intro v544 w9 ho10 hb hg_ hnew_; clear hg_ hnew_; (first | rw [← Ny543.out] at ho10 | (simp only [Int.reduceToNat] at ho10; rw [← Ny543.out] at ho10)); have HO545 := Aside0.mk (Kd.R_lower ho10 (below_size (bnow HB))); replace BK541 := bb BK541 hb; replace HB := bst HB hb; clear hb ho10; obtain ⟨Ao11, co11, eo11⟩ := Kd.R_slice HO545.out; subst eo11) | (go_at_call 49; (with_reducible refine (grids_point.calls k _ _ y543 t546 _ ?side1 ?side2 A4.out).mono ?_); (case side1 => repeat (first | exact (Kd.R_reads' HO545.out).2.2 | (with_reducible refine Kd.C_alloc ?_ _) | (with_reducible refine Kd.C_drewN ?_ _) | (with_reducible refine Kd.C_drew ?_))); (case side2 => exact (Kd.R_reads' HO545.out).2.1); rintro e w12 ⟨rfl, hb⟩; have n0_ := Aside0.mk (Kd.R_below (by (with_reducible repeat (first | apply Kd.R_alloc | apply Kd.R_drewN | apply Kd.R_drew)); exact HO545.out) hb); have n1_ := bb BK541 hb; have n2_ := bst HB hb; clear HO545; clear BK541; clear HB; have HO545 := n0_; have BK541 := n1_; have HB := n2_; clear n0_ n1_ n2_; (try clear hb); (try clear hb2); (try clear hk); (try clear hi)))
    go_ret
    exact ⟨by first | rfl | (simp [errW_none, errW_some] <;> rfl) | (simp [*, errW_none, errW_some] <;> rfl), by repeat (first | (with_reducible first | exact HB.out | apply below_alloc | apply pw_below_drewN | apply below_drew1 | refine below_set ?_ GE541.out) | exact HB.out)⟩
  · replace c3 := Bool.eq_false_iff.mpr c3
    subst c3
    have H1 : (some false) = some r := by rw [if_neg (show ¬ (false = true) by decide)] at H; exact H
    clear H
    have H := H1
    clear H1
    obtain rfl := Option.some.inj H
    go_enter Try.func62, Try.ntmps62
    go_wp2_with (first | ((with_reducible refine gate_dst (N := 1) rfl ?_); (try (refine gate_guard (by rfl) ?_; dsimp only)); refine box_event ?hg (N := 1) ?hd (cs := #[.int .i64 a0_0, .int .i64 a0_1, .int .i64 a0_2, .int .i64 a0_3, .int .i64 a0_4, .int .i64 a0_5]) (t := 55) ?hr ?_; (case hd => rfl); (case hg => rfl); (case hr => first | (go_simp; done) | (go_simp; rfl)); intro gb541 hg w13 hbox hb; have BK541 := Aside0.mk (hbox); have GW541 := Aside0.mk ((by rw [hg]; exact (below_size (bnow HB)) : w.heap.size ≤ gb541)); have GE541 := Aside0.mk ((by rw [hg]; exact (below_size (bnow HB)) : w.heap.size ≤ gb541)); replace HB := bst HB hb; clear hb hbox hg; have hcz14_0 : w13.cell? ⟨gb541, 0, none⟩ = some (.int .i64 a0_0) := (blk_cell BK541.out 0).trans rfl; have hcz14_1 : w13.cell? ⟨gb541, 1, none⟩ = some (.int .i64 a0_1) := (blk_cell BK541.out 1).trans rfl; have hcz14_2 : w13.cell? ⟨gb541, 2, none⟩ = some (.int .i64 a0_2) := (blk_cell BK541.out 2).trans rfl; have hcz14_3 : w13.cell? ⟨gb541, 3, none⟩ = some (.int .i64 a0_3) := (blk_cell BK541.out 3).trans rfl; have hcz14_4 : w13.cell? ⟨gb541, 4, none⟩ = some (.int .i64 a0_4) := (blk_cell BK541.out 4).trans rfl; have hcz14_5 : w13.cell? ⟨gb541, 5, none⟩ = some (.int .i64 a0_5) := (blk_cell BK541.out 5).trans rfl; have hfz14_0 := blk_frozen BK541.out 0; have hfz14_1 := blk_frozen BK541.out 1; have hfz14_2 := blk_frozen BK541.out 2; have hfz14_3 := blk_frozen BK541.out 3; have hfz14_4 := blk_frozen BK541.out 4; have hfz14_5 := blk_frozen BK541.out 5) | ((with_reducible refine gate_callee (f := 59) rfl ?_); refine goesL_ (some 5) rfl rfl Try.func59 (by kernel_rfl) rfl #[.agg #[.int .i64 a0_0, .int .i64 a0_1, .int .i64 a0_2, .int .i64 a0_3]] rfl am ?_; (with_reducible refine (grids_matrix.calls a0_0 a0_1 a0_2 a0_3 false _ A2.out).mono ?_); rintro e w15 ⟨rfl, hb⟩; refine ⟨_, rfl, ?_⟩; replace BK541 := bb BK541 hb; replace HB := bst HB hb; clear hb))
    go_ret
    exact ⟨by first | rfl | (simp [errW_none, errW_some] <;> rfl) | (simp [*, errW_none, errW_some] <;> rfl), by repeat (first | (with_reducible first | exact HB.out | apply below_alloc | apply pw_below_drewN | apply below_drew1 | refine below_set ?_ GE541.out) | exact HB.out)⟩
end
section
/-! ### grids_image: function 63 -/
def grids_image.f (a0_0 : Int) (a0_1 : Int) (a0_2 : Int) (a0_3 : Int) (a0_4 : Int) (a0_5 : Int) (a1_0 : Int) (a1_1 : Int) : Option (Int × Int) := (some (wrap64 (a0_0 * a1_0))).bind fun z550 => ((some (wrap64 (a0_1 * a1_1))).bind fun z551 => ((some (wrap64 (z550 + z551))).bind fun z552 => ((some (wrap64 (z552 + a0_4))).bind fun z553 => ((some (wrap64 (a0_2 * a1_0))).bind fun z554 => ((some (wrap64 (a0_3 * a1_1))).bind fun z555 => ((some (wrap64 (z554 + z555))).bind fun z556 => ((some (wrap64 (z556 + a0_5))).bind fun z557 => (some (z553, z557)))))))))
set_option maxHeartbeats 8000000 in
set_option maxRecDepth 100000 in
theorem grids_image.calls (a0_0 : Int) (a0_1 : Int) (a0_2 : Int) (a0_3 : Int) (a0_4 : Int) (a0_5 : Int) (a1_0 : Int) (a1_1 : Int) (r1 : Int) (r2 : Int) (w : World) (h : grids_image.f a0_0 a0_1 a0_2 a0_3 a0_4 a0_5 a1_0 a1_1 = some (r1, r2)) :
    Calls Try.prog 63 #[.agg #[.int .i64 a0_0, .int .i64 a0_1, .int .i64 a0_2, .int .i64 a0_3, .int .i64 a0_4, .int .i64 a0_5], .agg #[.int .i64 a1_0, .int .i64 a1_1]] w fun e w' => e = .returned (.agg #[.int .i64 r1, .int .i64 r2]) ∧ Below w.heap.size w w' := by
  have hu55 := Try.underlying55
  have hu37 := Try.underlying37
  have HB := Aside0.mk (Below.refl w.heap.size w)
  have H : ((some (wrap64 (a0_0 * a1_0))).bind fun z550 => ((some (wrap64 (a0_1 * a1_1))).bind fun z551 => ((some (wrap64 (z550 + z551))).bind fun z552 => ((some (wrap64 (z552 + a0_4))).bind fun z553 => ((some (wrap64 (a0_2 * a1_0))).bind fun z554 => ((some (wrap64 (a0_3 * a1_1))).bind fun z555 => ((some (wrap64 (z554 + z555))).bind fun z556 => ((some (wrap64 (z556 + a0_5))).bind fun z557 => (some (z553, z557)))))))))) = some (r1, r2) := h
  clear h
  replace H := Option.bind_eq_some_iff.mp H
  obtain ⟨z550, E30, H⟩ := H
  replace H : ((some (wrap64 (a0_1 * a1_1))).bind fun z551 => ((some (wrap64 (z550 + z551))).bind fun z552 => ((some (wrap64 (z552 + a0_4))).bind fun z553 => ((some (wrap64 (a0_2 * a1_0))).bind fun z554 => ((some (wrap64 (a0_3 * a1_1))).bind fun z555 => ((some (wrap64 (z554 + z555))).bind fun z556 => ((some (wrap64 (z556 + a0_5))).bind fun z557 => (some (z553, z557))))))))) = some (r1, r2) := H
  replace E30 := Option.some.inj E30
  have E3w : (IntKind.i64.wrap (a0_0 * a1_0)) = z550 := (i64_w _).trans E30
  replace H := Option.bind_eq_some_iff.mp H
  obtain ⟨z551, E40, H⟩ := H
  replace H : ((some (wrap64 (z550 + z551))).bind fun z552 => ((some (wrap64 (z552 + a0_4))).bind fun z553 => ((some (wrap64 (a0_2 * a1_0))).bind fun z554 => ((some (wrap64 (a0_3 * a1_1))).bind fun z555 => ((some (wrap64 (z554 + z555))).bind fun z556 => ((some (wrap64 (z556 + a0_5))).bind fun z557 => (some (z553, z557)))))))) = some (r1, r2) := H
  replace E40 := Option.some.inj E40
  have E4w : (IntKind.i64.wrap (a0_1 * a1_1)) = z551 := (i64_w _).trans E40
  replace H := Option.bind_eq_some_iff.mp H
  obtain ⟨z552, E50, H⟩ := H
  replace H : ((some (wrap64 (z552 + a0_4))).bind fun z553 => ((some (wrap64 (a0_2 * a1_0))).bind fun z554 => ((some (wrap64 (a0_3 * a1_1))).bind fun z555 => ((some (wrap64 (z554 + z555))).bind fun z556 => ((some (wrap64 (z556 + a0_5))).bind fun z557 => (some (z553, z557))))))) = some (r1, r2) := H
  replace E50 := Option.some.inj E50
  have E5w : (IntKind.i64.wrap (z550 + z551)) = z552 := (i64_w _).trans E50
  replace H := Option.bind_eq_some_iff.mp H
  obtain ⟨z553, E60, H⟩ := H
  replace H : ((some (wrap64 (a0_2 * a1_0))).bind fun z554 => ((some (wrap64 (a0_3 * a1_1))).bind fun z555 => ((some (wrap64 (z554 + z555))).bind fun z556 => ((some (wrap64 (z556 + a0_5))).bind fun z557 => (some (z553, z557)))))) = some (r1, r2) := H
  replace E60 := Option.some.inj E60
  have E6w : (IntKind.i64.wrap (z552 + a0_4)) = z553 := (i64_w _).trans E60
  replace H := Option.bind_eq_some_iff.mp H
  obtain ⟨z554, E70, H⟩ := H
  replace H : ((some (wrap64 (a0_3 * a1_1))).bind fun z555 => ((some (wrap64 (z554 + z555))).bind fun z556 => ((some (wrap64 (z556 + a0_5))).bind fun z557 => (some (z553, z557))))) = some (r1, r2) := H
  replace E70 := Option.some.inj E70
  have E7w : (IntKind.i64.wrap (a0_2 * a1_0)) = z554 := (i64_w _).trans E70
  replace H := Option.bind_eq_some_iff.mp H
  obtain ⟨z555, E80, H⟩ := H
  replace H : ((some (wrap64 (z554 + z555))).bind fun z556 => ((some (wrap64 (z556 + a0_5))).bind fun z557 => (some (z553, z557)))) = some (r1, r2) := H
  replace E80 := Option.some.inj E80
  have E8w : (IntKind.i64.wrap (a0_3 * a1_1)) = z555 := (i64_w _).trans E80
  replace H := Option.bind_eq_some_iff.mp H
  obtain ⟨z556, E90, H⟩ := H
  replace H : ((some (wrap64 (z556 + a0_5))).bind fun z557 => (some (z553, z557))) = some (r1, r2) := H
  replace E90 := Option.some.inj E90
  have E9w : (IntKind.i64.wrap (z554 + z555)) = z556 := (i64_w _).trans E90
  replace H := Option.bind_eq_some_iff.mp H
  obtain ⟨z557, E100, H⟩ := H
  replace H : (some (z553, z557)) = some (r1, r2) := H
  replace E100 := Option.some.inj E100
  have E10w : (IntKind.i64.wrap (z556 + a0_5)) = z557 := (i64_w _).trans E100
  simp only [Option.some.injEq, Prod.mk.injEq] at H
  obtain ⟨rfl, rfl⟩ := H
  go_enter Try.func63, Try.ntmps63
  go_wp2_with (first | ((with_reducible refine gate_dst (N := 2) rfl ?_); refine box_event ?hg (N := 2) ?hd (cs := #[.int .i64 a0_0, .int .i64 a0_1, .int .i64 a0_2, .int .i64 a0_3, .int .i64 a0_4, .int .i64 a0_5]) (t := 55) ?hr ?_; (case hd => rfl); (case hg => rfl); (case hr => first | (go_simp; done) | (go_simp; rfl)); intro gb547 hg w11 hbox hb; have BK547 := Aside0.mk (hbox); have GW547 := Aside0.mk ((by rw [hg]; exact (below_size (bnow HB)) : w.heap.size ≤ gb547)); have GE547 := Aside0.mk ((by rw [hg]; exact (below_size (bnow HB)) : w.heap.size ≤ gb547)); replace HB := bst HB hb; clear hb hbox hg) | ((with_reducible refine gate_dst (N := 3) rfl ?_); refine box_event ?hg (N := 3) ?hd (cs := #[.int .i64 a1_0, .int .i64 a1_1]) (t := 37) ?hr ?_; (case hd => rfl); (case hg => rfl); (case hr => first | (go_simp; done) | (go_simp; rfl)); intro gb548 hg w12 hbox hb; have BK548 := Aside0.mk (hbox); have GW548 := Aside0.mk ((by rw [hg]; exact (below_size (bnow HB)) : w.heap.size ≤ gb548)); have GE548 := Aside0.mk ((by rw [hg]; exact (below_size (bnow HB)) : w.heap.size ≤ gb548)); have NB547_548 := Aside0.mk ((by rw [hg]; exact Nat.ne_of_lt (blk_lt (g := gb547) (o := .cells #[.int .i64 a0_0, .int .i64 a0_1, .int .i64 a0_2, .int .i64 a0_3, .int .i64 a0_4, .int .i64 a0_5] 55 (0, 0)) (pk BK547)) : gb547 ≠ gb548)); have NB548_547 := Aside0.mk ((by rw [hg]; exact Nat.ne_of_gt (blk_lt (g := gb547) (o := .cells #[.int .i64 a0_0, .int .i64 a0_1, .int .i64 a0_2, .int .i64 a0_3, .int .i64 a0_4, .int .i64 a0_5] 55 (0, 0)) (pk BK547)) : gb548 ≠ gb547)); replace BK547 := bb BK547 hb; replace HB := bst HB hb; clear hb hbox hg) | ((with_reducible refine gate_dst (N := 4) rfl ?_); refine box_event ?hg (N := 4) ?hd (cs := #[.int .i64 0, .int .i64 0]) (t := 37) ?hr ?_; (case hd => rfl); (case hg => rfl); (case hr => first | (go_simp; done) | (go_simp; rfl)); intro gb549 hg w13 hbox hb; have BK549 := Aside0.mk (hbox); have GW549 := Aside0.mk ((by rw [hg]; exact (below_size (bnow HB)) : w.heap.size ≤ gb549)); have GE549 := Aside0.mk ((by rw [hg]; exact (below_size (bnow HB)) : w.heap.size ≤ gb549)); have NB547_549 := Aside0.mk ((by rw [hg]; exact Nat.ne_of_lt (blk_lt (g := gb547) (o := .cells #[.int .i64 a0_0, .int .i64 a0_1, .int .i64 a0_2, .int .i64 a0_3, .int .i64 a0_4, .int .i64 a0_5] 55 (0, 0)) (pk BK547)) : gb547 ≠ gb549)); have NB549_547 := Aside0.mk ((by rw [hg]; exact Nat.ne_of_gt (blk_lt (g := gb547) (o := .cells #[.int .i64 a0_0, .int .i64 a0_1, .int .i64 a0_2, .int .i64 a0_3, .int .i64 a0_4, .int .i64 a0_5] 55 (0, 0)) (pk BK547)) : gb549 ≠ gb547)); have NB548_549 := Aside0.mk ((by rw [hg]; exact Nat.ne_of_lt (blk_lt (g := gb548) (o := .cells #[.int .i64 a1_0, .int .i64 a1_1] 37 (0, 0)) (pk BK548)) : gb548 ≠ gb549)); have NB549_548 := Aside0.mk ((by rw [hg]; exact Nat.ne_of_gt (blk_lt (g := gb548) (o := .cells #[.int .i64 a1_0, .int .i64 a1_1] 37 (0, 0)) (pk BK548)) : gb549 ≠ gb548)); replace BK547 := bb BK547 hb; replace BK548 := bb BK548 hb; replace HB := bst HB hb; clear hb hbox hg; have hnb14 := NB547_548.out; have hnc14 := NB548_547.out; have hnb15 := NB547_549.out; have hnc15 := NB549_547.out; have hcz16_0 : w13.cell? ⟨gb547, 0, none⟩ = some (.int .i64 a0_0) := (blk_cell BK547.out 0).trans rfl; have hcz16_1 : w13.cell? ⟨gb547, 1, none⟩ = some (.int .i64 a0_1) := (blk_cell BK547.out 1).trans rfl; have hcz16_2 : w13.cell? ⟨gb547, 2, none⟩ = some (.int .i64 a0_2) := (blk_cell BK547.out 2).trans rfl; have hcz16_3 : w13.cell? ⟨gb547, 3, none⟩ = some (.int .i64 a0_3) := (blk_cell BK547.out 3).trans rfl; have hcz16_4 : w13.cell? ⟨gb547, 4, none⟩ = some (.int .i64 a0_4) := (blk_cell BK547.out 4).trans rfl; have hcz16_5 : w13.cell? ⟨gb547, 5, none⟩ = some (.int .i64 a0_5) := (blk_cell BK547.out 5).trans rfl; have hfz16_0 := blk_frozen BK547.out 0; have hfz16_1 := blk_frozen BK547.out 1; have hfz16_2 := blk_frozen BK547.out 2; have hfz16_3 := blk_frozen BK547.out 3; have hfz16_4 := blk_frozen BK547.out 4; have hfz16_5 := blk_frozen BK547.out 5; have hnb17 := NB548_549.out; have hnc17 := NB549_548.out; have hcz18_0 : w13.cell? ⟨gb548, 0, none⟩ = some (.int .i64 a1_0) := (blk_cell BK548.out 0).trans rfl; have hcz18_1 : w13.cell? ⟨gb548, 1, none⟩ = some (.int .i64 a1_1) := (blk_cell BK548.out 1).trans rfl; have hfz18_0 := blk_frozen BK548.out 0; have hfz18_1 := blk_frozen BK548.out 1; have hcz19_0 : w13.cell? ⟨gb549, 0, none⟩ = some (.int .i64 0) := (blk_cell BK549.out 0).trans rfl; have hcz19_1 : w13.cell? ⟨gb549, 1, none⟩ = some (.int .i64 0) := (blk_cell BK549.out 1).trans rfl; have hfz19_0 := blk_frozen BK549.out 0; have hfz19_1 := blk_frozen BK549.out 1))
  refine bodyPost_ret (results_cell_row rfl _ _ gb549 37 #[.int .i64 z553, .int .i64 z557] (0, 0) _ rfl (by (with_reducible repeat (first | refine blk_drewN ?_ _ | refine blk_drew ?_ | refine blk_alloc ?_ _)); refine blk_put (cs := #[.int .i64 z553, .int .i64 0]) ?_ 1 _ rfl; (with_reducible repeat (first | refine blk_drewN ?_ _ | refine blk_drew ?_ | refine blk_alloc ?_ _)); refine blk_put (cs := #[.int .i64 0, .int .i64 0]) ?_ 0 _ rfl; (with_reducible repeat (first | refine blk_drewN ?_ _ | refine blk_drew ?_ | refine blk_alloc ?_ _)); exact BK549.out) Try.underlying37 rfl (by kernel_rfl)) rfl ?_
  exact ⟨by first | rfl | (simp [errW_none, errW_some] <;> rfl) | (simp [*, errW_none, errW_some] <;> rfl), by repeat (first | (with_reducible first | exact HB.out | apply below_alloc | apply pw_below_drewN | apply below_drew1 | refine below_set ?_ GE547.out | refine below_set ?_ GE548.out | refine below_set ?_ GE549.out) | exact HB.out)⟩
end
section
/-! ### grids_Apply: function 27 -/
def grids_Apply.j0 : Nat → Bool → Int → Int → Int → Int → Int → Int → Int → Int → Option (Int × Int × Int)
  | 0, _, _, _, _, _, _, _, _, _ => none
  | k + 1, x15, x559000, x559001, x559002, x559003, x559004, x559005, x560000, x560001 => if x15 = true then (some (0, 0, 2)) else ((grids_image.f x559000 x559001 x559002 x559003 x559004 x559005 x560000 x560001).bind fun bt566 => ((grids_point.f k (([(⟨bt566.1, bt566.2⟩ : S37)] : List (S37)))).bind fun t572 => (if t572 = true then (some (bt566.1, bt566.2, 0)) else (some (0, 0, 7)))))
def grids_Apply.f (k : Nat) (a0_0 : Int) (a0_1 : Int) (a0_2 : Int) (a0_3 : Int) (a0_4 : Int) (a0_5 : Int) (a1_0 : Int) (a1_1 : Int) : Option (Int × Int × Int) := (grids_move.f k a0_0 a0_1 a0_2 a0_3 a0_4 a0_5).bind fun t561 => (if t561 = true then ((grids_point.f k (([(⟨a1_0, a1_1⟩ : S37)] : List (S37)))).bind fun t565 => (grids_Apply.j0 k (!t565) a0_0 a0_1 a0_2 a0_3 a0_4 a0_5 a1_0 a1_1)) else (grids_Apply.j0 k true a0_0 a0_1 a0_2 a0_3 a0_4 a0_5 a1_0 a1_1))
theorem grids_Apply.mono_l : ∀ k, (∀ y0 y1 y2 y3 y4 y5 y6 y7 y8, LeO (grids_Apply.j0 k y0 y1 y2 y3 y4 y5 y6 y7 y8) (grids_Apply.j0 (k + 1) y0 y1 y2 y3 y4 y5 y6 y7 y8))
  | 0 => fun _ _ _ _ _ _ _ _ _ r h => by simp [grids_Apply.j0] at h
  | k + 1 => by
    have ih0 := grids_Apply.mono_l k
    · intro y0 y1 y2 y3 y4 y5 y6 y7 y8
      unfold grids_Apply.j0
      repeat' first
      | (with_reducible exact ih0 _ _ _ _ _ _ _ _ _)
      | (with_reducible exact grids_move.mono _ _ _ _ _ _ _)
      | (with_reducible exact grids_point.mono _ _)
      | (with_reducible exact LeO.refl _)
      | (with_reducible exact LeO.none _)
      | (with_reducible refine LeO.ite ?_ ?_)
      | (with_reducible refine LeO.bind ?_ (fun _ => ?_))
      | exact ih0 _ _ _ _ _ _ _ _ _
      | exact grids_move.mono _ _ _ _ _ _ _
      | exact grids_point.mono _ _
      | exact LeO.none _
      | refine LeO.ite ?_ ?_
      | refine LeO.bind ?_ (fun _ => ?_)
theorem grids_Apply.mono : ∀ a0 a1 a2 a3 a4 a5 a6 a7 k, LeO (grids_Apply.f k a0 a1 a2 a3 a4 a5 a6 a7) (grids_Apply.f (k + 1) a0 a1 a2 a3 a4 a5 a6 a7) := by
  intro a0 a1 a2 a3 a4 a5 a6 a7 k
  have ih0 := grids_Apply.mono_l k
  unfold grids_Apply.f
  repeat' first
      | (with_reducible exact ih0 _ _ _ _ _ _ _ _ _)
      | (with_reducible exact grids_move.mono _ _ _ _ _ _ _)
      | (with_reducible exact grids_point.mono _ _)
      | (with_reducible exact LeO.refl _)
      | (with_reducible exact LeO.none _)
      | (with_reducible refine LeO.ite ?_ ?_)
      | (with_reducible refine LeO.bind ?_ (fun _ => ?_))
      | exact ih0 _ _ _ _ _ _ _ _ _
      | exact grids_move.mono _ _ _ _ _ _ _
      | exact grids_point.mono _ _
      | exact LeO.none _
      | refine LeO.ite ?_ ?_
      | refine LeO.bind ?_ (fun _ => ?_)
set_option maxHeartbeats 8000000 in
set_option maxRecDepth 100000 in
theorem grids_Apply.calls (k : Nat) (a0_0 : Int) (a0_1 : Int) (a0_2 : Int) (a0_3 : Int) (a0_4 : Int) (a0_5 : Int) (a1_0 : Int) (a1_1 : Int) (r1 : Int) (r2 : Int) (r3 : Int) (w : World) (h : grids_Apply.f k a0_0 a0_1 a0_2 a0_3 a0_4 a0_5 a1_0 a1_1 = some (r1, r2, r3)) :
    Calls Try.prog 27 #[.agg #[.int .i64 a0_0, .int .i64 a0_1, .int .i64 a0_2, .int .i64 a0_3, .int .i64 a0_4, .int .i64 a0_5], .agg #[.int .i64 a1_0, .int .i64 a1_1]] w fun e w' => e = .returned (.tuple #[.agg #[.int .i64 r1, .int .i64 r2], .int .i64 r3]) ∧ Below w.heap.size w w' := by
  have hu55 := Try.underlying55
  have hu37 := Try.underlying37
  have HB := Aside0.mk (Below.refl w.heap.size w)
  have H : ((grids_move.f k a0_0 a0_1 a0_2 a0_3 a0_4 a0_5).bind fun t561 => (if t561 = true then ((grids_point.f k (([(⟨a1_0, a1_1⟩ : S37)] : List (S37)))).bind fun t565 => (grids_Apply.j0 k (!t565) a0_0 a0_1 a0_2 a0_3 a0_4 a0_5 a1_0 a1_1)) else (grids_Apply.j0 k true a0_0 a0_1 a0_2 a0_3 a0_4 a0_5 a1_0 a1_1))) = some (r1, r2, r3) := h
  clear h
  have HC3 := Aside0.mk H
  clear H
  go_enter Try.func27, Try.ntmps27
  go_upto_region 1 with (first | ((with_reducible refine gate_dst (N := 2) rfl ?_); (try (refine gate_guard (by rfl) ?_; dsimp only)); refine box_event ?hg (N := 2) ?hd (cs := #[.int .i64 a0_0, .int .i64 a0_1, .int .i64 a0_2, .int .i64 a0_3, .int .i64 a0_4, .int .i64 a0_5]) (t := 55) ?hr ?_; (case hd => rfl); (case hg => rfl); (case hr => first | (go_simp; done) | (go_simp; rfl)); intro gb558 hg w4 hbox hb; have BK558 := Aside0.mk (hbox); have GW558 := Aside0.mk ((by rw [hg]; exact (below_size (bnow HB)) : w.heap.size ≤ gb558)); have GE558 := Aside0.mk ((by rw [hg]; exact (below_size (bnow HB)) : w.heap.size ≤ gb558)); replace HB := bst HB hb; clear hb hbox hg) | ((with_reducible refine gate_dst (N := 3) rfl ?_); (try (refine gate_guard (by rfl) ?_; dsimp only)); refine box_event ?hg (N := 3) ?hd (cs := #[.int .i64 a1_0, .int .i64 a1_1]) (t := 37) ?hr ?_; (case hd => rfl); (case hg => rfl); (case hr => first | (go_simp; done) | (go_simp; rfl)); intro gb559 hg w5 hbox hb; have BK559 := Aside0.mk (hbox); have GW559 := Aside0.mk ((by rw [hg]; exact (below_size (bnow HB)) : w.heap.size ≤ gb559)); have GE559 := Aside0.mk ((by rw [hg]; exact (below_size (bnow HB)) : w.heap.size ≤ gb559)); have NB558_559 := Aside0.mk ((by rw [hg]; exact Nat.ne_of_lt (blk_lt (g := gb558) (o := .cells #[.int .i64 a0_0, .int .i64 a0_1, .int .i64 a0_2, .int .i64 a0_3, .int .i64 a0_4, .int .i64 a0_5] 55 (0, 0)) (pk BK558)) : gb558 ≠ gb559)); have NB559_558 := Aside0.mk ((by rw [hg]; exact Nat.ne_of_gt (blk_lt (g := gb558) (o := .cells #[.int .i64 a0_0, .int .i64 a0_1, .int .i64 a0_2, .int .i64 a0_3, .int .i64 a0_4, .int .i64 a0_5] 55 (0, 0)) (pk BK558)) : gb559 ≠ gb558)); replace BK558 := bb BK558 hb; replace HB := bst HB hb; clear hb hbox hg) | ((with_reducible refine gate_dst (N := 4) rfl ?_); (try (refine gate_guard (by rfl) ?_; dsimp only)); refine box_event ?hg (N := 4) ?hd (cs := #[.int .i64 0, .int .i64 0]) (t := 37) ?hr ?_; (case hd => rfl); (case hg => rfl); (case hr => first | (go_simp; done) | (go_simp; rfl)); intro gb560 hg w6 hbox hb; have BK560 := Aside0.mk (hbox); have GW560 := Aside0.mk ((by rw [hg]; exact (below_size (bnow HB)) : w.heap.size ≤ gb560)); have GE560 := Aside0.mk ((by rw [hg]; exact (below_size (bnow HB)) : w.heap.size ≤ gb560)); have NB558_560 := Aside0.mk ((by rw [hg]; exact Nat.ne_of_lt (blk_lt (g := gb558) (o := .cells #[.int .i64 a0_0, .int .i64 a0_1, .int .i64 a0_2, .int .i64 a0_3, .int .i64 a0_4, .int .i64 a0_5] 55 (0, 0)) (pk BK558)) : gb558 ≠ gb560)); have NB560_558 := Aside0.mk ((by rw [hg]; exact Nat.ne_of_gt (blk_lt (g := gb558) (o := .cells #[.int .i64 a0_0, .int .i64 a0_1, .int .i64 a0_2, .int .i64 a0_3, .int .i64 a0_4, .int .i64 a0_5] 55 (0, 0)) (pk BK558)) : gb560 ≠ gb558)); have NB559_560 := Aside0.mk ((by rw [hg]; exact Nat.ne_of_lt (blk_lt (g := gb559) (o := .cells #[.int .i64 a1_0, .int .i64 a1_1] 37 (0, 0)) (pk BK559)) : gb559 ≠ gb560)); have NB560_559 := Aside0.mk ((by rw [hg]; exact Nat.ne_of_gt (blk_lt (g := gb559) (o := .cells #[.int .i64 a1_0, .int .i64 a1_1] 37 (0, 0)) (pk BK559)) : gb560 ≠ gb559)); replace BK558 := bb BK558 hb; replace BK559 := bb BK559 hb; replace HB := bst HB hb; clear hb hbox hg))
  (try simp only [Act.put, List.setIfInBounds_toArray, List.set_cons_zero, List.set_cons_succ])
  go_cut [15] (fun v15 wc => ∃ (kq : Nat) (x15_2 : Bool), v15 = .bool x15_2 ∧ Aside0 (grids_Apply.j0 kq x15_2 a0_0 a0_1 a0_2 a0_3 a0_4 a0_5 a1_0 a1_1 = some (r1, r2, r3)) ∧ Aside0 (kq ≤ k) ∧ Aside0 (wc.heap[gb558]? = some (.cells #[.int .i64 a0_0, .int .i64 a0_1, .int .i64 a0_2, .int .i64 a0_3, .int .i64 a0_4, .int .i64 a0_5] 55 (0, 0))) ∧ Aside0 (wc.heap[gb559]? = some (.cells #[.int .i64 a1_0, .int .i64 a1_1] 37 (0, 0))) ∧ Aside0 (wc.heap[gb560]? = some (.cells #[.int .i64 0, .int .i64 0] 37 (0, 0))) ∧ Aside0 (Below w.heap.size w wc))
  case first =>
    have H := HC3.out
    clear HC3
    replace H := Option.bind_eq_some_iff.mp H
    obtain ⟨t561, A70, H⟩ := H
    replace H : (if t561 = true then ((grids_point.f k (([(⟨a1_0, a1_1⟩ : S37)] : List (S37)))).bind fun t565 => (grids_Apply.j0 k (!t565) a0_0 a0_1 a0_2 a0_3 a0_4 a0_5 a1_0 a1_1)) else (grids_Apply.j0 k true a0_0 a0_1 a0_2 a0_3 a0_4 a0_5 a1_0 a1_1)) = some (r1, r2, r3) := H
    have A7 := Aside0.mk A70
    clear A70
    by_cases c8 : t561 = true
    · subst c8
      have H1 : ((grids_point.f k (([(⟨a1_0, a1_1⟩ : S37)] : List (S37)))).bind fun t565 => (grids_Apply.j0 k (!t565) a0_0 a0_1 a0_2 a0_3 a0_4 a0_5 a1_0 a1_1)) = some (r1, r2, r3) := by rw [if_pos rfl] at H; exact H
      clear H
      have H := H1
      clear H1
      obtain ⟨y562, hy562⟩ : ∃ y_ : List (S37), y_ = (([(⟨a1_0, a1_1⟩ : S37)] : List (S37))) := ⟨_, rfl⟩
      replace H : ((grids_point.f k y562).bind fun t565 => (grids_Apply.j0 k (!t565) a0_0 a0_1 a0_2 a0_3 a0_4 a0_5 a1_0 a1_1)) = some (r1, r2, r3) := by first | (rw [hy562]; with_reducible exact H) | (have H2_ := (Option.bind_some _ _).symm.trans H; rw [hy562]; with_reducible exact H2_) | (have H2_ := (Option.bind_some _ _).symm.trans H; with_reducible exact H2_) | with_reducible exact H | (rw [hy562]; exact H) | exact H
      have Ny562 := Aside0.mk hy562
      clear hy562
      replace H := Option.bind_eq_some_iff.mp H
      obtain ⟨t565, A90, H⟩ := H
      replace H : (grids_Apply.j0 k (!t565) a0_0 a0_1 a0_2 a0_3 a0_4 a0_5 a1_0 a1_1) = some (r1, r2, r3) := H
      have A9 := Aside0.mk A90
      clear A90
      have H' := Aside0.mk H
      clear H
      have hnb10 := NB558_559.out
      have hnc10 := NB559_558.out
      have hnb11 := NB558_560.out
      have hnc11 := NB560_558.out
      have hcz12_0 : w6.cell? ⟨gb558, 0, none⟩ = some (.int .i64 a0_0) := (blk_cell BK558.out 0).trans rfl
      have hcz12_1 : w6.cell? ⟨gb558, 1, none⟩ = some (.int .i64 a0_1) := (blk_cell BK558.out 1).trans rfl
      have hcz12_2 : w6.cell? ⟨gb558, 2, none⟩ = some (.int .i64 a0_2) := (blk_cell BK558.out 2).trans rfl
      have hcz12_3 : w6.cell? ⟨gb558, 3, none⟩ = some (.int .i64 a0_3) := (blk_cell BK558.out 3).trans rfl
      have hcz12_4 : w6.cell? ⟨gb558, 4, none⟩ = some (.int .i64 a0_4) := (blk_cell BK558.out 4).trans rfl
      have hcz12_5 : w6.cell? ⟨gb558, 5, none⟩ = some (.int .i64 a0_5) := (blk_cell BK558.out 5).trans rfl
      have hfz12_0 := blk_frozen BK558.out 0
      have hfz12_1 := blk_frozen BK558.out 1
      have hfz12_2 := blk_frozen BK558.out 2
      have hfz12_3 := blk_frozen BK558.out 3
      have hfz12_4 := blk_frozen BK558.out 4
      have hfz12_5 := blk_frozen BK558.out 5
      go_wp2_with (first | ((with_reducible refine gate_callee (f := 62) rfl ?_); refine goesL_ (some 8) rfl rfl Try.func62 (by kernel_rfl) rfl #[.agg #[.int .i64 a0_0, .int .i64 a0_1, .int .i64 a0_2, .int .i64 a0_3, .int .i64 a0_4, .int .i64 a0_5]] rfl am ?_; (with_reducible refine (grids_move.calls k a0_0 a0_1 a0_2 a0_3 a0_4 a0_5 true _ A7.out).mono ?_); rintro e w13 ⟨rfl, hb⟩; refine ⟨_, rfl, ?_⟩; replace BK558 := bb BK558 hb; replace BK559 := bb BK559 hb; replace BK560 := bb BK560 hb; replace HB := bst HB hb; clear hb; have hnb14 := NB559_560.out; have hnc14 := NB560_559.out; have hcz15_0 : w13.cell? ⟨gb559, 0, none⟩ = some (.int .i64 a1_0) := (blk_cell BK559.out 0).trans rfl; have hcz15_1 : w13.cell? ⟨gb559, 1, none⟩ = some (.int .i64 a1_1) := (blk_cell BK559.out 1).trans rfl; have hfz15_0 := blk_frozen BK559.out 0; have hfz15_1 := blk_frozen BK559.out 1) | ((with_reducible refine gate_dst (N := 12) rfl ?_); (try (refine gate_guard (by rfl) ?_; dsimp only)); refine Kd.R_lit k37 _ 37 ?hg (N := 12) ?hd (xs := ([(⟨a1_0, a1_1⟩ : S37)] : List (S37))) (inner := [.int .i64 a1_0, .int .i64 a1_1]) (ok := fun _ => True) (okp := fun _ => True) ?hr ?hp (fun _ hk => hk) trivial (Below.refl _ _) (Nat.le_refl _) (by simp) ?_; (case hd => rfl); (case hg => rfl); (case hr => first | (go_simp; done) | (go_simp; rfl)); (case hp => exact (Reps.c2 (show Kd.M k37 _ _ _ (⟨a1_0, a1_1⟩ : S37) [.int .i64 a1_0, .int .i64 a1_1] from (k37_mkM _ _ _ (⟨a1_0, a1_1⟩ : S37) )) (Reps.none _ _))); intro v563 w16 ho17 hb hg_ hnew_; clear hg_ hnew_; (first | rw [← Ny562.out] at ho17 | (simp only [Int.reduceToNat] at ho17; rw [← Ny562.out] at ho17)); have HO564 := Aside0.mk (Kd.R_lower (Kd.R_newB (Kd.R_newB ho17 (g := gb559) (o := .cells #[.int .i64 a1_0, .int .i64 a1_1] 37 (0, 0)) (pk BK559)) (g := gb560) (o := .cells #[.int .i64 0, .int .i64 0] 37 (0, 0)) (pk BK560)) (below_size (bnow HB))); replace BK558 := bb BK558 hb; replace BK559 := bb BK559 hb; replace BK560 := bb BK560 hb; replace HB := bst HB hb; clear hb ho17; obtain ⟨Ao18, co18, eo18⟩ := Kd.R_slice HO564.out; subst eo18) | (go_at_call 49; (with_reducible refine (grids_point.calls k _ _ y562 t565 _ ?side1 ?side2 A9.out).mono ?_); (case side1 => repeat (first | exact (Kd.R_reads' HO564.out).2.2 | (with_reducible refine Kd.C_alloc ?_ _) | (with_reducible refine Kd.C_drewN ?_ _) | (with_reducible refine Kd.C_drew ?_))); (case side2 => exact (Kd.R_reads' HO564.out).2.1); rintro e w19 ⟨rfl, hb⟩; have n0_ := Aside0.mk (Kd.R_below (by (with_reducible repeat (first | apply Kd.R_alloc | apply Kd.R_drewN | apply Kd.R_drew)); exact HO564.out) hb); have n1_ := bb BK558 hb; have n2_ := bb BK559 hb; have n3_ := bb BK560 hb; have n4_ := bst HB hb; clear HO564; clear BK558; clear BK559; clear BK560; clear HB; have HO564 := n0_; have BK558 := n1_; have BK559 := n2_; have BK560 := n3_; have HB := n4_; clear n0_ n1_ n2_ n3_ n4_; (try clear hb); (try clear hb2); (try clear hk); (try clear hi)))
      go_meet
      case rel => exact ⟨_, (!t565), (by first | rfl | (simp; done) | (simp [*]; done)), H', ⟨by first | omega | exact Nat.le_refl _⟩, ⟨pk BK558⟩, ⟨pk BK559⟩, ⟨pk BK560⟩, ⟨bnow HB⟩⟩
    · replace c8 := Bool.eq_false_iff.mpr c8
      subst c8
      have H1 : (grids_Apply.j0 k true a0_0 a0_1 a0_2 a0_3 a0_4 a0_5 a1_0 a1_1) = some (r1, r2, r3) := by rw [if_neg (show ¬ (false = true) by decide)] at H; exact H
      clear H
      have H := H1
      clear H1
      have H' := Aside0.mk H
      clear H
      have hnb20 := NB558_559.out
      have hnc20 := NB559_558.out
      have hnb21 := NB558_560.out
      have hnc21 := NB560_558.out
      have hcz22_0 : w6.cell? ⟨gb558, 0, none⟩ = some (.int .i64 a0_0) := (blk_cell BK558.out 0).trans rfl
      have hcz22_1 : w6.cell? ⟨gb558, 1, none⟩ = some (.int .i64 a0_1) := (blk_cell BK558.out 1).trans rfl
      have hcz22_2 : w6.cell? ⟨gb558, 2, none⟩ = some (.int .i64 a0_2) := (blk_cell BK558.out 2).trans rfl
      have hcz22_3 : w6.cell? ⟨gb558, 3, none⟩ = some (.int .i64 a0_3) := (blk_cell BK558.out 3).trans rfl
      have hcz22_4 : w6.cell? ⟨gb558, 4, none⟩ = some (.int .i64 a0_4) := (blk_cell BK558.out 4).trans rfl
      have hcz22_5 : w6.cell? ⟨gb558, 5, none⟩ = some (.int .i64 a0_5) := (blk_cell BK558.out 5).trans rfl
      have hfz22_0 := blk_frozen BK558.out 0
      have hfz22_1 := blk_frozen BK558.out 1
      have hfz22_2 := blk_frozen BK558.out 2
      have hfz22_3 := blk_frozen BK558.out 3
      have hfz22_4 := blk_frozen BK558.out 4
      have hfz22_5 := blk_frozen BK558.out 5
      go_wp2_with (first | ((with_reducible refine gate_callee (f := 62) rfl ?_); refine goesL_ (some 8) rfl rfl Try.func62 (by kernel_rfl) rfl #[.agg #[.int .i64 a0_0, .int .i64 a0_1, .int .i64 a0_2, .int .i64 a0_3, .int .i64 a0_4, .int .i64 a0_5]] rfl am ?_; (with_reducible refine (grids_move.calls k a0_0 a0_1 a0_2 a0_3 a0_4 a0_5 false _ A7.out).mono ?_); rintro e w23 ⟨rfl, hb⟩; refine ⟨_, rfl, ?_⟩; replace BK558 := bb BK558 hb; replace BK559 := bb BK559 hb; replace BK560 := bb BK560 hb; replace HB := bst HB hb; clear hb))
      go_meet
      case rel => exact ⟨_, (true), (by first | rfl | (simp; done) | (simp [*]; done)), H', ⟨by first | omega | exact Nat.le_refl _⟩, ⟨pk BK558⟩, ⟨pk BK559⟩, ⟨pk BK560⟩, ⟨bnow HB⟩⟩
  case rest =>
    clear HC3
    try clear c1
    try clear c2
    try clear p2
    try clear c6
    try clear c8
    try clear c10
    try clear c11
    try clear c14
    try clear c20
    try clear c21
    try clear hcz12_0
    try clear hcz12_1
    try clear hcz12_2
    try clear hcz12_3
    try clear hcz12_4
    try clear hcz12_5
    try clear hcz15_0
    try clear hcz15_1
    try clear hcz22_0
    try clear hcz22_1
    try clear hcz22_2
    try clear hcz22_3
    try clear hcz22_4
    try clear hcz22_5
    try clear hfz12_0
    try clear hfz12_1
    try clear hfz12_2
    try clear hfz12_3
    try clear hfz12_4
    try clear hfz12_5
    try clear hfz15_0
    try clear hfz15_1
    try clear hfz22_0
    try clear hfz22_1
    try clear hfz22_2
    try clear hfz22_3
    try clear hfz22_4
    try clear hfz22_5
    obtain ⟨kq, x15_2, rfl, HA, HJ2, BK558, BK559, BK560, HB⟩ := hcut
    cases kq with
    | zero => exact absurd HA.out (by simp [grids_Apply.j0])
    | succ kj2 =>
      have H := HA.out
      clear HA
      simp only [grids_Apply.j0] at H
      by_cases c24 : x15_2 = true
      · subst c24
        have H1 : (some (0, 0, 2)) = some (r1, r2, r3) := by rw [if_pos rfl] at H; exact H
        clear H
        have H := H1
        clear H1
        simp only [Option.some.injEq, Prod.mk.injEq] at H
        obtain ⟨rfl, rfl, rfl⟩ := H
        have hnb25 := NB560_558.out
        have hnc25 := NB558_560.out
        have hnb26 := NB560_559.out
        have hnc26 := NB559_560.out
        have hcz27_0 : wc.cell? ⟨gb560, 0, none⟩ = some (.int .i64 0) := (blk_cell BK560.out 0).trans rfl
        have hcz27_1 : wc.cell? ⟨gb560, 1, none⟩ = some (.int .i64 0) := (blk_cell BK560.out 1).trans rfl
        have hfz27_0 := blk_frozen BK560.out 0
        have hfz27_1 := blk_frozen BK560.out 1
        go_wp2
        refine bodyPost_ret (results_ct rfl _ _ gb560 37 #[.int .i64 0, .int .i64 0] (0, 0) _ rfl (by (with_reducible repeat (first | refine blk_drewN ?_ _ | refine blk_drew ?_ | refine blk_alloc ?_ _)); refine blk_put (cs := #[.int .i64 0, .int .i64 0]) ?_ 1 _ rfl; (with_reducible repeat (first | refine blk_drewN ?_ _ | refine blk_drew ?_ | refine blk_alloc ?_ _)); refine blk_put (cs := #[.int .i64 0, .int .i64 0]) ?_ 0 _ rfl; (with_reducible repeat (first | refine blk_drewN ?_ _ | refine blk_drew ?_ | refine blk_alloc ?_ _)); exact BK560.out) Try.underlying37 rfl (by kernel_rfl)) rfl ?_
        exact ⟨by first | rfl | (simp [errW_none, errW_some] <;> rfl) | (simp [*, errW_none, errW_some] <;> rfl), by repeat (first | (with_reducible first | exact HB.out | apply below_alloc | apply pw_below_drewN | apply below_drew1 | refine below_set ?_ GE558.out | refine below_set ?_ GE559.out | refine below_set ?_ GE560.out) | exact HB.out)⟩
      · replace c24 := Bool.eq_false_iff.mpr c24
        subst c24
        have H1 : ((grids_image.f a0_0 a0_1 a0_2 a0_3 a0_4 a0_5 a1_0 a1_1).bind fun bt566 => ((grids_point.f kj2 (([(⟨bt566.1, bt566.2⟩ : S37)] : List (S37)))).bind fun t572 => (if t572 = true then (some (bt566.1, bt566.2, 0)) else (some (0, 0, 7))))) = some (r1, r2, r3) := by rw [if_neg (show ¬ (false = true) by decide)] at H; exact H
        clear H
        have H := H1
        clear H1
        replace H := Option.bind_eq_some_iff.mp H
        obtain ⟨⟨t566, t567⟩, A280, H⟩ := H
        replace H : ((grids_point.f kj2 (([(⟨t566, t567⟩ : S37)] : List (S37)))).bind fun t572 => (if t572 = true then (some (t566, t567, 0)) else (some (0, 0, 7)))) = some (r1, r2, r3) := H
        have A28 := Aside0.mk A280
        clear A280
        obtain ⟨y569, hy569⟩ : ∃ y_ : List (S37), y_ = (([(⟨t566, t567⟩ : S37)] : List (S37))) := ⟨_, rfl⟩
        replace H : ((grids_point.f kj2 y569).bind fun t572 => (if t572 = true then (some (t566, t567, 0)) else (some (0, 0, 7)))) = some (r1, r2, r3) := by first | (rw [hy569]; with_reducible exact H) | (have H2_ := (Option.bind_some _ _).symm.trans H; rw [hy569]; with_reducible exact H2_) | (have H2_ := (Option.bind_some _ _).symm.trans H; with_reducible exact H2_) | with_reducible exact H | (rw [hy569]; exact H) | exact H
        have Ny569 := Aside0.mk hy569
        clear hy569
        replace H := Option.bind_eq_some_iff.mp H
        obtain ⟨t572, A290, H⟩ := H
        replace H : (if t572 = true then (some (t566, t567, 0)) else (some (0, 0, 7))) = some (r1, r2, r3) := H
        have A29 := Aside0.mk A290
        clear A290
        by_cases c30 : t572 = true
        · subst c30
          have H1 : (some (t566, t567, 0)) = some (r1, r2, r3) := by rw [if_pos rfl] at H; exact H
          clear H
          have H := H1
          clear H1
          simp only [Option.some.injEq, Prod.mk.injEq] at H
          obtain ⟨rfl, rfl, rfl⟩ := H
          have hnb31 := NB558_559.out
          have hnc31 := NB559_558.out
          have hnb32 := NB558_560.out
          have hnc32 := NB560_558.out
          have hcz33_0 : wc.cell? ⟨gb558, 0, none⟩ = some (.int .i64 a0_0) := (blk_cell BK558.out 0).trans rfl
          have hcz33_1 : wc.cell? ⟨gb558, 1, none⟩ = some (.int .i64 a0_1) := (blk_cell BK558.out 1).trans rfl
          have hcz33_2 : wc.cell? ⟨gb558, 2, none⟩ = some (.int .i64 a0_2) := (blk_cell BK558.out 2).trans rfl
          have hcz33_3 : wc.cell? ⟨gb558, 3, none⟩ = some (.int .i64 a0_3) := (blk_cell BK558.out 3).trans rfl
          have hcz33_4 : wc.cell? ⟨gb558, 4, none⟩ = some (.int .i64 a0_4) := (blk_cell BK558.out 4).trans rfl
          have hcz33_5 : wc.cell? ⟨gb558, 5, none⟩ = some (.int .i64 a0_5) := (blk_cell BK558.out 5).trans rfl
          have hfz33_0 := blk_frozen BK558.out 0
          have hfz33_1 := blk_frozen BK558.out 1
          have hfz33_2 := blk_frozen BK558.out 2
          have hfz33_3 := blk_frozen BK558.out 3
          have hfz33_4 := blk_frozen BK558.out 4
          have hfz33_5 := blk_frozen BK558.out 5
          have hnb34 := NB559_560.out
          have hnc34 := NB560_559.out
          have hcz35_0 : wc.cell? ⟨gb559, 0, none⟩ = some (.int .i64 a1_0) := (blk_cell BK559.out 0).trans rfl
          have hcz35_1 : wc.cell? ⟨gb559, 1, none⟩ = some (.int .i64 a1_1) := (blk_cell BK559.out 1).trans rfl
          have hfz35_0 := blk_frozen BK559.out 0
          have hfz35_1 := blk_frozen BK559.out 1
          go_wp2_with (first | ((with_reducible refine gate_callee (f := 63) rfl ?_); refine goesL_ (some 19) rfl rfl Try.func63 (by kernel_rfl) rfl #[.agg #[.int .i64 a0_0, .int .i64 a0_1, .int .i64 a0_2, .int .i64 a0_3, .int .i64 a0_4, .int .i64 a0_5], .agg #[.int .i64 a1_0, .int .i64 a1_1]] rfl am ?_; (with_reducible refine (grids_image.calls a0_0 a0_1 a0_2 a0_3 a0_4 a0_5 a1_0 a1_1 t566 t567 _ A28.out).mono ?_); rintro e w36 ⟨rfl, hb⟩; refine ⟨_, rfl, ?_⟩; replace BK558 := bb BK558 hb; replace BK559 := bb BK559 hb; replace BK560 := bb BK560 hb; replace HB := bst HB hb; clear hb) | ((with_reducible refine gate_dst (N := 6) rfl ?_); (try (refine gate_guard (by rfl) ?_; dsimp only)); refine box_event ?hg (N := 6) ?hd (cs := #[.int .i64 0, .int .i64 0]) (t := 37) ?hr ?_; (case hd => rfl); (case hg => rfl); (case hr => first | (go_simp; done) | (go_simp; rfl)); intro gb568 hg w37 hbox hb; have BK568 := Aside0.mk (hbox); have GW568 := Aside0.mk ((by rw [hg]; exact (below_size (bnow HB)) : w.heap.size ≤ gb568)); have GE568 := Aside0.mk ((by rw [hg]; exact (below_size (bnow HB)) : w.heap.size ≤ gb568)); have NB558_568 := Aside0.mk ((by rw [hg]; exact Nat.ne_of_lt (blk_lt (g := gb558) (o := .cells #[.int .i64 a0_0, .int .i64 a0_1, .int .i64 a0_2, .int .i64 a0_3, .int .i64 a0_4, .int .i64 a0_5] 55 (0, 0)) (pk BK558)) : gb558 ≠ gb568)); have NB568_558 := Aside0.mk ((by rw [hg]; exact Nat.ne_of_gt (blk_lt (g := gb558) (o := .cells #[.int .i64 a0_0, .int .i64 a0_1, .int .i64 a0_2, .int .i64 a0_3, .int .i64 a0_4, .int .i64 a0_5] 55 (0, 0)) (pk BK558)) : gb568 ≠ gb558)); have NB559_568 := Aside0.mk ((by rw [hg]; exact Nat.ne_of_lt (blk_lt (g := gb559) (o := .cells #[.int .i64 a1_0, .int .i64 a1_1] 37 (0, 0)) (pk BK559)) : gb559 ≠ gb568)); have NB568_559 := Aside0.mk ((by rw [hg]; exact Nat.ne_of_gt (blk_lt (g := gb559) (o := .cells #[.int .i64 a1_0, .int .i64 a1_1] 37 (0, 0)) (pk BK559)) : gb568 ≠ gb559)); have NB560_568 := Aside0.mk ((by rw [hg]; exact Nat.ne_of_lt (blk_lt (g := gb560) (o := .cells #[.int .i64 0, .int .i64 0] 37 (0, 0)) (pk BK560)) : gb560 ≠ gb568)); have NB568_560 := Aside0.mk ((by rw [hg]; exact Nat.ne_of_gt (blk_lt (g := gb560) (o := .cells #[.int .i64 0, .int .i64 0] 37 (0, 0)) (pk BK560)) : gb568 ≠ gb560)); replace BK558 := bb BK558 hb; replace BK559 := bb BK559 hb; replace BK560 := bb BK560 hb; replace HB := bst HB hb; clear hb hbox hg; have hnb38 := NB568_558.out; have hnc38 := NB558_568.out; have hnb39 := NB568_559.out; have hnc39 := NB559_568.out; have hnb40 := NB568_560.out; have hnc40 := NB560_568.out; have hcz41_0 : w37.cell? ⟨gb568, 0, none⟩ = some (.int .i64 0) := (blk_cell BK568.out 0).trans rfl; have hcz41_1 : w37.cell? ⟨gb568, 1, none⟩ = some (.int .i64 0) := (blk_cell BK568.out 1).trans rfl; have hfz41_0 := blk_frozen BK568.out 0; have hfz41_1 := blk_frozen BK568.out 1) | ((with_reducible refine gate_dst (N := 21) rfl ?_); (try (refine gate_guard (by rfl) ?_; dsimp only)); refine Kd.R_lit k37 _ 37 ?hg (N := 21) ?hd (xs := ([(⟨t566, t567⟩ : S37)] : List (S37))) (inner := [.int .i64 t566, .int .i64 t567]) (ok := fun _ => True) (okp := fun _ => True) ?hr ?hp (fun _ hk => hk) trivial (Below.refl _ _) (Nat.le_refl _) (by simp) ?_; (case hd => rfl); (case hg => rfl); (case hr => first | (go_simp; done) | (go_simp; rfl)); (case hp => exact (Reps.c2 (show Kd.M k37 _ _ _ (⟨t566, t567⟩ : S37) [.int .i64 t566, .int .i64 t567] from (k37_mkM _ _ _ (⟨t566, t567⟩ : S37) )) (Reps.none _ _))); intro v570 w42 ho43 hb hg_ hnew_; clear hg_ hnew_; (first | rw [← Ny569.out] at ho43 | (simp only [Int.reduceToNat] at ho43; rw [← Ny569.out] at ho43)); have n0_ := Aside0.mk (Kd.R_lower (Kd.R_newB (Kd.R_newB (Kd.R_newB ho43 (g := gb559) (o := .cells #[.int .i64 a1_0, .int .i64 a1_1] 37 (0, 0)) (by (with_reducible repeat (first | refine blk_drewN ?_ _ | refine blk_drew ?_ | refine blk_alloc ?_ _)); refine blk_far ?_ NB559_568.out _; (with_reducible repeat (first | refine blk_drewN ?_ _ | refine blk_drew ?_ | refine blk_alloc ?_ _)); refine blk_far ?_ NB559_568.out _; (with_reducible repeat (first | refine blk_drewN ?_ _ | refine blk_drew ?_ | refine blk_alloc ?_ _)); exact BK559.out)) (g := gb560) (o := .cells #[.int .i64 0, .int .i64 0] 37 (0, 0)) (by (with_reducible repeat (first | refine blk_drewN ?_ _ | refine blk_drew ?_ | refine blk_alloc ?_ _)); refine blk_far ?_ NB560_568.out _; (with_reducible repeat (first | refine blk_drewN ?_ _ | refine blk_drew ?_ | refine blk_alloc ?_ _)); refine blk_far ?_ NB560_568.out _; (with_reducible repeat (first | refine blk_drewN ?_ _ | refine blk_drew ?_ | refine blk_alloc ?_ _)); exact BK560.out)) (g := gb568) (o := .cells #[.int .i64 t566, .int .i64 t567] 37 (0, 0)) (by (with_reducible repeat (first | refine blk_drewN ?_ _ | refine blk_drew ?_ | refine blk_alloc ?_ _)); refine blk_put (cs := #[.int .i64 t566, .int .i64 0]) ?_ 1 _ rfl; (with_reducible repeat (first | refine blk_drewN ?_ _ | refine blk_drew ?_ | refine blk_alloc ?_ _)); refine blk_put (cs := #[.int .i64 0, .int .i64 0]) ?_ 0 _ rfl; (with_reducible repeat (first | refine blk_drewN ?_ _ | refine blk_drew ?_ | refine blk_alloc ?_ _)); exact BK568.out)) (below_size (bnow HB))); have n1_ := Aside0.mk (blk_below (g := gb558) (o := .cells #[.int .i64 a0_0, .int .i64 a0_1, .int .i64 a0_2, .int .i64 a0_3, .int .i64 a0_4, .int .i64 a0_5] 55 (0, 0)) (by (with_reducible repeat (first | refine blk_drewN ?_ _ | refine blk_drew ?_ | refine blk_alloc ?_ _)); refine blk_far ?_ NB558_568.out _; (with_reducible repeat (first | refine blk_drewN ?_ _ | refine blk_drew ?_ | refine blk_alloc ?_ _)); refine blk_far ?_ NB558_568.out _; (with_reducible repeat (first | refine blk_drewN ?_ _ | refine blk_drew ?_ | refine blk_alloc ?_ _)); exact BK558.out) hb); have n2_ := Aside0.mk (blk_below (g := gb559) (o := .cells #[.int .i64 a1_0, .int .i64 a1_1] 37 (0, 0)) (by (with_reducible repeat (first | refine blk_drewN ?_ _ | refine blk_drew ?_ | refine blk_alloc ?_ _)); refine blk_far ?_ NB559_568.out _; (with_reducible repeat (first | refine blk_drewN ?_ _ | refine blk_drew ?_ | refine blk_alloc ?_ _)); refine blk_far ?_ NB559_568.out _; (with_reducible repeat (first | refine blk_drewN ?_ _ | refine blk_drew ?_ | refine blk_alloc ?_ _)); exact BK559.out) hb); have n3_ := Aside0.mk (blk_below (g := gb560) (o := .cells #[.int .i64 0, .int .i64 0] 37 (0, 0)) (by (with_reducible repeat (first | refine blk_drewN ?_ _ | refine blk_drew ?_ | refine blk_alloc ?_ _)); refine blk_far ?_ NB560_568.out _; (with_reducible repeat (first | refine blk_drewN ?_ _ | refine blk_drew ?_ | refine blk_alloc ?_ _)); refine blk_far ?_ NB560_568.out _; (with_reducible repeat (first | refine blk_drewN ?_ _ | refine blk_drew ?_ | refine blk_alloc ?_ _)); exact BK560.out) hb); have n4_ := Aside0.mk (blk_below (g := gb568) (o := .cells #[.int .i64 t566, .int .i64 t567] 37 (0, 0)) (by (with_reducible repeat (first | refine blk_drewN ?_ _ | refine blk_drew ?_ | refine blk_alloc ?_ _)); refine blk_put (cs := #[.int .i64 t566, .int .i64 0]) ?_ 1 _ rfl; (with_reducible repeat (first | refine blk_drewN ?_ _ | refine blk_drew ?_ | refine blk_alloc ?_ _)); refine blk_put (cs := #[.int .i64 0, .int .i64 0]) ?_ 0 _ rfl; (with_reducible repeat (first | refine blk_drewN ?_ _ | refine blk_drew ?_ | refine blk_alloc ?_ _)); exact BK568.out) hb); have n5_ := bst HB hb; clear BK558; clear BK559; clear BK560; clear BK568; clear HB; have HO571 := n0_; have BK558 := n1_; have BK559 := n2_; have BK560 := n3_; have BK568 := n4_; have HB := n5_; clear n0_ n1_ n2_ n3_ n4_ n5_; clear hb ho43; obtain ⟨Ao44, co44, eo44⟩ := Kd.R_slice HO571.out; subst eo44) | ((with_reducible refine gate_callee (f := 49) rfl ?_); refine goesL_ (some 22) rfl rfl Try.func49 (by kernel_rfl) rfl #[.slice Ao44 y569.length co44] rfl am ?_; (with_reducible refine (grids_point.calls kj2 _ _ y569 true _ ?side1 ?side2 A29.out).mono ?_); (case side1 => repeat (first | exact (Kd.R_reads' HO571.out).2.2 | (with_reducible refine Kd.C_alloc ?_ _) | (with_reducible refine Kd.C_drewN ?_ _) | (with_reducible refine Kd.C_drew ?_))); (case side2 => exact (Kd.R_reads' HO571.out).2.1); rintro e w45 ⟨rfl, hb⟩; refine ⟨_, rfl, ?_⟩; have n0_ := Aside0.mk (Kd.R_below (by (with_reducible repeat (first | apply Kd.R_alloc | apply Kd.R_drewN | apply Kd.R_drew)); exact HO571.out) hb); have n1_ := bb BK558 hb; have n2_ := bb BK559 hb; have n3_ := bb BK560 hb; have n4_ := bb BK568 hb; have n5_ := bst HB hb; clear HO571; clear BK558; clear BK559; clear BK560; clear BK568; clear HB; have HO571 := n0_; have BK558 := n1_; have BK559 := n2_; have BK560 := n3_; have BK568 := n4_; have HB := n5_; clear n0_ n1_ n2_ n3_ n4_ n5_; (try clear hb); (try clear hb2); (try clear hk); (try clear hi); have hcz46_0 : w45.cell? ⟨gb568, 0, none⟩ = some (.int .i64 t566) := (blk_cell BK568.out 0).trans rfl; have hcz46_1 : w45.cell? ⟨gb568, 1, none⟩ = some (.int .i64 t567) := (blk_cell BK568.out 1).trans rfl; have hfz46_0 := blk_frozen BK568.out 0; have hfz46_1 := blk_frozen BK568.out 1; have hcz47_0 : w45.cell? ⟨gb560, 0, none⟩ = some (.int .i64 0) := (blk_cell BK560.out 0).trans rfl; have hcz47_1 : w45.cell? ⟨gb560, 1, none⟩ = some (.int .i64 0) := (blk_cell BK560.out 1).trans rfl; have hfz47_0 := blk_frozen BK560.out 0; have hfz47_1 := blk_frozen BK560.out 1))
          refine bodyPost_ret (results_ct rfl _ _ gb560 37 #[.int .i64 t566, .int .i64 t567] (0, 0) _ rfl (by (with_reducible repeat (first | refine blk_drewN ?_ _ | refine blk_drew ?_ | refine blk_alloc ?_ _)); refine blk_put (cs := #[.int .i64 t566, .int .i64 0]) ?_ 1 _ rfl; (with_reducible repeat (first | refine blk_drewN ?_ _ | refine blk_drew ?_ | refine blk_alloc ?_ _)); refine blk_put (cs := #[.int .i64 0, .int .i64 0]) ?_ 0 _ rfl; (with_reducible repeat (first | refine blk_drewN ?_ _ | refine blk_drew ?_ | refine blk_alloc ?_ _)); exact BK560.out) Try.underlying37 rfl (by kernel_rfl)) rfl ?_
          exact ⟨by first | rfl | (simp [errW_none, errW_some] <;> rfl) | (simp [*, errW_none, errW_some] <;> rfl), by repeat (first | (with_reducible first | exact HB.out | apply below_alloc | apply pw_below_drewN | apply below_drew1 | refine below_set ?_ GE558.out | refine below_set ?_ GE559.out | refine below_set ?_ GE560.out | refine below_set ?_ GE568.out) | exact HB.out)⟩
        · replace c30 := Bool.eq_false_iff.mpr c30
          subst c30
          have H1 : (some (0, 0, 7)) = some (r1, r2, r3) := by rw [if_neg (show ¬ (false = true) by decide)] at H; exact H
          clear H
          have H := H1
          clear H1
          simp only [Option.some.injEq, Prod.mk.injEq] at H
          obtain ⟨rfl, rfl, rfl⟩ := H
          have hnb48 := NB558_559.out
          have hnc48 := NB559_558.out
          have hnb49 := NB558_560.out
          have hnc49 := NB560_558.out
          have hcz50_0 : wc.cell? ⟨gb558, 0, none⟩ = some (.int .i64 a0_0) := (blk_cell BK558.out 0).trans rfl
          have hcz50_1 : wc.cell? ⟨gb558, 1, none⟩ = some (.int .i64 a0_1) := (blk_cell BK558.out 1).trans rfl
          have hcz50_2 : wc.cell? ⟨gb558, 2, none⟩ = some (.int .i64 a0_2) := (blk_cell BK558.out 2).trans rfl
          have hcz50_3 : wc.cell? ⟨gb558, 3, none⟩ = some (.int .i64 a0_3) := (blk_cell BK558.out 3).trans rfl
          have hcz50_4 : wc.cell? ⟨gb558, 4, none⟩ = some (.int .i64 a0_4) := (blk_cell BK558.out 4).trans rfl
          have hcz50_5 : wc.cell? ⟨gb558, 5, none⟩ = some (.int .i64 a0_5) := (blk_cell BK558.out 5).trans rfl
          have hfz50_0 := blk_frozen BK558.out 0
          have hfz50_1 := blk_frozen BK558.out 1
          have hfz50_2 := blk_frozen BK558.out 2
          have hfz50_3 := blk_frozen BK558.out 3
          have hfz50_4 := blk_frozen BK558.out 4
          have hfz50_5 := blk_frozen BK558.out 5
          have hnb51 := NB559_560.out
          have hnc51 := NB560_559.out
          have hcz52_0 : wc.cell? ⟨gb559, 0, none⟩ = some (.int .i64 a1_0) := (blk_cell BK559.out 0).trans rfl
          have hcz52_1 : wc.cell? ⟨gb559, 1, none⟩ = some (.int .i64 a1_1) := (blk_cell BK559.out 1).trans rfl
          have hfz52_0 := blk_frozen BK559.out 0
          have hfz52_1 := blk_frozen BK559.out 1
          go_wp2_with (first | ((with_reducible refine gate_callee (f := 63) rfl ?_); refine goesL_ (some 19) rfl rfl Try.func63 (by kernel_rfl) rfl #[.agg #[.int .i64 a0_0, .int .i64 a0_1, .int .i64 a0_2, .int .i64 a0_3, .int .i64 a0_4, .int .i64 a0_5], .agg #[.int .i64 a1_0, .int .i64 a1_1]] rfl am ?_; (with_reducible refine (grids_image.calls a0_0 a0_1 a0_2 a0_3 a0_4 a0_5 a1_0 a1_1 t566 t567 _ A28.out).mono ?_); rintro e w53 ⟨rfl, hb⟩; refine ⟨_, rfl, ?_⟩; replace BK558 := bb BK558 hb; replace BK559 := bb BK559 hb; replace BK560 := bb BK560 hb; replace HB := bst HB hb; clear hb) | ((with_reducible refine gate_dst (N := 6) rfl ?_); (try (refine gate_guard (by rfl) ?_; dsimp only)); refine box_event ?hg (N := 6) ?hd (cs := #[.int .i64 0, .int .i64 0]) (t := 37) ?hr ?_; (case hd => rfl); (case hg => rfl); (case hr => first | (go_simp; done) | (go_simp; rfl)); intro gb568 hg w54 hbox hb; have BK568 := Aside0.mk (hbox); have GW568 := Aside0.mk ((by rw [hg]; exact (below_size (bnow HB)) : w.heap.size ≤ gb568)); have GE568 := Aside0.mk ((by rw [hg]; exact (below_size (bnow HB)) : w.heap.size ≤ gb568)); have NB558_568 := Aside0.mk ((by rw [hg]; exact Nat.ne_of_lt (blk_lt (g := gb558) (o := .cells #[.int .i64 a0_0, .int .i64 a0_1, .int .i64 a0_2, .int .i64 a0_3, .int .i64 a0_4, .int .i64 a0_5] 55 (0, 0)) (pk BK558)) : gb558 ≠ gb568)); have NB568_558 := Aside0.mk ((by rw [hg]; exact Nat.ne_of_gt (blk_lt (g := gb558) (o := .cells #[.int .i64 a0_0, .int .i64 a0_1, .int .i64 a0_2, .int .i64 a0_3, .int .i64 a0_4, .int .i64 a0_5] 55 (0, 0)) (pk BK558)) : gb568 ≠ gb558)); have NB559_568 := Aside0.mk ((by rw [hg]; exact Nat.ne_of_lt (blk_lt (g := gb559) (o := .cells #[.int .i64 a1_0, .int .i64 a1_1] 37 (0, 0)) (pk BK559)) : gb559 ≠ gb568)); have NB568_559 := Aside0.mk ((by rw [hg]; exact Nat.ne_of_gt (blk_lt (g := gb559) (o := .cells #[.int .i64 a1_0, .int .i64 a1_1] 37 (0, 0)) (pk BK559)) : gb568 ≠ gb559)); have NB560_568 := Aside0.mk ((by rw [hg]; exact Nat.ne_of_lt (blk_lt (g := gb560) (o := .cells #[.int .i64 0, .int .i64 0] 37 (0, 0)) (pk BK560)) : gb560 ≠ gb568)); have NB568_560 := Aside0.mk ((by rw [hg]; exact Nat.ne_of_gt (blk_lt (g := gb560) (o := .cells #[.int .i64 0, .int .i64 0] 37 (0, 0)) (pk BK560)) : gb568 ≠ gb560)); replace BK558 := bb BK558 hb; replace BK559 := bb BK559 hb; replace BK560 := bb BK560 hb; replace HB := bst HB hb; clear hb hbox hg; have hnb55 := NB568_558.out; have hnc55 := NB558_568.out; have hnb56 := NB568_559.out; have hnc56 := NB559_568.out; have hnb57 := NB568_560.out; have hnc57 := NB560_568.out; have hcz58_0 : w54.cell? ⟨gb568, 0, none⟩ = some (.int .i64 0) := (blk_cell BK568.out 0).trans rfl; have hcz58_1 : w54.cell? ⟨gb568, 1, none⟩ = some (.int .i64 0) := (blk_cell BK568.out 1).trans rfl; have hfz58_0 := blk_frozen BK568.out 0; have hfz58_1 := blk_frozen BK568.out 1) | ((with_reducible refine gate_dst (N := 21) rfl ?_); (try (refine gate_guard (by rfl) ?_; dsimp only)); refine Kd.R_lit k37 _ 37 ?hg (N := 21) ?hd (xs := ([(⟨t566, t567⟩ : S37)] : List (S37))) (inner := [.int .i64 t566, .int .i64 t567]) (ok := fun _ => True) (okp := fun _ => True) ?hr ?hp (fun _ hk => hk) trivial (Below.refl _ _) (Nat.le_refl _) (by simp) ?_; (case hd => rfl); (case hg => rfl); (case hr => first | (go_simp; done) | (go_simp; rfl)); (case hp => exact (Reps.c2 (show Kd.M k37 _ _ _ (⟨t566, t567⟩ : S37) [.int .i64 t566, .int .i64 t567] from (k37_mkM _ _ _ (⟨t566, t567⟩ : S37) )) (Reps.none _ _))); intro v570 w59 ho60 hb hg_ hnew_; clear hg_ hnew_; (first | rw [← Ny569.out] at ho60 | (simp only [Int.reduceToNat] at ho60; rw [← Ny569.out] at ho60)); have n0_ := Aside0.mk (Kd.R_lower (Kd.R_newB (Kd.R_newB (Kd.R_newB ho60 (g := gb559) (o := .cells #[.int .i64 a1_0, .int .i64 a1_1] 37 (0, 0)) (by (with_reducible repeat (first | refine blk_drewN ?_ _ | refine blk_drew ?_ | refine blk_alloc ?_ _)); refine blk_far ?_ NB559_568.out _; (with_reducible repeat (first | refine blk_drewN ?_ _ | refine blk_drew ?_ | refine blk_alloc ?_ _)); refine blk_far ?_ NB559_568.out _; (with_reducible repeat (first | refine blk_drewN ?_ _ | refine blk_drew ?_ | refine blk_alloc ?_ _)); exact BK559.out)) (g := gb560) (o := .cells #[.int .i64 0, .int .i64 0] 37 (0, 0)) (by (with_reducible repeat (first | refine blk_drewN ?_ _ | refine blk_drew ?_ | refine blk_alloc ?_ _)); refine blk_far ?_ NB560_568.out _; (with_reducible repeat (first | refine blk_drewN ?_ _ | refine blk_drew ?_ | refine blk_alloc ?_ _)); refine blk_far ?_ NB560_568.out _; (with_reducible repeat (first | refine blk_drewN ?_ _ | refine blk_drew ?_ | refine blk_alloc ?_ _)); exact BK560.out)) (g := gb568) (o := .cells #[.int .i64 t566, .int .i64 t567] 37 (0, 0)) (by (with_reducible repeat (first | refine blk_drewN ?_ _ | refine blk_drew ?_ | refine blk_alloc ?_ _)); refine blk_put (cs := #[.int .i64 t566, .int .i64 0]) ?_ 1 _ rfl; (with_reducible repeat (first | refine blk_drewN ?_ _ | refine blk_drew ?_ | refine blk_alloc ?_ _)); refine blk_put (cs := #[.int .i64 0, .int .i64 0]) ?_ 0 _ rfl; (with_reducible repeat (first | refine blk_drewN ?_ _ | refine blk_drew ?_ | refine blk_alloc ?_ _)); exact BK568.out)) (below_size (bnow HB))); have n1_ := Aside0.mk (blk_below (g := gb558) (o := .cells #[.int .i64 a0_0, .int .i64 a0_1, .int .i64 a0_2, .int .i64 a0_3, .int .i64 a0_4, .int .i64 a0_5] 55 (0, 0)) (by (with_reducible repeat (first | refine blk_drewN ?_ _ | refine blk_drew ?_ | refine blk_alloc ?_ _)); refine blk_far ?_ NB558_568.out _; (with_reducible repeat (first | refine blk_drewN ?_ _ | refine blk_drew ?_ | refine blk_alloc ?_ _)); refine blk_far ?_ NB558_568.out _; (with_reducible repeat (first | refine blk_drewN ?_ _ | refine blk_drew ?_ | refine blk_alloc ?_ _)); exact BK558.out) hb); have n2_ := Aside0.mk (blk_below (g := gb559) (o := .cells #[.int .i64 a1_0, .int .i64 a1_1] 37 (0, 0)) (by (with_reducible repeat (first | refine blk_drewN ?_ _ | refine blk_drew ?_ | refine blk_alloc ?_ _)); refine blk_far ?_ NB559_568.out _; (with_reducible repeat (first | refine blk_drewN ?_ _ | refine blk_drew ?_ | refine blk_alloc ?_ _)); refine blk_far ?_ NB559_568.out _; (with_reducible repeat (first | refine blk_drewN ?_ _ | refine blk_drew ?_ | refine blk_alloc ?_ _)); exact BK559.out) hb); have n3_ := Aside0.mk (blk_below (g := gb560) (o := .cells #[.int .i64 0, .int .i64 0] 37 (0, 0)) (by (with_reducible repeat (first | refine blk_drewN ?_ _ | refine blk_drew ?_ | refine blk_alloc ?_ _)); refine blk_far ?_ NB560_568.out _; (with_reducible repeat (first | refine blk_drewN ?_ _ | refine blk_drew ?_ | refine blk_alloc ?_ _)); refine blk_far ?_ NB560_568.out _; (with_reducible repeat (first | refine blk_drewN ?_ _ | refine blk_drew ?_ | refine blk_alloc ?_ _)); exact BK560.out) hb); have n4_ := Aside0.mk (blk_below (g := gb568) (o := .cells #[.int .i64 t566, .int .i64 t567] 37 (0, 0)) (by (with_reducible repeat (first | refine blk_drewN ?_ _ | refine blk_drew ?_ | refine blk_alloc ?_ _)); refine blk_put (cs := #[.int .i64 t566, .int .i64 0]) ?_ 1 _ rfl; (with_reducible repeat (first | refine blk_drewN ?_ _ | refine blk_drew ?_ | refine blk_alloc ?_ _)); refine blk_put (cs := #[.int .i64 0, .int .i64 0]) ?_ 0 _ rfl; (with_reducible repeat (first | refine blk_drewN ?_ _ | refine blk_drew ?_ | refine blk_alloc ?_ _)); exact BK568.out) hb); have n5_ := bst HB hb; clear BK558; clear BK559; clear BK560; clear BK568; clear HB; have HO571 := n0_; have BK558 := n1_; have BK559 := n2_; have BK560 := n3_; have BK568 := n4_; have HB := n5_; clear n0_ n1_ n2_ n3_ n4_ n5_; clear hb ho60; obtain ⟨Ao61, co61, eo61⟩ := Kd.R_slice HO571.out; subst eo61) | ((with_reducible refine gate_callee (f := 49) rfl ?_); refine goesL_ (some 22) rfl rfl Try.func49 (by kernel_rfl) rfl #[.slice Ao61 y569.length co61] rfl am ?_; (with_reducible refine (grids_point.calls kj2 _ _ y569 false _ ?side1 ?side2 A29.out).mono ?_); (case side1 => repeat (first | exact (Kd.R_reads' HO571.out).2.2 | (with_reducible refine Kd.C_alloc ?_ _) | (with_reducible refine Kd.C_drewN ?_ _) | (with_reducible refine Kd.C_drew ?_))); (case side2 => exact (Kd.R_reads' HO571.out).2.1); rintro e w62 ⟨rfl, hb⟩; refine ⟨_, rfl, ?_⟩; have n0_ := Aside0.mk (Kd.R_below (by (with_reducible repeat (first | apply Kd.R_alloc | apply Kd.R_drewN | apply Kd.R_drew)); exact HO571.out) hb); have n1_ := bb BK558 hb; have n2_ := bb BK559 hb; have n3_ := bb BK560 hb; have n4_ := bb BK568 hb; have n5_ := bst HB hb; clear HO571; clear BK558; clear BK559; clear BK560; clear BK568; clear HB; have HO571 := n0_; have BK558 := n1_; have BK559 := n2_; have BK560 := n3_; have BK568 := n4_; have HB := n5_; clear n0_ n1_ n2_ n3_ n4_ n5_; (try clear hb); (try clear hb2); (try clear hk); (try clear hi); have hcz63_0 : w62.cell? ⟨gb560, 0, none⟩ = some (.int .i64 0) := (blk_cell BK560.out 0).trans rfl; have hcz63_1 : w62.cell? ⟨gb560, 1, none⟩ = some (.int .i64 0) := (blk_cell BK560.out 1).trans rfl; have hfz63_0 := blk_frozen BK560.out 0; have hfz63_1 := blk_frozen BK560.out 1))
          refine bodyPost_ret (results_ct rfl _ _ gb560 37 #[.int .i64 0, .int .i64 0] (0, 0) _ rfl (by (with_reducible repeat (first | refine blk_drewN ?_ _ | refine blk_drew ?_ | refine blk_alloc ?_ _)); refine blk_put (cs := #[.int .i64 0, .int .i64 0]) ?_ 1 _ rfl; (with_reducible repeat (first | refine blk_drewN ?_ _ | refine blk_drew ?_ | refine blk_alloc ?_ _)); refine blk_put (cs := #[.int .i64 0, .int .i64 0]) ?_ 0 _ rfl; (with_reducible repeat (first | refine blk_drewN ?_ _ | refine blk_drew ?_ | refine blk_alloc ?_ _)); exact BK560.out) Try.underlying37 rfl (by kernel_rfl)) rfl ?_
          exact ⟨by first | rfl | (simp [errW_none, errW_some] <;> rfl) | (simp [*, errW_none, errW_some] <;> rfl), by repeat (first | (with_reducible first | exact HB.out | apply below_alloc | apply pw_below_drewN | apply below_drew1 | refine below_set ?_ GE558.out | refine below_set ?_ GE559.out | refine below_set ?_ GE560.out | refine below_set ?_ GE568.out) | exact HB.out)⟩
end
section
attribute [local go_sem high] eqA25
/-! ### grids_Order: function 33 -/
mutual
def grids_Order.j0 : Nat → Int → Int → Bool → Option (Int × Int)
  | 0, _, _, _ => none
  | k + 1, x5, x6, x28 => if x28 = true then (some (3, 0)) else (if x5 = 1 then (grids_Order.j1 k x5 x6 (x6 == 0)) else (grids_Order.j1 k x5 x6 false))
def grids_Order.j1 : Nat → Int → Int → Bool → Option (Int × Int)
  | 0, _, _, _ => none
  | k + 1, x5, x6, x35 => if x35 = true then (some (4, 0)) else (if x5 = 1 then (if x6 = 1 then (some (6, 0)) else (some (0, 0))) else (some (0, 0)))
end
def grids_Order.f (k : Nat) (a0_0 : Int) (a0_1 : Int) (a0_2 : Int) (a0_3 : Int) : Option (Int × Int) := (grids_matrix.f a0_0 a0_1 a0_2 a0_3).bind fun t574 => (if t574 = true then ((grids_det.f a0_0 a0_1 a0_2 a0_3).bind fun t576 => ((some (wrap64 (a0_0 + a0_3))).bind fun z577 => (if (a0_0 == 1 && (a0_1 == 0 && (a0_2 == 0 && (a0_3 == 1)))) = true then (some (1, 0)) else ((grids_times.f a0_0 a0_1 a0_2 a0_3 a0_0 a0_1 a0_2 a0_3).bind fun bt578 => (if (bt578.1 == 1 && (bt578.2.1 == 0 && (bt578.2.2.1 == 0 && (bt578.2.2.2 == 1)))) = true then (some (2, 0)) else (if t576 = 1 then (grids_Order.j0 k t576 z577 (z577 == (-1))) else (grids_Order.j0 k t576 z577 false))))))) else (some (0, 2)))
theorem grids_Order.mono_l : ∀ k, (∀ y0 y1 y2, LeO (grids_Order.j0 k y0 y1 y2) (grids_Order.j0 (k + 1) y0 y1 y2)) ∧ (∀ y0 y1 y2, LeO (grids_Order.j1 k y0 y1 y2) (grids_Order.j1 (k + 1) y0 y1 y2))
  | 0 => ⟨fun _ _ _ r h => by simp [grids_Order.j0] at h, fun _ _ _ r h => by simp [grids_Order.j1] at h⟩
  | k + 1 => by
    obtain ⟨ih0, ih1⟩ := grids_Order.mono_l k
    refine ⟨?_, ?_⟩
    · intro y0 y1 y2
      unfold grids_Order.j0
      repeat' first
      | (with_reducible exact ih0 _ _ _)
      | (with_reducible exact ih1 _ _ _)
      | (with_reducible exact LeO.refl _)
      | (with_reducible exact LeO.none _)
      | (with_reducible refine LeO.ite ?_ ?_)
      | (with_reducible refine LeO.bind ?_ (fun _ => ?_))
      | exact ih0 _ _ _
      | exact ih1 _ _ _
      | exact LeO.none _
      | refine LeO.ite ?_ ?_
      | refine LeO.bind ?_ (fun _ => ?_)
    · intro y0 y1 y2
      unfold grids_Order.j1
      repeat' first
      | (with_reducible exact ih0 _ _ _)
      | (with_reducible exact ih1 _ _ _)
      | (with_reducible exact LeO.refl _)
      | (with_reducible exact LeO.none _)
      | (with_reducible refine LeO.ite ?_ ?_)
      | (with_reducible refine LeO.bind ?_ (fun _ => ?_))
      | exact ih0 _ _ _
      | exact ih1 _ _ _
      | exact LeO.none _
      | refine LeO.ite ?_ ?_
      | refine LeO.bind ?_ (fun _ => ?_)
theorem grids_Order.mono : ∀ a0 a1 a2 a3 k, LeO (grids_Order.f k a0 a1 a2 a3) (grids_Order.f (k + 1) a0 a1 a2 a3) := by
  intro a0 a1 a2 a3 k
  obtain ⟨ih0, ih1⟩ := grids_Order.mono_l k
  unfold grids_Order.f
  repeat' first
      | (with_reducible exact ih0 _ _ _)
      | (with_reducible exact ih1 _ _ _)
      | (with_reducible exact LeO.refl _)
      | (with_reducible exact LeO.none _)
      | (with_reducible refine LeO.ite ?_ ?_)
      | (with_reducible refine LeO.bind ?_ (fun _ => ?_))
      | exact ih0 _ _ _
      | exact ih1 _ _ _
      | exact LeO.none _
      | refine LeO.ite ?_ ?_
      | refine LeO.bind ?_ (fun _ => ?_)
def grids_Order.T4 : Bool × List (List Nat × List Nat) := (true, [([], []), ([0], [0]), ([], []), ([2], [2]), ([], []), ([4], [4]), ([3, 5], [3, 5]), ([1, 1, 0, 1], [1]), ([6, 7, 0, 1, 2, 3, 4, 5, 6, 7], [6])])
def grids_Order.B4 : List Nat := [0, 1, 0, 4, 0, 16, 60, 3, 255]
theorem grids_Order.tab4 : rtab .any (opsOf Try.f33 4) = grids_Order.T4 := by kernel_rfl
theorem grids_Order.bits4 : waitsOk grids_Order.T4.2 grids_Order.B4 = true := by kernel_rfl
set_option maxHeartbeats 8000000 in
set_option maxRecDepth 100000 in
theorem grids_Order.calls (k : Nat) (a0_0 : Int) (a0_1 : Int) (a0_2 : Int) (a0_3 : Int) (r1 : Int) (r2 : Int) (w : World) (h : grids_Order.f k a0_0 a0_1 a0_2 a0_3 = some (r1, r2)) :
    Calls Try.prog 33 #[.agg #[.int .i64 a0_0, .int .i64 a0_1, .int .i64 a0_2, .int .i64 a0_3]] w fun e w' => e = .returned (.tuple #[.int .i64 r1, .int .i64 r2]) ∧ Below w.heap.size w w' := by
  have hu25 := Try.underlying25
  have HB := Aside0.mk (Below.refl w.heap.size w)
  have H : ((grids_matrix.f a0_0 a0_1 a0_2 a0_3).bind fun t574 => (if t574 = true then ((grids_det.f a0_0 a0_1 a0_2 a0_3).bind fun t576 => ((some (wrap64 (a0_0 + a0_3))).bind fun z577 => (if (a0_0 == 1 && (a0_1 == 0 && (a0_2 == 0 && (a0_3 == 1)))) = true then (some (1, 0)) else ((grids_times.f a0_0 a0_1 a0_2 a0_3 a0_0 a0_1 a0_2 a0_3).bind fun bt578 => (if (bt578.1 == 1 && (bt578.2.1 == 0 && (bt578.2.2.1 == 0 && (bt578.2.2.2 == 1)))) = true then (some (2, 0)) else (if t576 = 1 then (grids_Order.j0 k t576 z577 (z577 == (-1))) else (grids_Order.j0 k t576 z577 false))))))) else (some (0, 2)))) = some (r1, r2) := h
  clear h
  replace H := Option.bind_eq_some_iff.mp H
  obtain ⟨t574, A20, H⟩ := H
  replace H : (if t574 = true then ((grids_det.f a0_0 a0_1 a0_2 a0_3).bind fun t576 => ((some (wrap64 (a0_0 + a0_3))).bind fun z577 => (if (a0_0 == 1 && (a0_1 == 0 && (a0_2 == 0 && (a0_3 == 1)))) = true then (some (1, 0)) else ((grids_times.f a0_0 a0_1 a0_2 a0_3 a0_0 a0_1 a0_2 a0_3).bind fun bt578 => (if (bt578.1 == 1 && (bt578.2.1 == 0 && (bt578.2.2.1 == 0 && (bt578.2.2.2 == 1)))) = true then (some (2, 0)) else (if t576 = 1 then (grids_Order.j0 k t576 z577 (z577 == (-1))) else (grids_Order.j0 k t576 z577 false))))))) else (some (0, 2))) = some (r1, r2) := H
  have A2 := Aside0.mk A20
  clear A20
  by_cases c3 : t574 = true
  · subst c3
    have H1 : ((grids_det.f a0_0 a0_1 a0_2 a0_3).bind fun t576 => ((some (wrap64 (a0_0 + a0_3))).bind fun z577 => (if (a0_0 == 1 && (a0_1 == 0 && (a0_2 == 0 && (a0_3 == 1)))) = true then (some (1, 0)) else ((grids_times.f a0_0 a0_1 a0_2 a0_3 a0_0 a0_1 a0_2 a0_3).bind fun bt578 => (if (bt578.1 == 1 && (bt578.2.1 == 0 && (bt578.2.2.1 == 0 && (bt578.2.2.2 == 1)))) = true then (some (2, 0)) else (if t576 = 1 then (grids_Order.j0 k t576 z577 (z577 == (-1))) else (grids_Order.j0 k t576 z577 false))))))) = some (r1, r2) := by rw [if_pos rfl] at H; exact H
    clear H
    have H := H1
    clear H1
    replace H := Option.bind_eq_some_iff.mp H
    obtain ⟨t576, A40, H⟩ := H
    replace H : ((some (wrap64 (a0_0 + a0_3))).bind fun z577 => (if (a0_0 == 1 && (a0_1 == 0 && (a0_2 == 0 && (a0_3 == 1)))) = true then (some (1, 0)) else ((grids_times.f a0_0 a0_1 a0_2 a0_3 a0_0 a0_1 a0_2 a0_3).bind fun bt578 => (if (bt578.1 == 1 && (bt578.2.1 == 0 && (bt578.2.2.1 == 0 && (bt578.2.2.2 == 1)))) = true then (some (2, 0)) else (if t576 = 1 then (grids_Order.j0 k t576 z577 (z577 == (-1))) else (grids_Order.j0 k t576 z577 false)))))) = some (r1, r2) := H
    have A4 := Aside0.mk A40
    clear A40
    replace H := Option.bind_eq_some_iff.mp H
    obtain ⟨z577, E50, H⟩ := H
    replace H : (if (a0_0 == 1 && (a0_1 == 0 && (a0_2 == 0 && (a0_3 == 1)))) = true then (some (1, 0)) else ((grids_times.f a0_0 a0_1 a0_2 a0_3 a0_0 a0_1 a0_2 a0_3).bind fun bt578 => (if (bt578.1 == 1 && (bt578.2.1 == 0 && (bt578.2.2.1 == 0 && (bt578.2.2.2 == 1)))) = true then (some (2, 0)) else (if t576 = 1 then (grids_Order.j0 k t576 z577 (z577 == (-1))) else (grids_Order.j0 k t576 z577 false))))) = some (r1, r2) := H
    replace E50 := Option.some.inj E50
    have E5w : (IntKind.i64.wrap (a0_0 + a0_3)) = z577 := (i64_w _).trans E50
    by_cases c6 : (a0_0 == 1 && (a0_1 == 0 && (a0_2 == 0 && (a0_3 == 1)))) = true
    · rw [if_pos c6] at H
      have c6b0 : (a0_0 == 1 && (a0_1 == 0 && (a0_2 == 0 && (a0_3 == 1)))) = true := c6
      (try (have c6b1 : decide (a0_0 = 1 && (a0_1 == 0 && (a0_2 == 0 && (a0_3 == 1)))) = true := by simpa using c6))
      (try (have c6b2 : (a0_0 == 1 && (a0_1 == 0 && (a0_2 == 0 && (a0_3 == 1)))) = true := by simpa using c6))
      clear c6
      simp only [Option.some.injEq, Prod.mk.injEq] at H
      obtain ⟨rfl, rfl⟩ := H
      go_enter Try.func33, Try.ntmps33
      try go_wp2_with (first | ((with_reducible refine gate_dst (N := 1) rfl ?_); refine box_event ?hg (N := 1) ?hd (cs := #[.int .i64 a0_0, .int .i64 a0_1, .int .i64 a0_2, .int .i64 a0_3]) (t := 25) ?hr ?_; (case hd => rfl); (case hg => rfl); (case hr => first | (go_simp; done) | (go_simp; rfl)); intro gb573 hg w7 hbox hb; have BK573 := Aside0.mk (hbox); have GW573 := Aside0.mk ((by rw [hg]; exact (below_size (bnow HB)) : w.heap.size ≤ gb573)); have GE573 := Aside0.mk ((by rw [hg]; exact (below_size (bnow HB)) : w.heap.size ≤ gb573)); replace HB := bst HB hb; clear hb hbox hg; have hcz8_0 : w7.cell? ⟨gb573, 0, none⟩ = some (.int .i64 a0_0) := (blk_cell BK573.out 0).trans rfl; have hcz8_1 : w7.cell? ⟨gb573, 1, none⟩ = some (.int .i64 a0_1) := (blk_cell BK573.out 1).trans rfl; have hcz8_2 : w7.cell? ⟨gb573, 2, none⟩ = some (.int .i64 a0_2) := (blk_cell BK573.out 2).trans rfl; have hcz8_3 : w7.cell? ⟨gb573, 3, none⟩ = some (.int .i64 a0_3) := (blk_cell BK573.out 3).trans rfl; have hfz8_0 := blk_frozen BK573.out 0; have hfz8_1 := blk_frozen BK573.out 1; have hfz8_2 := blk_frozen BK573.out 2; have hfz8_3 := blk_frozen BK573.out 3) | ((with_reducible refine gate_callee (f := 59) rfl ?_); refine goesL_ (some 8) rfl rfl Try.func59 (by kernel_rfl) rfl #[.agg #[.int .i64 a0_0, .int .i64 a0_1, .int .i64 a0_2, .int .i64 a0_3]] rfl am ?_; (with_reducible refine (grids_matrix.calls a0_0 a0_1 a0_2 a0_3 true _ A2.out).mono ?_); rintro e w9 ⟨rfl, hb⟩; refine ⟨_, rfl, ?_⟩; replace BK573 := bb BK573 hb; replace HB := bst HB hb; clear hb) | ((with_reducible refine gate_dst (N := 4) rfl ?_); refine box_event ?hg (N := 4) ?hd (cs := #[.int .i64 0, .int .i64 0, .int .i64 0, .int .i64 0]) (t := 25) ?hr ?_; (case hd => rfl); (case hg => rfl); (case hr => first | (go_simp; done) | (go_simp; rfl)); intro gb575 hg w10 hbox hb; have BK575 := Aside0.mk (hbox); have GW575 := Aside0.mk ((by rw [hg]; exact (below_size (bnow HB)) : w.heap.size ≤ gb575)); have GE575 := Aside0.mk ((by rw [hg]; exact (below_size (bnow HB)) : w.heap.size ≤ gb575)); have NB573_575 := Aside0.mk ((by rw [hg]; exact Nat.ne_of_lt (blk_lt (g := gb573) (o := .cells #[.int .i64 a0_0, .int .i64 a0_1, .int .i64 a0_2, .int .i64 a0_3] 25 (0, 0)) (pk BK573)) : gb573 ≠ gb575)); have NB575_573 := Aside0.mk ((by rw [hg]; exact Nat.ne_of_gt (blk_lt (g := gb573) (o := .cells #[.int .i64 a0_0, .int .i64 a0_1, .int .i64 a0_2, .int .i64 a0_3] 25 (0, 0)) (pk BK573)) : gb575 ≠ gb573)); replace BK573 := bb BK573 hb; replace HB := bst HB hb; clear hb hbox hg; have hnb11 := NB575_573.out; have hnc11 := NB573_575.out; have hcz12_0 : w10.cell? ⟨gb575, 0, none⟩ = some (.int .i64 0) := (blk_cell BK575.out 0).trans rfl; have hcz12_1 : w10.cell? ⟨gb575, 1, none⟩ = some (.int .i64 0) := (blk_cell BK575.out 1).trans rfl; have hcz12_2 : w10.cell? ⟨gb575, 2, none⟩ = some (.int .i64 0) := (blk_cell BK575.out 2).trans rfl; have hcz12_3 : w10.cell? ⟨gb575, 3, none⟩ = some (.int .i64 0) := (blk_cell BK575.out 3).trans rfl; have hfz12_0 := blk_frozen BK575.out 0; have hfz12_1 := blk_frozen BK575.out 1; have hfz12_2 := blk_frozen BK575.out 2; have hfz12_3 := blk_frozen BK575.out 3) | ((with_reducible refine gate_store (t := 25) (p := 4) rfl ?_); refine store_event (t := 25) (p := 4) (v := ?vo_w13) (w1 := ((((w10.setCell ⟨gb575, 0, none⟩ (.int .i64 1)).setCell ⟨gb575, 1, none⟩ (.int .i64 0)).setCell ⟨gb575, 2, none⟩ (.int .i64 0)).setCell ⟨gb575, 3, none⟩ (.int .i64 1))) ?hg ?ho ?hn ?hr ?_; (case ho => rfl); (case hg => rfl); (case hn => rfl); (case hr => first | (go_simp; done) | (go_simp; rfl)); intro w13 hw; have n0_ : Aside0 (w13.heap[gb573]? = some (.cells #[.int .i64 a0_0, .int .i64 a0_1, .int .i64 a0_2, .int .i64 a0_3] 25 (0, 0))) := ⟨(by rw [hw]; exact (by (with_reducible repeat (first | refine blk_drewN ?_ _ | refine blk_drew ?_ | refine blk_alloc ?_ _)); refine blk_far ?_ NB573_575.out _; (with_reducible repeat (first | refine blk_drewN ?_ _ | refine blk_drew ?_ | refine blk_alloc ?_ _)); refine blk_far ?_ NB573_575.out _; (with_reducible repeat (first | refine blk_drewN ?_ _ | refine blk_drew ?_ | refine blk_alloc ?_ _)); refine blk_far ?_ NB573_575.out _; (with_reducible repeat (first | refine blk_drewN ?_ _ | refine blk_drew ?_ | refine blk_alloc ?_ _)); refine blk_far ?_ NB573_575.out _; (with_reducible repeat (first | refine blk_drewN ?_ _ | refine blk_drew ?_ | refine blk_alloc ?_ _)); exact BK573.out))⟩; have n1_ : Aside0 (w13.heap[gb575]? = some (.cells #[.int .i64 1, .int .i64 0, .int .i64 0, .int .i64 1] 25 (0, 0))) := ⟨(by rw [hw]; exact (by (with_reducible repeat (first | refine blk_drewN ?_ _ | refine blk_drew ?_ | refine blk_alloc ?_ _)); refine blk_put (cs := #[.int .i64 1, .int .i64 0, .int .i64 0, .int .i64 0]) ?_ 3 _ rfl; (with_reducible repeat (first | refine blk_drewN ?_ _ | refine blk_drew ?_ | refine blk_alloc ?_ _)); refine blk_put (cs := #[.int .i64 1, .int .i64 0, .int .i64 0, .int .i64 0]) ?_ 2 _ rfl; (with_reducible repeat (first | refine blk_drewN ?_ _ | refine blk_drew ?_ | refine blk_alloc ?_ _)); refine blk_put (cs := #[.int .i64 1, .int .i64 0, .int .i64 0, .int .i64 0]) ?_ 1 _ rfl; (with_reducible repeat (first | refine blk_drewN ?_ _ | refine blk_drew ?_ | refine blk_alloc ?_ _)); refine blk_put (cs := #[.int .i64 0, .int .i64 0, .int .i64 0, .int .i64 0]) ?_ 0 _ rfl; (with_reducible repeat (first | refine blk_drewN ?_ _ | refine blk_drew ?_ | refine blk_alloc ?_ _)); exact BK575.out))⟩; have n2_ : Aside0 (Below w.heap.size w w13) := ⟨(by rw [hw]; exact (bnow HB))⟩; clear hw; clear BK573; clear BK575; clear HB; have BK573 := n0_; have BK575 := n1_; have HB := n2_; clear n0_ n1_ n2_))
      have n0_ := Aside0.mk (blk_drew BK573.out)
      have n1_ := Aside0.mk (blk_drew BK575.out)
      have n2_ := Aside0.mk (below_drew1 HB.out)
      clear BK573
      clear BK575
      clear HB
      have BK573 := n0_
      have BK575 := n1_
      have HB := n2_
      clear n0_ n1_ n2_
      refine start_ (n := 9) (S := fun w' => w'.cell? ⟨gb573, 0, none⟩ = some (.int .i64 a0_0) ∧ w'.cell? ⟨gb573, 1, none⟩ = some (.int .i64 a0_1) ∧ w'.cell? ⟨gb573, 2, none⟩ = some (.int .i64 a0_2) ∧ w'.cell? ⟨gb573, 3, none⟩ = some (.int .i64 a0_3)) (ds := []) #[false, false, false, false, false, false, false, false, false] (by kernel_rfl) rfl rfl ⟨(blk_cell BK573.out 0).trans rfl, (blk_cell BK573.out 1).trans rfl, (blk_cell BK573.out 2).trans rfl, (blk_cell BK573.out 3).trans rfl⟩ (fun hHeld => ?_); refine with_tabW grids_Order.tab4 grids_Order.bits4 (fun HT_ HW_ => ?_)
      generalize w13.drew = w14 at BK573 BK575 HB hHeld ⊢
      refine pure_ (i := 2) (N := some 13) (v := ?_) (a' := ?_) #[false, false, true, false, false, false, false, false, false] rfl rfl (any_of HT_.out (by kernel_rfl)) (fun _ _ _ h => h) (Or.inl ⟨by rfl, ?_⟩) ?_ ?_
      rotate_left
      · intro w'
        go_simp
        with_reducible rfl
      rotate_left
      · simp only [Act.put, List.setIfInBounds_toArray, List.set_cons_zero, List.set_cons_succ, i64_w, i32_w]
        rfl
      refine pure_ (i := 4) (N := some 15) (v := ?_) (a' := ?_) #[false, false, true, false, true, false, false, false, false] rfl rfl (any_of HT_.out (by kernel_rfl)) (fun _ _ _ h => h) (Or.inl ⟨by rfl, ?_⟩) ?_ ?_
      rotate_left
      · intro w'
        go_simp
        with_reducible rfl
      rotate_left
      · simp only [Act.put, List.setIfInBounds_toArray, List.set_cons_zero, List.set_cons_succ, i64_w, i32_w]
        rfl
      refine take_ (i := 0) (N := some 11) (v := ?_) (a' := ?_) #[true, false, true, false, true, false, false, false, false] rfl rfl (take_ofW HT_.out HW_.out (by kernel_rfl)) (fun _ _ _ h => h) (Or.inl ⟨by rfl, ?_⟩) hHeld ?_ ?_
      rotate_left
      · rintro w' ⟨s0, s1, s2, s3⟩
        go_simp
        with_reducible rfl
      rotate_left
      · simp only [Act.put, List.setIfInBounds_toArray, List.set_cons_zero, List.set_cons_succ, i64_w, i32_w]
        rfl
      refine take_ (i := 3) (N := some 14) (v := ?_) (a' := ?_) #[true, false, true, true, true, false, false, false, false] rfl rfl (take_ofW HT_.out HW_.out (by kernel_rfl)) (fun _ _ _ h => h) (Or.inl ⟨by rfl, ?_⟩) hHeld ?_ ?_
      rotate_left
      · rintro w' ⟨s0, s1, s2, s3⟩
        go_simp
        with_reducible rfl
      rotate_left
      · simp only [Act.put, List.setIfInBounds_toArray, List.set_cons_zero, List.set_cons_succ, i64_w, i32_w]
        rfl
      refine take_ (i := 5) (N := some 16) (v := ?_) (a' := ?_) #[true, false, true, true, true, true, false, false, false] rfl rfl (take_ofW HT_.out HW_.out (by kernel_rfl)) (fun _ _ _ h => h) (Or.inl ⟨by rfl, ?_⟩) hHeld ?_ ?_
      rotate_left
      · rintro w' ⟨s0, s1, s2, s3⟩
        go_simp
        with_reducible rfl
      rotate_left
      · simp only [Act.put, List.setIfInBounds_toArray, List.set_cons_zero, List.set_cons_succ, i64_w, i32_w]
        rfl
      refine pure_ (i := 6) (N := some 17) (v := ?_) (a' := ?_) #[true, false, true, true, true, true, true, false, false] rfl rfl (any_of HT_.out (by kernel_rfl)) (fun _ _ _ h => h) (Or.inl ⟨by rfl, ?_⟩) ?_ ?_
      rotate_left
      · intro w'
        go_simp
        with_reducible rfl
      rotate_left
      · simp only [Act.put, List.setIfInBounds_toArray, List.set_cons_zero, List.set_cons_succ, i64_w, i32_w]
        rfl
      refine one_ (i := 1) (N := some 12) #[true, true, true, true, true, true, true, false, false] rfl rfl (one_of HT_.out (by kernel_rfl)) (by decide) (fun K hK => ?_)
      refine goes_ Try.func68 (by kernel_rfl) rfl #[.agg #[.int .i64 a0_0, .int .i64 a0_1, .int .i64 a0_2, .int .i64 a0_3]] (by rfl) rfl rfl am ?_
      with_reducible refine (grids_det.calls a0_0 a0_1 a0_2 a0_3 t576 _ A4.out).mono ?_
      rintro e w15 ⟨rfl, hb⟩
      refine ⟨_, rfl, ?_⟩
      replace BK573 := bb BK573 hb
      replace BK575 := bb BK575 hb
      replace HB := bst HB hb
      (try clear hb)
      (try clear hb2)
      (try clear hk)
      (try clear hi)
      refine hK.out _ _ ⟨(blk_cell BK573.out 0).trans rfl, (blk_cell BK573.out 1).trans rfl, (blk_cell BK573.out 2).trans rfl, (blk_cell BK573.out 3).trans rfl⟩ (fun hHeld => ?_)
      clear hK K
      refine norm_ (a' := ?_) ?_ ?_
      rotate_left
      · show Act.put _ (some 12) _ = _
        simp only [Act.put, List.setIfInBounds_toArray, List.set_cons_zero, List.set_cons_succ, i64_w, i32_w]
        rfl
      refine pure_ (i := 7) (N := some 5) (v := ?_) (a' := ?_) #[true, true, true, true, true, true, true, true, false] rfl rfl (any_of HT_.out (by kernel_rfl)) (fun _ _ _ h => h) (Or.inl ⟨by rfl, ?_⟩) ?_ ?_
      rotate_left
      · intro w'
        go_simp
        with_reducible rfl
      rotate_left
      · simp only [Act.put, List.setIfInBounds_toArray, List.set_cons_zero, List.set_cons_succ, i64_w, i32_w]
        rfl
      refine pure_ (i := 8) (N := some 6) (v := ?_) (a' := ?_) #[true, true, true, true, true, true, true, true, true] rfl rfl (any_of HT_.out (by kernel_rfl)) (fun _ _ _ h => h) (Or.inl ⟨by rfl, ?_⟩) ?_ ?_
      rotate_left
      · intro w'
        go_simp
        with_reducible rfl
      rotate_left
      · simp only [Act.put, List.setIfInBounds_toArray, List.set_cons_zero, List.set_cons_succ, i64_w, i32_w]
        rfl
      refine done_ (done_of HT_.out (by kernel_rfl)) ?_
      have hcz16_0 : w15.cell? ⟨gb573, 0, none⟩ = some (.int .i64 a0_0) := (blk_cell BK573.out 0).trans rfl
      have hcz16_1 : w15.cell? ⟨gb573, 1, none⟩ = some (.int .i64 a0_1) := (blk_cell BK573.out 1).trans rfl
      have hcz16_2 : w15.cell? ⟨gb573, 2, none⟩ = some (.int .i64 a0_2) := (blk_cell BK573.out 2).trans rfl
      have hcz16_3 : w15.cell? ⟨gb573, 3, none⟩ = some (.int .i64 a0_3) := (blk_cell BK573.out 3).trans rfl
      have hfz16_0 := blk_frozen BK573.out 0
      have hfz16_1 := blk_frozen BK573.out 1
      have hfz16_2 := blk_frozen BK573.out 2
      have hfz16_3 := blk_frozen BK573.out 3
      have hcz17_0 : w15.cell? ⟨gb575, 0, none⟩ = some (.int .i64 1) := (blk_cell BK575.out 0).trans rfl
      have hcz17_1 : w15.cell? ⟨gb575, 1, none⟩ = some (.int .i64 0) := (blk_cell BK575.out 1).trans rfl
      have hcz17_2 : w15.cell? ⟨gb575, 2, none⟩ = some (.int .i64 0) := (blk_cell BK575.out 2).trans rfl
      have hcz17_3 : w15.cell? ⟨gb575, 3, none⟩ = some (.int .i64 1) := (blk_cell BK575.out 3).trans rfl
      have hfz17_0 := blk_frozen BK575.out 0
      have hfz17_1 := blk_frozen BK575.out 1
      have hfz17_2 := blk_frozen BK575.out 2
      have hfz17_3 := blk_frozen BK575.out 3
      try go_wp2
      go_ret2
      exact ⟨by first | rfl | (simp [errW_none, errW_some] <;> rfl) | (simp [*, errW_none, errW_some] <;> rfl), by repeat (first | (with_reducible first | exact HB.out | apply below_alloc | apply pw_below_drewN | apply below_drew1 | refine below_set ?_ GE573.out | refine below_set ?_ GE575.out) | exact HB.out)⟩
    · rw [if_neg c6] at H
      have c6b0 : (a0_0 == 1 && (a0_1 == 0 && (a0_2 == 0 && (a0_3 == 1)))) = false := by simpa using c6
      (try (have c6b1 : decide (a0_0 = 1 && (a0_1 == 0 && (a0_2 == 0 && (a0_3 == 1)))) = false := by simpa using c6))
      (try (have c6b2 : (a0_0 == 1 && (a0_1 == 0 && (a0_2 == 0 && (a0_3 == 1)))) = false := by simpa using c6))
      (try (have c6b3 : ¬ (a0_0 = 1 && (a0_1 == 0 && (a0_2 == 0 && (a0_3 == 1)))) := by simpa using c6))
      clear c6
      replace H := Option.bind_eq_some_iff.mp H
      obtain ⟨⟨t578, t579, t580, t581⟩, A180, H⟩ := H
      replace H : (if (t578 == 1 && (t579 == 0 && (t580 == 0 && (t581 == 1)))) = true then (some (2, 0)) else (if t576 = 1 then (grids_Order.j0 k t576 z577 (z577 == (-1))) else (grids_Order.j0 k t576 z577 false))) = some (r1, r2) := H
      have A18 := Aside0.mk A180
      clear A180
      by_cases c19 : (t578 == 1 && (t579 == 0 && (t580 == 0 && (t581 == 1)))) = true
      · rw [if_pos c19] at H
        have c19b0 : (t578 == 1 && (t579 == 0 && (t580 == 0 && (t581 == 1)))) = true := c19
        (try (have c19b1 : decide (t578 = 1 && (t579 == 0 && (t580 == 0 && (t581 == 1)))) = true := by simpa using c19))
        (try (have c19b2 : (t578 == 1 && (t579 == 0 && (t580 == 0 && (t581 == 1)))) = true := by simpa using c19))
        clear c19
        simp only [Option.some.injEq, Prod.mk.injEq] at H
        obtain ⟨rfl, rfl⟩ := H
        go_enter Try.func33, Try.ntmps33
        try go_wp2_with (first | ((with_reducible refine gate_dst (N := 1) rfl ?_); refine box_event ?hg (N := 1) ?hd (cs := #[.int .i64 a0_0, .int .i64 a0_1, .int .i64 a0_2, .int .i64 a0_3]) (t := 25) ?hr ?_; (case hd => rfl); (case hg => rfl); (case hr => first | (go_simp; done) | (go_simp; rfl)); intro gb573 hg w20 hbox hb; have BK573 := Aside0.mk (hbox); have GW573 := Aside0.mk ((by rw [hg]; exact (below_size (bnow HB)) : w.heap.size ≤ gb573)); have GE573 := Aside0.mk ((by rw [hg]; exact (below_size (bnow HB)) : w.heap.size ≤ gb573)); replace HB := bst HB hb; clear hb hbox hg; have hcz21_0 : w20.cell? ⟨gb573, 0, none⟩ = some (.int .i64 a0_0) := (blk_cell BK573.out 0).trans rfl; have hcz21_1 : w20.cell? ⟨gb573, 1, none⟩ = some (.int .i64 a0_1) := (blk_cell BK573.out 1).trans rfl; have hcz21_2 : w20.cell? ⟨gb573, 2, none⟩ = some (.int .i64 a0_2) := (blk_cell BK573.out 2).trans rfl; have hcz21_3 : w20.cell? ⟨gb573, 3, none⟩ = some (.int .i64 a0_3) := (blk_cell BK573.out 3).trans rfl; have hfz21_0 := blk_frozen BK573.out 0; have hfz21_1 := blk_frozen BK573.out 1; have hfz21_2 := blk_frozen BK573.out 2; have hfz21_3 := blk_frozen BK573.out 3) | ((with_reducible refine gate_callee (f := 59) rfl ?_); refine goesL_ (some 8) rfl rfl Try.func59 (by kernel_rfl) rfl #[.agg #[.int .i64 a0_0, .int .i64 a0_1, .int .i64 a0_2, .int .i64 a0_3]] rfl am ?_; (with_reducible refine (grids_matrix.calls a0_0 a0_1 a0_2 a0_3 true _ A2.out).mono ?_); rintro e w22 ⟨rfl, hb⟩; refine ⟨_, rfl, ?_⟩; replace BK573 := bb BK573 hb; replace HB := bst HB hb; clear hb) | ((with_reducible refine gate_dst (N := 4) rfl ?_); refine box_event ?hg (N := 4) ?hd (cs := #[.int .i64 0, .int .i64 0, .int .i64 0, .int .i64 0]) (t := 25) ?hr ?_; (case hd => rfl); (case hg => rfl); (case hr => first | (go_simp; done) | (go_simp; rfl)); intro gb575 hg w23 hbox hb; have BK575 := Aside0.mk (hbox); have GW575 := Aside0.mk ((by rw [hg]; exact (below_size (bnow HB)) : w.heap.size ≤ gb575)); have GE575 := Aside0.mk ((by rw [hg]; exact (below_size (bnow HB)) : w.heap.size ≤ gb575)); have NB573_575 := Aside0.mk ((by rw [hg]; exact Nat.ne_of_lt (blk_lt (g := gb573) (o := .cells #[.int .i64 a0_0, .int .i64 a0_1, .int .i64 a0_2, .int .i64 a0_3] 25 (0, 0)) (pk BK573)) : gb573 ≠ gb575)); have NB575_573 := Aside0.mk ((by rw [hg]; exact Nat.ne_of_gt (blk_lt (g := gb573) (o := .cells #[.int .i64 a0_0, .int .i64 a0_1, .int .i64 a0_2, .int .i64 a0_3] 25 (0, 0)) (pk BK573)) : gb575 ≠ gb573)); replace BK573 := bb BK573 hb; replace HB := bst HB hb; clear hb hbox hg; have hnb24 := NB575_573.out; have hnc24 := NB573_575.out; have hcz25_0 : w23.cell? ⟨gb575, 0, none⟩ = some (.int .i64 0) := (blk_cell BK575.out 0).trans rfl; have hcz25_1 : w23.cell? ⟨gb575, 1, none⟩ = some (.int .i64 0) := (blk_cell BK575.out 1).trans rfl; have hcz25_2 : w23.cell? ⟨gb575, 2, none⟩ = some (.int .i64 0) := (blk_cell BK575.out 2).trans rfl; have hcz25_3 : w23.cell? ⟨gb575, 3, none⟩ = some (.int .i64 0) := (blk_cell BK575.out 3).trans rfl; have hfz25_0 := blk_frozen BK575.out 0; have hfz25_1 := blk_frozen BK575.out 1; have hfz25_2 := blk_frozen BK575.out 2; have hfz25_3 := blk_frozen BK575.out 3) | ((with_reducible refine gate_store (t := 25) (p := 4) rfl ?_); refine store_event (t := 25) (p := 4) (v := ?vo_w26) (w1 := ((((w23.setCell ⟨gb575, 0, none⟩ (.int .i64 1)).setCell ⟨gb575, 1, none⟩ (.int .i64 0)).setCell ⟨gb575, 2, none⟩ (.int .i64 0)).setCell ⟨gb575, 3, none⟩ (.int .i64 1))) ?hg ?ho ?hn ?hr ?_; (case ho => rfl); (case hg => rfl); (case hn => rfl); (case hr => first | (go_simp; done) | (go_simp; rfl)); intro w26 hw; have n0_ : Aside0 (w26.heap[gb573]? = some (.cells #[.int .i64 a0_0, .int .i64 a0_1, .int .i64 a0_2, .int .i64 a0_3] 25 (0, 0))) := ⟨(by rw [hw]; exact (by (with_reducible repeat (first | refine blk_drewN ?_ _ | refine blk_drew ?_ | refine blk_alloc ?_ _)); refine blk_far ?_ NB573_575.out _; (with_reducible repeat (first | refine blk_drewN ?_ _ | refine blk_drew ?_ | refine blk_alloc ?_ _)); refine blk_far ?_ NB573_575.out _; (with_reducible repeat (first | refine blk_drewN ?_ _ | refine blk_drew ?_ | refine blk_alloc ?_ _)); refine blk_far ?_ NB573_575.out _; (with_reducible repeat (first | refine blk_drewN ?_ _ | refine blk_drew ?_ | refine blk_alloc ?_ _)); refine blk_far ?_ NB573_575.out _; (with_reducible repeat (first | refine blk_drewN ?_ _ | refine blk_drew ?_ | refine blk_alloc ?_ _)); exact BK573.out))⟩; have n1_ : Aside0 (w26.heap[gb575]? = some (.cells #[.int .i64 1, .int .i64 0, .int .i64 0, .int .i64 1] 25 (0, 0))) := ⟨(by rw [hw]; exact (by (with_reducible repeat (first | refine blk_drewN ?_ _ | refine blk_drew ?_ | refine blk_alloc ?_ _)); refine blk_put (cs := #[.int .i64 1, .int .i64 0, .int .i64 0, .int .i64 0]) ?_ 3 _ rfl; (with_reducible repeat (first | refine blk_drewN ?_ _ | refine blk_drew ?_ | refine blk_alloc ?_ _)); refine blk_put (cs := #[.int .i64 1, .int .i64 0, .int .i64 0, .int .i64 0]) ?_ 2 _ rfl; (with_reducible repeat (first | refine blk_drewN ?_ _ | refine blk_drew ?_ | refine blk_alloc ?_ _)); refine blk_put (cs := #[.int .i64 1, .int .i64 0, .int .i64 0, .int .i64 0]) ?_ 1 _ rfl; (with_reducible repeat (first | refine blk_drewN ?_ _ | refine blk_drew ?_ | refine blk_alloc ?_ _)); refine blk_put (cs := #[.int .i64 0, .int .i64 0, .int .i64 0, .int .i64 0]) ?_ 0 _ rfl; (with_reducible repeat (first | refine blk_drewN ?_ _ | refine blk_drew ?_ | refine blk_alloc ?_ _)); exact BK575.out))⟩; have n2_ : Aside0 (Below w.heap.size w w26) := ⟨(by rw [hw]; exact (bnow HB))⟩; clear hw; clear BK573; clear BK575; clear HB; have BK573 := n0_; have BK575 := n1_; have HB := n2_; clear n0_ n1_ n2_))
        have n0_ := Aside0.mk (blk_drew BK573.out)
        have n1_ := Aside0.mk (blk_drew BK575.out)
        have n2_ := Aside0.mk (below_drew1 HB.out)
        clear BK573
        clear BK575
        clear HB
        have BK573 := n0_
        have BK575 := n1_
        have HB := n2_
        clear n0_ n1_ n2_
        refine start_ (n := 9) (S := fun w' => w'.cell? ⟨gb573, 0, none⟩ = some (.int .i64 a0_0) ∧ w'.cell? ⟨gb573, 1, none⟩ = some (.int .i64 a0_1) ∧ w'.cell? ⟨gb573, 2, none⟩ = some (.int .i64 a0_2) ∧ w'.cell? ⟨gb573, 3, none⟩ = some (.int .i64 a0_3)) (ds := []) #[false, false, false, false, false, false, false, false, false] (by kernel_rfl) rfl rfl ⟨(blk_cell BK573.out 0).trans rfl, (blk_cell BK573.out 1).trans rfl, (blk_cell BK573.out 2).trans rfl, (blk_cell BK573.out 3).trans rfl⟩ (fun hHeld => ?_); refine with_tabW grids_Order.tab4 grids_Order.bits4 (fun HT_ HW_ => ?_)
        generalize w26.drew = w27 at BK573 BK575 HB hHeld ⊢
        refine pure_ (i := 2) (N := some 13) (v := ?_) (a' := ?_) #[false, false, true, false, false, false, false, false, false] rfl rfl (any_of HT_.out (by kernel_rfl)) (fun _ _ _ h => h) (Or.inl ⟨by rfl, ?_⟩) ?_ ?_
        rotate_left
        · intro w'
          go_simp
          with_reducible rfl
        rotate_left
        · simp only [Act.put, List.setIfInBounds_toArray, List.set_cons_zero, List.set_cons_succ, i64_w, i32_w]
          rfl
        refine pure_ (i := 4) (N := some 15) (v := ?_) (a' := ?_) #[false, false, true, false, true, false, false, false, false] rfl rfl (any_of HT_.out (by kernel_rfl)) (fun _ _ _ h => h) (Or.inl ⟨by rfl, ?_⟩) ?_ ?_
        rotate_left
        · intro w'
          go_simp
          with_reducible rfl
        rotate_left
        · simp only [Act.put, List.setIfInBounds_toArray, List.set_cons_zero, List.set_cons_succ, i64_w, i32_w]
          rfl
        refine take_ (i := 0) (N := some 11) (v := ?_) (a' := ?_) #[true, false, true, false, true, false, false, false, false] rfl rfl (take_ofW HT_.out HW_.out (by kernel_rfl)) (fun _ _ _ h => h) (Or.inl ⟨by rfl, ?_⟩) hHeld ?_ ?_
        rotate_left
        · rintro w' ⟨s0, s1, s2, s3⟩
          go_simp
          with_reducible rfl
        rotate_left
        · simp only [Act.put, List.setIfInBounds_toArray, List.set_cons_zero, List.set_cons_succ, i64_w, i32_w]
          rfl
        refine take_ (i := 3) (N := some 14) (v := ?_) (a' := ?_) #[true, false, true, true, true, false, false, false, false] rfl rfl (take_ofW HT_.out HW_.out (by kernel_rfl)) (fun _ _ _ h => h) (Or.inl ⟨by rfl, ?_⟩) hHeld ?_ ?_
        rotate_left
        · rintro w' ⟨s0, s1, s2, s3⟩
          go_simp
          with_reducible rfl
        rotate_left
        · simp only [Act.put, List.setIfInBounds_toArray, List.set_cons_zero, List.set_cons_succ, i64_w, i32_w]
          rfl
        refine take_ (i := 5) (N := some 16) (v := ?_) (a' := ?_) #[true, false, true, true, true, true, false, false, false] rfl rfl (take_ofW HT_.out HW_.out (by kernel_rfl)) (fun _ _ _ h => h) (Or.inl ⟨by rfl, ?_⟩) hHeld ?_ ?_
        rotate_left
        · rintro w' ⟨s0, s1, s2, s3⟩
          go_simp
          with_reducible rfl
        rotate_left
        · simp only [Act.put, List.setIfInBounds_toArray, List.set_cons_zero, List.set_cons_succ, i64_w, i32_w]
          rfl
        refine pure_ (i := 6) (N := some 17) (v := ?_) (a' := ?_) #[true, false, true, true, true, true, true, false, false] rfl rfl (any_of HT_.out (by kernel_rfl)) (fun _ _ _ h => h) (Or.inl ⟨by rfl, ?_⟩) ?_ ?_
        rotate_left
        · intro w'
          go_simp
          with_reducible rfl
        rotate_left
        · simp only [Act.put, List.setIfInBounds_toArray, List.set_cons_zero, List.set_cons_succ, i64_w, i32_w]
          rfl
        refine one_ (i := 1) (N := some 12) #[true, true, true, true, true, true, true, false, false] rfl rfl (one_of HT_.out (by kernel_rfl)) (by decide) (fun K hK => ?_)
        refine goes_ Try.func68 (by kernel_rfl) rfl #[.agg #[.int .i64 a0_0, .int .i64 a0_1, .int .i64 a0_2, .int .i64 a0_3]] (by rfl) rfl rfl am ?_
        with_reducible refine (grids_det.calls a0_0 a0_1 a0_2 a0_3 t576 _ A4.out).mono ?_
        rintro e w28 ⟨rfl, hb⟩
        refine ⟨_, rfl, ?_⟩
        replace BK573 := bb BK573 hb
        replace BK575 := bb BK575 hb
        replace HB := bst HB hb
        (try clear hb)
        (try clear hb2)
        (try clear hk)
        (try clear hi)
        refine hK.out _ _ ⟨(blk_cell BK573.out 0).trans rfl, (blk_cell BK573.out 1).trans rfl, (blk_cell BK573.out 2).trans rfl, (blk_cell BK573.out 3).trans rfl⟩ (fun hHeld => ?_)
        clear hK K
        refine norm_ (a' := ?_) ?_ ?_
        rotate_left
        · show Act.put _ (some 12) _ = _
          simp only [Act.put, List.setIfInBounds_toArray, List.set_cons_zero, List.set_cons_succ, i64_w, i32_w]
          rfl
        refine pure_ (i := 7) (N := some 5) (v := ?_) (a' := ?_) #[true, true, true, true, true, true, true, true, false] rfl rfl (any_of HT_.out (by kernel_rfl)) (fun _ _ _ h => h) (Or.inl ⟨by rfl, ?_⟩) ?_ ?_
        rotate_left
        · intro w'
          go_simp
          with_reducible rfl
        rotate_left
        · simp only [Act.put, List.setIfInBounds_toArray, List.set_cons_zero, List.set_cons_succ, i64_w, i32_w]
          rfl
        refine pure_ (i := 8) (N := some 6) (v := ?_) (a' := ?_) #[true, true, true, true, true, true, true, true, true] rfl rfl (any_of HT_.out (by kernel_rfl)) (fun _ _ _ h => h) (Or.inl ⟨by rfl, ?_⟩) ?_ ?_
        rotate_left
        · intro w'
          go_simp
          with_reducible rfl
        rotate_left
        · simp only [Act.put, List.setIfInBounds_toArray, List.set_cons_zero, List.set_cons_succ, i64_w, i32_w]
          rfl
        refine done_ (done_of HT_.out (by kernel_rfl)) ?_
        have hcz29_0 : w28.cell? ⟨gb573, 0, none⟩ = some (.int .i64 a0_0) := (blk_cell BK573.out 0).trans rfl
        have hcz29_1 : w28.cell? ⟨gb573, 1, none⟩ = some (.int .i64 a0_1) := (blk_cell BK573.out 1).trans rfl
        have hcz29_2 : w28.cell? ⟨gb573, 2, none⟩ = some (.int .i64 a0_2) := (blk_cell BK573.out 2).trans rfl
        have hcz29_3 : w28.cell? ⟨gb573, 3, none⟩ = some (.int .i64 a0_3) := (blk_cell BK573.out 3).trans rfl
        have hfz29_0 := blk_frozen BK573.out 0
        have hfz29_1 := blk_frozen BK573.out 1
        have hfz29_2 := blk_frozen BK573.out 2
        have hfz29_3 := blk_frozen BK573.out 3
        have hcz30_0 : w28.cell? ⟨gb575, 0, none⟩ = some (.int .i64 1) := (blk_cell BK575.out 0).trans rfl
        have hcz30_1 : w28.cell? ⟨gb575, 1, none⟩ = some (.int .i64 0) := (blk_cell BK575.out 1).trans rfl
        have hcz30_2 : w28.cell? ⟨gb575, 2, none⟩ = some (.int .i64 0) := (blk_cell BK575.out 2).trans rfl
        have hcz30_3 : w28.cell? ⟨gb575, 3, none⟩ = some (.int .i64 1) := (blk_cell BK575.out 3).trans rfl
        have hfz30_0 := blk_frozen BK575.out 0
        have hfz30_1 := blk_frozen BK575.out 1
        have hfz30_2 := blk_frozen BK575.out 2
        have hfz30_3 := blk_frozen BK575.out 3
        try go_wp2
        have n0_ := Aside0.mk (blk_drew BK573.out)
        have n1_ := Aside0.mk (blk_drew BK575.out)
        have n2_ := Aside0.mk (below_drew1 HB.out)
        clear BK573
        clear BK575
        clear HB
        have BK573 := n0_
        have BK575 := n1_
        have HB := n2_
        clear n0_ n1_ n2_
        refine start_ (n := 6) (S := fun w' => w'.cell? ⟨gb573, 0, none⟩ = some (.int .i64 a0_0) ∧ w'.cell? ⟨gb573, 1, none⟩ = some (.int .i64 a0_1) ∧ w'.cell? ⟨gb573, 2, none⟩ = some (.int .i64 a0_2) ∧ w'.cell? ⟨gb573, 3, none⟩ = some (.int .i64 a0_3) ∧ w'.cell? ⟨gb575, 0, none⟩ = some (.int .i64 1) ∧ w'.cell? ⟨gb575, 1, none⟩ = some (.int .i64 0) ∧ w'.cell? ⟨gb575, 2, none⟩ = some (.int .i64 0) ∧ w'.cell? ⟨gb575, 3, none⟩ = some (.int .i64 1)) (ds := []) #[false, false, false, false, false, false] (by kernel_rfl) rfl rfl ⟨(blk_cell BK573.out 0).trans rfl, (blk_cell BK573.out 1).trans rfl, (blk_cell BK573.out 2).trans rfl, (blk_cell BK573.out 3).trans rfl, (blk_cell BK575.out 0).trans rfl, (blk_cell BK575.out 1).trans rfl, (blk_cell BK575.out 2).trans rfl, (blk_cell BK575.out 3).trans rfl⟩ (fun hHeld => ?_)
        generalize w28.drew = w31 at BK573 BK575 HB hHeld ⊢
        refine take_ (i := 0) (N := some 23) (v := ?_) (a' := ?_) #[true, false, false, false, false, false] rfl rfl (by kernel_rfl) (fun _ _ _ h => h) (Or.inl ⟨by rfl, ?_⟩) hHeld ?_ ?_
        rotate_left
        · rintro w' ⟨s0, s1, s2, s3, s4, s5, s6, s7⟩
          go_simp
          with_reducible rfl
        rotate_left
        · simp only [Act.put, List.setIfInBounds_toArray, List.set_cons_zero, List.set_cons_succ, i64_w, i32_w]
          rfl
        refine take_ (i := 1) (N := some 24) (v := ?_) (a' := ?_) #[true, true, false, false, false, false] rfl rfl (by kernel_rfl) (fun _ _ _ h => h) (Or.inl ⟨by rfl, ?_⟩) hHeld ?_ ?_
        rotate_left
        · rintro w' ⟨s0, s1, s2, s3, s4, s5, s6, s7⟩
          go_simp
          with_reducible rfl
        rotate_left
        · simp only [Act.put, List.setIfInBounds_toArray, List.set_cons_zero, List.set_cons_succ, i64_w, i32_w]
          rfl
        refine take_ (i := 3) (N := some 26) (v := ?_) (a' := ?_) #[true, true, false, true, false, false] rfl rfl (by kernel_rfl) (fun _ _ _ h => h) (Or.inl ⟨by rfl, ?_⟩) hHeld ?_ ?_
        rotate_left
        · rintro w' ⟨s0, s1, s2, s3, s4, s5, s6, s7⟩
          go_simp
          with_reducible rfl
        rotate_left
        · simp only [Act.put, List.setIfInBounds_toArray, List.set_cons_zero, List.set_cons_succ, i64_w, i32_w]
          rfl
        refine one_ (i := 2) (N := some 25) #[true, true, true, true, false, false] rfl rfl (by kernel_rfl) (by decide) (fun K hK => ?_)
        refine goes_ Try.func40 (by kernel_rfl) rfl #[.agg #[.int .i64 a0_0, .int .i64 a0_1, .int .i64 a0_2, .int .i64 a0_3], .agg #[.int .i64 a0_0, .int .i64 a0_1, .int .i64 a0_2, .int .i64 a0_3]] (by rfl) rfl rfl am ?_
        with_reducible refine (grids_times.calls a0_0 a0_1 a0_2 a0_3 a0_0 a0_1 a0_2 a0_3 t578 t579 t580 t581 _ A18.out).mono ?_
        rintro e w32 ⟨rfl, hb⟩
        refine ⟨_, rfl, ?_⟩
        replace BK573 := bb BK573 hb
        replace BK575 := bb BK575 hb
        replace HB := bst HB hb
        (try clear hb)
        (try clear hb2)
        (try clear hk)
        (try clear hi)
        refine hK.out _ _ ⟨(blk_cell BK573.out 0).trans rfl, (blk_cell BK573.out 1).trans rfl, (blk_cell BK573.out 2).trans rfl, (blk_cell BK573.out 3).trans rfl, (blk_cell BK575.out 0).trans rfl, (blk_cell BK575.out 1).trans rfl, (blk_cell BK575.out 2).trans rfl, (blk_cell BK575.out 3).trans rfl⟩ (fun hHeld => ?_)
        clear hK K
        refine norm_ (a' := ?_) ?_ ?_
        rotate_left
        · show Act.put _ (some 25) _ = _
          simp only [Act.put, List.setIfInBounds_toArray, List.set_cons_zero, List.set_cons_succ, i64_w, i32_w]
          rfl
        refine pure_ (i := 4) (N := some 27) (v := ?_) (a' := ?_) #[true, true, true, true, true, false] rfl rfl (by kernel_rfl) (fun _ _ _ h => h) (Or.inl ⟨by rfl, ?_⟩) ?_ ?_
        rotate_left
        · intro w'
          go_simp
          with_reducible rfl
        rotate_left
        · simp only [Act.put, List.setIfInBounds_toArray, List.set_cons_zero, List.set_cons_succ, i64_w, i32_w]
          rfl
        refine pure_ (i := 5) (N := some 22) (v := ?_) (a' := ?_) #[true, true, true, true, true, true] rfl rfl (by kernel_rfl) (fun _ _ _ h => h) (Or.inl ⟨by rfl, ?_⟩) ?_ ?_
        rotate_left
        · intro w'
          go_simp
          with_reducible rfl
        rotate_left
        · simp only [Act.put, List.setIfInBounds_toArray, List.set_cons_zero, List.set_cons_succ, i64_w, i32_w]
          rfl
        refine done_ (by kernel_rfl) ?_
        try go_wp2
        go_ret2
        exact ⟨by first | rfl | (simp [errW_none, errW_some] <;> rfl) | (simp [*, errW_none, errW_some] <;> rfl), by repeat (first | (with_reducible first | exact HB.out | apply below_alloc | apply pw_below_drewN | apply below_drew1 | refine below_set ?_ GE573.out | refine below_set ?_ GE575.out) | exact HB.out)⟩
      · rw [if_neg c19] at H
        have c19b0 : (t578 == 1 && (t579 == 0 && (t580 == 0 && (t581 == 1)))) = false := by simpa using c19
        (try (have c19b1 : decide (t578 = 1 && (t579 == 0 && (t580 == 0 && (t581 == 1)))) = false := by simpa using c19))
        (try (have c19b2 : (t578 == 1 && (t579 == 0 && (t580 == 0 && (t581 == 1)))) = false := by simpa using c19))
        (try (have c19b3 : ¬ (t578 = 1 && (t579 == 0 && (t580 == 0 && (t581 == 1)))) := by simpa using c19))
        clear c19
        have HC33 := Aside0.mk H
        clear H
        go_enter Try.func33, Try.ntmps33
        try go_wp2_with (first | ((with_reducible refine gate_dst (N := 1) rfl ?_); refine box_event ?hg (N := 1) ?hd (cs := #[.int .i64 a0_0, .int .i64 a0_1, .int .i64 a0_2, .int .i64 a0_3]) (t := 25) ?hr ?_; (case hd => rfl); (case hg => rfl); (case hr => first | (go_simp; done) | (go_simp; rfl)); intro gb573 hg w34 hbox hb; have BK573 := Aside0.mk (hbox); have GW573 := Aside0.mk ((by rw [hg]; exact (below_size (bnow HB)) : w.heap.size ≤ gb573)); have GE573 := Aside0.mk ((by rw [hg]; exact (below_size (bnow HB)) : w.heap.size ≤ gb573)); replace HB := bst HB hb; clear hb hbox hg; have hcz35_0 : w34.cell? ⟨gb573, 0, none⟩ = some (.int .i64 a0_0) := (blk_cell BK573.out 0).trans rfl; have hcz35_1 : w34.cell? ⟨gb573, 1, none⟩ = some (.int .i64 a0_1) := (blk_cell BK573.out 1).trans rfl; have hcz35_2 : w34.cell? ⟨gb573, 2, none⟩ = some (.int .i64 a0_2) := (blk_cell BK573.out 2).trans rfl; have hcz35_3 : w34.cell? ⟨gb573, 3, none⟩ = some (.int .i64 a0_3) := (blk_cell BK573.out 3).trans rfl; have hfz35_0 := blk_frozen BK573.out 0; have hfz35_1 := blk_frozen BK573.out 1; have hfz35_2 := blk_frozen BK573.out 2; have hfz35_3 := blk_frozen BK573.out 3) | ((with_reducible refine gate_callee (f := 59) rfl ?_); refine goesL_ (some 8) rfl rfl Try.func59 (by kernel_rfl) rfl #[.agg #[.int .i64 a0_0, .int .i64 a0_1, .int .i64 a0_2, .int .i64 a0_3]] rfl am ?_; (with_reducible refine (grids_matrix.calls a0_0 a0_1 a0_2 a0_3 true _ A2.out).mono ?_); rintro e w36 ⟨rfl, hb⟩; refine ⟨_, rfl, ?_⟩; replace BK573 := bb BK573 hb; replace HB := bst HB hb; clear hb) | ((with_reducible refine gate_dst (N := 4) rfl ?_); refine box_event ?hg (N := 4) ?hd (cs := #[.int .i64 0, .int .i64 0, .int .i64 0, .int .i64 0]) (t := 25) ?hr ?_; (case hd => rfl); (case hg => rfl); (case hr => first | (go_simp; done) | (go_simp; rfl)); intro gb575 hg w37 hbox hb; have BK575 := Aside0.mk (hbox); have GW575 := Aside0.mk ((by rw [hg]; exact (below_size (bnow HB)) : w.heap.size ≤ gb575)); have GE575 := Aside0.mk ((by rw [hg]; exact (below_size (bnow HB)) : w.heap.size ≤ gb575)); have NB573_575 := Aside0.mk ((by rw [hg]; exact Nat.ne_of_lt (blk_lt (g := gb573) (o := .cells #[.int .i64 a0_0, .int .i64 a0_1, .int .i64 a0_2, .int .i64 a0_3] 25 (0, 0)) (pk BK573)) : gb573 ≠ gb575)); have NB575_573 := Aside0.mk ((by rw [hg]; exact Nat.ne_of_gt (blk_lt (g := gb573) (o := .cells #[.int .i64 a0_0, .int .i64 a0_1, .int .i64 a0_2, .int .i64 a0_3] 25 (0, 0)) (pk BK573)) : gb575 ≠ gb573)); replace BK573 := bb BK573 hb; replace HB := bst HB hb; clear hb hbox hg; have hnb38 := NB575_573.out; have hnc38 := NB573_575.out; have hcz39_0 : w37.cell? ⟨gb575, 0, none⟩ = some (.int .i64 0) := (blk_cell BK575.out 0).trans rfl; have hcz39_1 : w37.cell? ⟨gb575, 1, none⟩ = some (.int .i64 0) := (blk_cell BK575.out 1).trans rfl; have hcz39_2 : w37.cell? ⟨gb575, 2, none⟩ = some (.int .i64 0) := (blk_cell BK575.out 2).trans rfl; have hcz39_3 : w37.cell? ⟨gb575, 3, none⟩ = some (.int .i64 0) := (blk_cell BK575.out 3).trans rfl; have hfz39_0 := blk_frozen BK575.out 0; have hfz39_1 := blk_frozen BK575.out 1; have hfz39_2 := blk_frozen BK575.out 2; have hfz39_3 := blk_frozen BK575.out 3) | ((with_reducible refine gate_store (t := 25) (p := 4) rfl ?_); refine store_event (t := 25) (p := 4) (v := ?vo_w40) (w1 := ((((w37.setCell ⟨gb575, 0, none⟩ (.int .i64 1)).setCell ⟨gb575, 1, none⟩ (.int .i64 0)).setCell ⟨gb575, 2, none⟩ (.int .i64 0)).setCell ⟨gb575, 3, none⟩ (.int .i64 1))) ?hg ?ho ?hn ?hr ?_; (case ho => rfl); (case hg => rfl); (case hn => rfl); (case hr => first | (go_simp; done) | (go_simp; rfl)); intro w40 hw; have n0_ : Aside0 (w40.heap[gb573]? = some (.cells #[.int .i64 a0_0, .int .i64 a0_1, .int .i64 a0_2, .int .i64 a0_3] 25 (0, 0))) := ⟨(by rw [hw]; exact (by (with_reducible repeat (first | refine blk_drewN ?_ _ | refine blk_drew ?_ | refine blk_alloc ?_ _)); refine blk_far ?_ NB573_575.out _; (with_reducible repeat (first | refine blk_drewN ?_ _ | refine blk_drew ?_ | refine blk_alloc ?_ _)); refine blk_far ?_ NB573_575.out _; (with_reducible repeat (first | refine blk_drewN ?_ _ | refine blk_drew ?_ | refine blk_alloc ?_ _)); refine blk_far ?_ NB573_575.out _; (with_reducible repeat (first | refine blk_drewN ?_ _ | refine blk_drew ?_ | refine blk_alloc ?_ _)); refine blk_far ?_ NB573_575.out _; (with_reducible repeat (first | refine blk_drewN ?_ _ | refine blk_drew ?_ | refine blk_alloc ?_ _)); exact BK573.out))⟩; have n1_ : Aside0 (w40.heap[gb575]? = some (.cells #[.int .i64 1, .int .i64 0, .int .i64 0, .int .i64 1] 25 (0, 0))) := ⟨(by rw [hw]; exact (by (with_reducible repeat (first | refine blk_drewN ?_ _ | refine blk_drew ?_ | refine blk_alloc ?_ _)); refine blk_put (cs := #[.int .i64 1, .int .i64 0, .int .i64 0, .int .i64 0]) ?_ 3 _ rfl; (with_reducible repeat (first | refine blk_drewN ?_ _ | refine blk_drew ?_ | refine blk_alloc ?_ _)); refine blk_put (cs := #[.int .i64 1, .int .i64 0, .int .i64 0, .int .i64 0]) ?_ 2 _ rfl; (with_reducible repeat (first | refine blk_drewN ?_ _ | refine blk_drew ?_ | refine blk_alloc ?_ _)); refine blk_put (cs := #[.int .i64 1, .int .i64 0, .int .i64 0, .int .i64 0]) ?_ 1 _ rfl; (with_reducible repeat (first | refine blk_drewN ?_ _ | refine blk_drew ?_ | refine blk_alloc ?_ _)); refine blk_put (cs := #[.int .i64 0, .int .i64 0, .int .i64 0, .int .i64 0]) ?_ 0 _ rfl; (with_reducible repeat (first | refine blk_drewN ?_ _ | refine blk_drew ?_ | refine blk_alloc ?_ _)); exact BK575.out))⟩; have n2_ : Aside0 (Below w.heap.size w w40) := ⟨(by rw [hw]; exact (bnow HB))⟩; clear hw; clear BK573; clear BK575; clear HB; have BK573 := n0_; have BK575 := n1_; have HB := n2_; clear n0_ n1_ n2_))
        have n0_ := Aside0.mk (blk_drew BK573.out)
        have n1_ := Aside0.mk (blk_drew BK575.out)
        have n2_ := Aside0.mk (below_drew1 HB.out)
        clear BK573
        clear BK575
        clear HB
        have BK573 := n0_
        have BK575 := n1_
        have HB := n2_
        clear n0_ n1_ n2_
        refine start_ (n := 9) (S := fun w' => w'.cell? ⟨gb573, 0, none⟩ = some (.int .i64 a0_0) ∧ w'.cell? ⟨gb573, 1, none⟩ = some (.int .i64 a0_1) ∧ w'.cell? ⟨gb573, 2, none⟩ = some (.int .i64 a0_2) ∧ w'.cell? ⟨gb573, 3, none⟩ = some (.int .i64 a0_3)) (ds := []) #[false, false, false, false, false, false, false, false, false] (by kernel_rfl) rfl rfl ⟨(blk_cell BK573.out 0).trans rfl, (blk_cell BK573.out 1).trans rfl, (blk_cell BK573.out 2).trans rfl, (blk_cell BK573.out 3).trans rfl⟩ (fun hHeld => ?_); refine with_tabW grids_Order.tab4 grids_Order.bits4 (fun HT_ HW_ => ?_)
        generalize w40.drew = w41 at BK573 BK575 HB hHeld ⊢
        refine pure_ (i := 2) (N := some 13) (v := ?_) (a' := ?_) #[false, false, true, false, false, false, false, false, false] rfl rfl (any_of HT_.out (by kernel_rfl)) (fun _ _ _ h => h) (Or.inl ⟨by rfl, ?_⟩) ?_ ?_
        rotate_left
        · intro w'
          go_simp
          with_reducible rfl
        rotate_left
        · simp only [Act.put, List.setIfInBounds_toArray, List.set_cons_zero, List.set_cons_succ, i64_w, i32_w]
          rfl
        refine pure_ (i := 4) (N := some 15) (v := ?_) (a' := ?_) #[false, false, true, false, true, false, false, false, false] rfl rfl (any_of HT_.out (by kernel_rfl)) (fun _ _ _ h => h) (Or.inl ⟨by rfl, ?_⟩) ?_ ?_
        rotate_left
        · intro w'
          go_simp
          with_reducible rfl
        rotate_left
        · simp only [Act.put, List.setIfInBounds_toArray, List.set_cons_zero, List.set_cons_succ, i64_w, i32_w]
          rfl
        refine take_ (i := 0) (N := some 11) (v := ?_) (a' := ?_) #[true, false, true, false, true, false, false, false, false] rfl rfl (take_ofW HT_.out HW_.out (by kernel_rfl)) (fun _ _ _ h => h) (Or.inl ⟨by rfl, ?_⟩) hHeld ?_ ?_
        rotate_left
        · rintro w' ⟨s0, s1, s2, s3⟩
          go_simp
          with_reducible rfl
        rotate_left
        · simp only [Act.put, List.setIfInBounds_toArray, List.set_cons_zero, List.set_cons_succ, i64_w, i32_w]
          rfl
        refine take_ (i := 3) (N := some 14) (v := ?_) (a' := ?_) #[true, false, true, true, true, false, false, false, false] rfl rfl (take_ofW HT_.out HW_.out (by kernel_rfl)) (fun _ _ _ h => h) (Or.inl ⟨by rfl, ?_⟩) hHeld ?_ ?_
        rotate_left
        · rintro w' ⟨s0, s1, s2, s3⟩
          go_simp
          with_reducible rfl
        rotate_left
        · simp only [Act.put, List.setIfInBounds_toArray, List.set_cons_zero, List.set_cons_succ, i64_w, i32_w]
          rfl
        refine take_ (i := 5) (N := some 16) (v := ?_) (a' := ?_) #[true, false, true, true, true, true, false, false, false] rfl rfl (take_ofW HT_.out HW_.out (by kernel_rfl)) (fun _ _ _ h => h) (Or.inl ⟨by rfl, ?_⟩) hHeld ?_ ?_
        rotate_left
        · rintro w' ⟨s0, s1, s2, s3⟩
          go_simp
          with_reducible rfl
        rotate_left
        · simp only [Act.put, List.setIfInBounds_toArray, List.set_cons_zero, List.set_cons_succ, i64_w, i32_w]
          rfl
        refine pure_ (i := 6) (N := some 17) (v := ?_) (a' := ?_) #[true, false, true, true, true, true, true, false, false] rfl rfl (any_of HT_.out (by kernel_rfl)) (fun _ _ _ h => h) (Or.inl ⟨by rfl, ?_⟩) ?_ ?_
        rotate_left
        · intro w'
          go_simp
          with_reducible rfl
        rotate_left
        · simp only [Act.put, List.setIfInBounds_toArray, List.set_cons_zero, List.set_cons_succ, i64_w, i32_w]
          rfl
        refine one_ (i := 1) (N := some 12) #[true, true, true, true, true, true, true, false, false] rfl rfl (one_of HT_.out (by kernel_rfl)) (by decide) (fun K hK => ?_)
        refine goes_ Try.func68 (by kernel_rfl) rfl #[.agg #[.int .i64 a0_0, .int .i64 a0_1, .int .i64 a0_2, .int .i64 a0_3]] (by rfl) rfl rfl am ?_
        with_reducible refine (grids_det.calls a0_0 a0_1 a0_2 a0_3 t576 _ A4.out).mono ?_
        rintro e w42 ⟨rfl, hb⟩
        refine ⟨_, rfl, ?_⟩
        replace BK573 := bb BK573 hb
        replace BK575 := bb BK575 hb
        replace HB := bst HB hb
        (try clear hb)
        (try clear hb2)
        (try clear hk)
        (try clear hi)
        refine hK.out _ _ ⟨(blk_cell BK573.out 0).trans rfl, (blk_cell BK573.out 1).trans rfl, (blk_cell BK573.out 2).trans rfl, (blk_cell BK573.out 3).trans rfl⟩ (fun hHeld => ?_)
        clear hK K
        refine norm_ (a' := ?_) ?_ ?_
        rotate_left
        · show Act.put _ (some 12) _ = _
          simp only [Act.put, List.setIfInBounds_toArray, List.set_cons_zero, List.set_cons_succ, i64_w, i32_w]
          rfl
        refine pure_ (i := 7) (N := some 5) (v := ?_) (a' := ?_) #[true, true, true, true, true, true, true, true, false] rfl rfl (any_of HT_.out (by kernel_rfl)) (fun _ _ _ h => h) (Or.inl ⟨by rfl, ?_⟩) ?_ ?_
        rotate_left
        · intro w'
          go_simp
          with_reducible rfl
        rotate_left
        · simp only [Act.put, List.setIfInBounds_toArray, List.set_cons_zero, List.set_cons_succ, i64_w, i32_w]
          rfl
        refine pure_ (i := 8) (N := some 6) (v := ?_) (a' := ?_) #[true, true, true, true, true, true, true, true, true] rfl rfl (any_of HT_.out (by kernel_rfl)) (fun _ _ _ h => h) (Or.inl ⟨by rfl, ?_⟩) ?_ ?_
        rotate_left
        · intro w'
          go_simp
          with_reducible rfl
        rotate_left
        · simp only [Act.put, List.setIfInBounds_toArray, List.set_cons_zero, List.set_cons_succ, i64_w, i32_w]
          rfl
        refine done_ (done_of HT_.out (by kernel_rfl)) ?_
        have hcz43_0 : w42.cell? ⟨gb573, 0, none⟩ = some (.int .i64 a0_0) := (blk_cell BK573.out 0).trans rfl
        have hcz43_1 : w42.cell? ⟨gb573, 1, none⟩ = some (.int .i64 a0_1) := (blk_cell BK573.out 1).trans rfl
        have hcz43_2 : w42.cell? ⟨gb573, 2, none⟩ = some (.int .i64 a0_2) := (blk_cell BK573.out 2).trans rfl
        have hcz43_3 : w42.cell? ⟨gb573, 3, none⟩ = some (.int .i64 a0_3) := (blk_cell BK573.out 3).trans rfl
        have hfz43_0 := blk_frozen BK573.out 0
        have hfz43_1 := blk_frozen BK573.out 1
        have hfz43_2 := blk_frozen BK573.out 2
        have hfz43_3 := blk_frozen BK573.out 3
        have hcz44_0 : w42.cell? ⟨gb575, 0, none⟩ = some (.int .i64 1) := (blk_cell BK575.out 0).trans rfl
        have hcz44_1 : w42.cell? ⟨gb575, 1, none⟩ = some (.int .i64 0) := (blk_cell BK575.out 1).trans rfl
        have hcz44_2 : w42.cell? ⟨gb575, 2, none⟩ = some (.int .i64 0) := (blk_cell BK575.out 2).trans rfl
        have hcz44_3 : w42.cell? ⟨gb575, 3, none⟩ = some (.int .i64 1) := (blk_cell BK575.out 3).trans rfl
        have hfz44_0 := blk_frozen BK575.out 0
        have hfz44_1 := blk_frozen BK575.out 1
        have hfz44_2 := blk_frozen BK575.out 2
        have hfz44_3 := blk_frozen BK575.out 3
        try go_wp2
        have n0_ := Aside0.mk (blk_drew BK573.out)
        have n1_ := Aside0.mk (blk_drew BK575.out)
        have n2_ := Aside0.mk (below_drew1 HB.out)
        clear BK573
        clear BK575
        clear HB
        have BK573 := n0_
        have BK575 := n1_
        have HB := n2_
        clear n0_ n1_ n2_
        refine start_ (n := 6) (S := fun w' => w'.cell? ⟨gb573, 0, none⟩ = some (.int .i64 a0_0) ∧ w'.cell? ⟨gb573, 1, none⟩ = some (.int .i64 a0_1) ∧ w'.cell? ⟨gb573, 2, none⟩ = some (.int .i64 a0_2) ∧ w'.cell? ⟨gb573, 3, none⟩ = some (.int .i64 a0_3) ∧ w'.cell? ⟨gb575, 0, none⟩ = some (.int .i64 1) ∧ w'.cell? ⟨gb575, 1, none⟩ = some (.int .i64 0) ∧ w'.cell? ⟨gb575, 2, none⟩ = some (.int .i64 0) ∧ w'.cell? ⟨gb575, 3, none⟩ = some (.int .i64 1)) (ds := []) #[false, false, false, false, false, false] (by kernel_rfl) rfl rfl ⟨(blk_cell BK573.out 0).trans rfl, (blk_cell BK573.out 1).trans rfl, (blk_cell BK573.out 2).trans rfl, (blk_cell BK573.out 3).trans rfl, (blk_cell BK575.out 0).trans rfl, (blk_cell BK575.out 1).trans rfl, (blk_cell BK575.out 2).trans rfl, (blk_cell BK575.out 3).trans rfl⟩ (fun hHeld => ?_)
        generalize w42.drew = w45 at BK573 BK575 HB hHeld ⊢
        refine take_ (i := 0) (N := some 23) (v := ?_) (a' := ?_) #[true, false, false, false, false, false] rfl rfl (by kernel_rfl) (fun _ _ _ h => h) (Or.inl ⟨by rfl, ?_⟩) hHeld ?_ ?_
        rotate_left
        · rintro w' ⟨s0, s1, s2, s3, s4, s5, s6, s7⟩
          go_simp
          with_reducible rfl
        rotate_left
        · simp only [Act.put, List.setIfInBounds_toArray, List.set_cons_zero, List.set_cons_succ, i64_w, i32_w]
          rfl
        refine take_ (i := 1) (N := some 24) (v := ?_) (a' := ?_) #[true, true, false, false, false, false] rfl rfl (by kernel_rfl) (fun _ _ _ h => h) (Or.inl ⟨by rfl, ?_⟩) hHeld ?_ ?_
        rotate_left
        · rintro w' ⟨s0, s1, s2, s3, s4, s5, s6, s7⟩
          go_simp
          with_reducible rfl
        rotate_left
        · simp only [Act.put, List.setIfInBounds_toArray, List.set_cons_zero, List.set_cons_succ, i64_w, i32_w]
          rfl
        refine take_ (i := 3) (N := some 26) (v := ?_) (a' := ?_) #[true, true, false, true, false, false] rfl rfl (by kernel_rfl) (fun _ _ _ h => h) (Or.inl ⟨by rfl, ?_⟩) hHeld ?_ ?_
        rotate_left
        · rintro w' ⟨s0, s1, s2, s3, s4, s5, s6, s7⟩
          go_simp
          with_reducible rfl
        rotate_left
        · simp only [Act.put, List.setIfInBounds_toArray, List.set_cons_zero, List.set_cons_succ, i64_w, i32_w]
          rfl
        refine one_ (i := 2) (N := some 25) #[true, true, true, true, false, false] rfl rfl (by kernel_rfl) (by decide) (fun K hK => ?_)
        refine goes_ Try.func40 (by kernel_rfl) rfl #[.agg #[.int .i64 a0_0, .int .i64 a0_1, .int .i64 a0_2, .int .i64 a0_3], .agg #[.int .i64 a0_0, .int .i64 a0_1, .int .i64 a0_2, .int .i64 a0_3]] (by rfl) rfl rfl am ?_
        with_reducible refine (grids_times.calls a0_0 a0_1 a0_2 a0_3 a0_0 a0_1 a0_2 a0_3 t578 t579 t580 t581 _ A18.out).mono ?_
        rintro e w46 ⟨rfl, hb⟩
        refine ⟨_, rfl, ?_⟩
        replace BK573 := bb BK573 hb
        replace BK575 := bb BK575 hb
        replace HB := bst HB hb
        (try clear hb)
        (try clear hb2)
        (try clear hk)
        (try clear hi)
        refine hK.out _ _ ⟨(blk_cell BK573.out 0).trans rfl, (blk_cell BK573.out 1).trans rfl, (blk_cell BK573.out 2).trans rfl, (blk_cell BK573.out 3).trans rfl, (blk_cell BK575.out 0).trans rfl, (blk_cell BK575.out 1).trans rfl, (blk_cell BK575.out 2).trans rfl, (blk_cell BK575.out 3).trans rfl⟩ (fun hHeld => ?_)
        clear hK K
        refine norm_ (a' := ?_) ?_ ?_
        rotate_left
        · show Act.put _ (some 25) _ = _
          simp only [Act.put, List.setIfInBounds_toArray, List.set_cons_zero, List.set_cons_succ, i64_w, i32_w]
          rfl
        refine pure_ (i := 4) (N := some 27) (v := ?_) (a' := ?_) #[true, true, true, true, true, false] rfl rfl (by kernel_rfl) (fun _ _ _ h => h) (Or.inl ⟨by rfl, ?_⟩) ?_ ?_
        rotate_left
        · intro w'
          go_simp
          with_reducible rfl
        rotate_left
        · simp only [Act.put, List.setIfInBounds_toArray, List.set_cons_zero, List.set_cons_succ, i64_w, i32_w]
          rfl
        refine pure_ (i := 5) (N := some 22) (v := ?_) (a' := ?_) #[true, true, true, true, true, true] rfl rfl (by kernel_rfl) (fun _ _ _ h => h) (Or.inl ⟨by rfl, ?_⟩) ?_ ?_
        rotate_left
        · intro w'
          go_simp
          with_reducible rfl
        rotate_left
        · simp only [Act.put, List.setIfInBounds_toArray, List.set_cons_zero, List.set_cons_succ, i64_w, i32_w]
          rfl
        refine done_ (by kernel_rfl) ?_
        go_upto_region 9 with (fail)
        go_cut [28] (fun v28 wc => ∃ (kq : Nat) (x28_32 : Bool), v28 = .bool x28_32 ∧ Aside0 (grids_Order.j0 kq t576 z577 x28_32 = some (r1, r2)) ∧ Aside0 (kq ≤ k) ∧ Aside0 (wc.heap[gb573]? = some (.cells #[.int .i64 a0_0, .int .i64 a0_1, .int .i64 a0_2, .int .i64 a0_3] 25 (0, 0))) ∧ Aside0 (wc.heap[gb575]? = some (.cells #[.int .i64 1, .int .i64 0, .int .i64 0, .int .i64 1] 25 (0, 0))) ∧ Aside0 (Below w.heap.size w wc))
        case first =>
          have H := HC33.out
          clear HC33
          by_cases c47 : t576 = 1
          · rw [if_pos c47] at H
            have c47b0 : (t576 == 1) = true := beq_iff_eq.mpr c47
            have c47b1 : (t576 != 1) = false := bne_eq_false_iff_eq.mpr c47
            clear c47
            (first | rw [c47b0] | (simp only [i64_w, i32_w]; rw [c47b0]) | skip)
            have H' := Aside0.mk H
            clear H
            go_wp2
            go_meet
            case rel => exact ⟨_, ((z577 == (-1))), (by first | rfl | (simp; done) | (simp [*]; done)), H', ⟨by first | omega | exact Nat.le_refl _⟩, ⟨pk BK573⟩, ⟨pk BK575⟩, ⟨bnow HB⟩⟩
          · rw [if_neg c47] at H
            have c47b0 : (t576 == 1) = false := beq_eq_false_iff_ne.mpr c47
            have c47b1 : (t576 != 1) = true := bne_iff_ne.mpr c47
            (first | rw [c47b0] | (simp only [i64_w, i32_w]; rw [c47b0]) | skip)
            have H' := Aside0.mk H
            clear H
            go_wp2
            go_meet
            case rel => exact ⟨_, (false), (by first | rfl | (simp; done) | (simp [*]; done)), H', ⟨by first | omega | exact Nat.le_refl _⟩, ⟨pk BK573⟩, ⟨pk BK575⟩, ⟨bnow HB⟩⟩
        case rest =>
          clear HC33
          try clear c1
          try clear c2
          try clear p2
          try clear c3
          try clear c4
          try clear c5
          try clear c6
          try clear c6b0
          try clear c6b1
          try clear c6b2
          try clear p6
          try clear c11
          try clear c19
          try clear c19b0
          try clear c19b1
          try clear c19b2
          try clear c24
          try clear c33
          try clear c38
          try clear c40
          try clear c47
          try clear c47b0
          try clear c47b1
          try clear hcz12_0
          try clear hcz12_1
          try clear hcz12_2
          try clear hcz12_3
          try clear hcz16_0
          try clear hcz16_1
          try clear hcz16_2
          try clear hcz16_3
          try clear hcz17_0
          try clear hcz17_1
          try clear hcz17_2
          try clear hcz17_3
          try clear hcz21_0
          try clear hcz21_1
          try clear hcz21_2
          try clear hcz21_3
          try clear hcz25_0
          try clear hcz25_1
          try clear hcz25_2
          try clear hcz25_3
          try clear hcz29_0
          try clear hcz29_1
          try clear hcz29_2
          try clear hcz29_3
          try clear hcz30_0
          try clear hcz30_1
          try clear hcz30_2
          try clear hcz30_3
          try clear hcz35_0
          try clear hcz35_1
          try clear hcz35_2
          try clear hcz35_3
          try clear hcz39_0
          try clear hcz39_1
          try clear hcz39_2
          try clear hcz39_3
          try clear hcz43_0
          try clear hcz43_1
          try clear hcz43_2
          try clear hcz43_3
          try clear hcz44_0
          try clear hcz44_1
          try clear hcz44_2
          try clear hcz44_3
          try clear hcz8_0
          try clear hcz8_1
          try clear hcz8_2
          try clear hcz8_3
          try clear hfz12_0
          try clear hfz12_1
          try clear hfz12_2
          try clear hfz12_3
          try clear hfz16_0
          try clear hfz16_1
          try clear hfz16_2
          try clear hfz16_3
          try clear hfz17_0
          try clear hfz17_1
          try clear hfz17_2
          try clear hfz17_3
          try clear hfz21_0
          try clear hfz21_1
          try clear hfz21_2
          try clear hfz21_3
          try clear hfz25_0
          try clear hfz25_1
          try clear hfz25_2
          try clear hfz25_3
          try clear hfz29_0
          try clear hfz29_1
          try clear hfz29_2
          try clear hfz29_3
          try clear hfz30_0
          try clear hfz30_1
          try clear hfz30_2
          try clear hfz30_3
          try clear hfz35_0
          try clear hfz35_1
          try clear hfz35_2
          try clear hfz35_3
          try clear hfz39_0
          try clear hfz39_1
          try clear hfz39_2
          try clear hfz39_3
          try clear hfz43_0
          try clear hfz43_1
          try clear hfz43_2
          try clear hfz43_3
          try clear hfz44_0
          try clear hfz44_1
          try clear hfz44_2
          try clear hfz44_3
          try clear hfz8_0
          try clear hfz8_1
          try clear hfz8_2
          try clear hfz8_3
          obtain ⟨kq, x28_32, rfl, HA, HJ32, BK573, BK575, HB⟩ := hcut
          cases kq with
          | zero => exact absurd HA.out (by simp [grids_Order.j0])
          | succ kj32 =>
            have H := HA.out
            clear HA
            simp only [grids_Order.j0] at H
            by_cases c48 : x28_32 = true
            · subst c48
              have H1 : (some (3, 0)) = some (r1, r2) := by rw [if_pos rfl] at H; exact H
              clear H
              have H := H1
              clear H1
              simp only [Option.some.injEq, Prod.mk.injEq] at H
              obtain ⟨rfl, rfl⟩ := H
              go_wp2
              go_ret2
              exact ⟨by first | rfl | (simp [errW_none, errW_some] <;> rfl) | (simp [*, errW_none, errW_some] <;> rfl), by repeat (first | (with_reducible first | exact HB.out | apply below_alloc | apply pw_below_drewN | apply below_drew1 | refine below_set ?_ GE573.out | refine below_set ?_ GE575.out) | exact HB.out)⟩
            · replace c48 := Bool.eq_false_iff.mpr c48
              subst c48
              have H1 : (if t576 = 1 then (grids_Order.j1 kj32 t576 z577 (z577 == 0)) else (grids_Order.j1 kj32 t576 z577 false)) = some (r1, r2) := by rw [if_neg (show ¬ (false = true) by decide)] at H; exact H
              clear H
              have H := H1
              clear H1
              have HC49 := Aside0.mk H
              clear H
              go_upto_region 11 with (fail)
              go_cut [35] (fun v35 wc => ∃ (kq : Nat) (x35_48 : Bool), v35 = .bool x35_48 ∧ Aside0 (grids_Order.j1 kq t576 z577 x35_48 = some (r1, r2)) ∧ Aside0 (kq ≤ kj32) ∧ Aside0 (wc.heap[gb573]? = some (.cells #[.int .i64 a0_0, .int .i64 a0_1, .int .i64 a0_2, .int .i64 a0_3] 25 (0, 0))) ∧ Aside0 (wc.heap[gb575]? = some (.cells #[.int .i64 1, .int .i64 0, .int .i64 0, .int .i64 1] 25 (0, 0))) ∧ Aside0 (Below w.heap.size w wc))
              case first =>
                have H := HC49.out
                clear HC49
                by_cases c50 : t576 = 1
                · rw [if_pos c50] at H
                  have c50b0 : (t576 == 1) = true := beq_iff_eq.mpr c50
                  have c50b1 : (t576 != 1) = false := bne_eq_false_iff_eq.mpr c50
                  clear c50
                  (first | rw [c50b0] | (simp only [i64_w, i32_w]; rw [c50b0]) | skip)
                  have H' := Aside0.mk H
                  clear H
                  go_wp2
                  go_meet
                  case rel => exact ⟨_, ((z577 == 0)), (by first | rfl | (simp; done) | (simp [*]; done)), H', ⟨by have := HJ32.out; first | omega | exact Nat.le_refl _⟩, ⟨pk BK573⟩, ⟨pk BK575⟩, ⟨bnow HB⟩⟩
                · rw [if_neg c50] at H
                  have c50b0 : (t576 == 1) = false := beq_eq_false_iff_ne.mpr c50
                  have c50b1 : (t576 != 1) = true := bne_iff_ne.mpr c50
                  (first | rw [c50b0] | (simp only [i64_w, i32_w]; rw [c50b0]) | skip)
                  have H' := Aside0.mk H
                  clear H
                  go_wp2
                  go_meet
                  case rel => exact ⟨_, (false), (by first | rfl | (simp; done) | (simp [*]; done)), H', ⟨by have := HJ32.out; first | omega | exact Nat.le_refl _⟩, ⟨pk BK573⟩, ⟨pk BK575⟩, ⟨bnow HB⟩⟩
              case rest =>
                clear HC49
                try clear c1
                try clear c2
                try clear p2
                try clear c3
                try clear c4
                try clear c5
                try clear c6
                try clear c6b0
                try clear c6b1
                try clear c6b2
                try clear p6
                try clear c11
                try clear c19
                try clear c19b0
                try clear c19b1
                try clear c19b2
                try clear c24
                try clear c33
                try clear c38
                try clear c40
                try clear c47
                try clear c47b0
                try clear c47b1
                try clear c48
                try clear c50
                try clear c50b0
                try clear c50b1
                try clear hcz12_0
                try clear hcz12_1
                try clear hcz12_2
                try clear hcz12_3
                try clear hcz16_0
                try clear hcz16_1
                try clear hcz16_2
                try clear hcz16_3
                try clear hcz17_0
                try clear hcz17_1
                try clear hcz17_2
                try clear hcz17_3
                try clear hcz21_0
                try clear hcz21_1
                try clear hcz21_2
                try clear hcz21_3
                try clear hcz25_0
                try clear hcz25_1
                try clear hcz25_2
                try clear hcz25_3
                try clear hcz29_0
                try clear hcz29_1
                try clear hcz29_2
                try clear hcz29_3
                try clear hcz30_0
                try clear hcz30_1
                try clear hcz30_2
                try clear hcz30_3
                try clear hcz35_0
                try clear hcz35_1
                try clear hcz35_2
                try clear hcz35_3
                try clear hcz39_0
                try clear hcz39_1
                try clear hcz39_2
                try clear hcz39_3
                try clear hcz43_0
                try clear hcz43_1
                try clear hcz43_2
                try clear hcz43_3
                try clear hcz44_0
                try clear hcz44_1
                try clear hcz44_2
                try clear hcz44_3
                try clear hcz8_0
                try clear hcz8_1
                try clear hcz8_2
                try clear hcz8_3
                try clear hfz12_0
                try clear hfz12_1
                try clear hfz12_2
                try clear hfz12_3
                try clear hfz16_0
                try clear hfz16_1
                try clear hfz16_2
                try clear hfz16_3
                try clear hfz17_0
                try clear hfz17_1
                try clear hfz17_2
                try clear hfz17_3
                try clear hfz21_0
                try clear hfz21_1
                try clear hfz21_2
                try clear hfz21_3
                try clear hfz25_0
                try clear hfz25_1
                try clear hfz25_2
                try clear hfz25_3
                try clear hfz29_0
                try clear hfz29_1
                try clear hfz29_2
                try clear hfz29_3
                try clear hfz30_0
                try clear hfz30_1
                try clear hfz30_2
                try clear hfz30_3
                try clear hfz35_0
                try clear hfz35_1
                try clear hfz35_2
                try clear hfz35_3
                try clear hfz39_0
                try clear hfz39_1
                try clear hfz39_2
                try clear hfz39_3
                try clear hfz43_0
                try clear hfz43_1
                try clear hfz43_2
                try clear hfz43_3
                try clear hfz44_0
                try clear hfz44_1
                try clear hfz44_2
                try clear hfz44_3
                try clear hfz8_0
                try clear hfz8_1
                try clear hfz8_2
                try clear hfz8_3
                try clear p2
                try clear p6
                obtain ⟨kq, x35_48, rfl, HA, HJ48, BK573, BK575, HB⟩ := hcut
                cases kq with
                | zero => exact absurd HA.out (by simp [grids_Order.j1])
                | succ kj48 =>
                  have H := HA.out
                  clear HA
                  simp only [grids_Order.j1] at H
                  by_cases c51 : x35_48 = true
                  · subst c51
                    have H1 : (some (4, 0)) = some (r1, r2) := by rw [if_pos rfl] at H; exact H
                    clear H
                    have H := H1
                    clear H1
                    simp only [Option.some.injEq, Prod.mk.injEq] at H
                    obtain ⟨rfl, rfl⟩ := H
                    go_wp2
                    go_ret2
                    exact ⟨by first | rfl | (simp [errW_none, errW_some] <;> rfl) | (simp [*, errW_none, errW_some] <;> rfl), by repeat (first | (with_reducible first | exact HB.out | apply below_alloc | apply pw_below_drewN | apply below_drew1 | refine below_set ?_ GE573.out | refine below_set ?_ GE575.out) | exact HB.out)⟩
                  · replace c51 := Bool.eq_false_iff.mpr c51
                    subst c51
                    have H1 : (if t576 = 1 then (if z577 = 1 then (some (6, 0)) else (some (0, 0))) else (some (0, 0))) = some (r1, r2) := by rw [if_neg (show ¬ (false = true) by decide)] at H; exact H
                    clear H
                    have H := H1
                    clear H1
                    by_cases c52 : t576 = 1
                    · rw [if_pos c52] at H
                      have c52b0 : (t576 == 1) = true := beq_iff_eq.mpr c52
                      have c52b1 : (t576 != 1) = false := bne_eq_false_iff_eq.mpr c52
                      clear c52
                      by_cases c53 : z577 = 1
                      · rw [if_pos c53] at H
                        have c53b0 : (z577 == 1) = true := beq_iff_eq.mpr c53
                        have c53b1 : (z577 != 1) = false := bne_eq_false_iff_eq.mpr c53
                        clear c53
                        simp only [Option.some.injEq, Prod.mk.injEq] at H
                        obtain ⟨rfl, rfl⟩ := H
                        go_wp2
                        go_ret2
                        exact ⟨by first | rfl | (simp [errW_none, errW_some] <;> rfl) | (simp [*, errW_none, errW_some] <;> rfl), by repeat (first | (with_reducible first | exact HB.out | apply below_alloc | apply pw_below_drewN | apply below_drew1 | refine below_set ?_ GE573.out | refine below_set ?_ GE575.out) | exact HB.out)⟩
                      · rw [if_neg c53] at H
                        have c53b0 : (z577 == 1) = false := beq_eq_false_iff_ne.mpr c53
                        have c53b1 : (z577 != 1) = true := bne_iff_ne.mpr c53
                        simp only [Option.some.injEq, Prod.mk.injEq] at H
                        obtain ⟨rfl, rfl⟩ := H
                        go_wp2
                        go_ret2
                        exact ⟨by first | rfl | (simp [errW_none, errW_some] <;> rfl) | (simp [*, errW_none, errW_some] <;> rfl), by repeat (first | (with_reducible first | exact HB.out | apply below_alloc | apply pw_below_drewN | apply below_drew1 | refine below_set ?_ GE573.out | refine below_set ?_ GE575.out) | exact HB.out)⟩
                    · rw [if_neg c52] at H
                      have c52b0 : (t576 == 1) = false := beq_eq_false_iff_ne.mpr c52
                      have c52b1 : (t576 != 1) = true := bne_iff_ne.mpr c52
                      simp only [Option.some.injEq, Prod.mk.injEq] at H
                      obtain ⟨rfl, rfl⟩ := H
                      go_wp2
                      go_ret2
                      exact ⟨by first | rfl | (simp [errW_none, errW_some] <;> rfl) | (simp [*, errW_none, errW_some] <;> rfl), by repeat (first | (with_reducible first | exact HB.out | apply below_alloc | apply pw_below_drewN | apply below_drew1 | refine below_set ?_ GE573.out | refine below_set ?_ GE575.out) | exact HB.out)⟩
  · replace c3 := Bool.eq_false_iff.mpr c3
    subst c3
    have H1 : (some (0, 2)) = some (r1, r2) := by rw [if_neg (show ¬ (false = true) by decide)] at H; exact H
    clear H
    have H := H1
    clear H1
    simp only [Option.some.injEq, Prod.mk.injEq] at H
    obtain ⟨rfl, rfl⟩ := H
    go_enter Try.func33, Try.ntmps33
    go_wp2_with (first | ((with_reducible refine gate_dst (N := 1) rfl ?_); refine box_event ?hg (N := 1) ?hd (cs := #[.int .i64 a0_0, .int .i64 a0_1, .int .i64 a0_2, .int .i64 a0_3]) (t := 25) ?hr ?_; (case hd => rfl); (case hg => rfl); (case hr => first | (go_simp; done) | (go_simp; rfl)); intro gb573 hg w54 hbox hb; have BK573 := Aside0.mk (hbox); have GW573 := Aside0.mk ((by rw [hg]; exact (below_size (bnow HB)) : w.heap.size ≤ gb573)); have GE573 := Aside0.mk ((by rw [hg]; exact (below_size (bnow HB)) : w.heap.size ≤ gb573)); replace HB := bst HB hb; clear hb hbox hg; have hcz55_0 : w54.cell? ⟨gb573, 0, none⟩ = some (.int .i64 a0_0) := (blk_cell BK573.out 0).trans rfl; have hcz55_1 : w54.cell? ⟨gb573, 1, none⟩ = some (.int .i64 a0_1) := (blk_cell BK573.out 1).trans rfl; have hcz55_2 : w54.cell? ⟨gb573, 2, none⟩ = some (.int .i64 a0_2) := (blk_cell BK573.out 2).trans rfl; have hcz55_3 : w54.cell? ⟨gb573, 3, none⟩ = some (.int .i64 a0_3) := (blk_cell BK573.out 3).trans rfl; have hfz55_0 := blk_frozen BK573.out 0; have hfz55_1 := blk_frozen BK573.out 1; have hfz55_2 := blk_frozen BK573.out 2; have hfz55_3 := blk_frozen BK573.out 3) | ((with_reducible refine gate_callee (f := 59) rfl ?_); refine goesL_ (some 8) rfl rfl Try.func59 (by kernel_rfl) rfl #[.agg #[.int .i64 a0_0, .int .i64 a0_1, .int .i64 a0_2, .int .i64 a0_3]] rfl am ?_; (with_reducible refine (grids_matrix.calls a0_0 a0_1 a0_2 a0_3 false _ A2.out).mono ?_); rintro e w56 ⟨rfl, hb⟩; refine ⟨_, rfl, ?_⟩; replace BK573 := bb BK573 hb; replace HB := bst HB hb; clear hb))
    go_ret2
    exact ⟨by first | rfl | (simp [errW_none, errW_some] <;> rfl) | (simp [*, errW_none, errW_some] <;> rfl), by repeat (first | (with_reducible first | exact HB.out | apply below_alloc | apply pw_below_drewN | apply below_drew1 | refine below_set ?_ GE573.out) | exact HB.out)⟩
end
end Go.Proofs.Ytmcajdepoohlhaa.G
