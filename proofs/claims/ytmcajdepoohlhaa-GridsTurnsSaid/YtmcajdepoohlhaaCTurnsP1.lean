/- Functions of the program as plain Lean functions, and their contracts (printed by a program of this session). No condition beyond what each states. -/
import Derived.Test.YtmcajdepoohlhaaCTurnsP0
namespace Go.Proofs.Ytmcajdepoohlhaa.G
open Go.RowKit Go.Proofs.YtmcajdepoohlhaaW.PrintWords Go.Proofs.YtmcajdepoohlhaaW.PrintLast Go.Proofs.YtmcajdepoohlhaaW.PrintMore
attribute [local go_sem] max2_int min2_int max_two min_two max_three min_three max_four min_four
set_option linter.unusedVariables false
set_option linter.unusedSimpArgs false
section
/-! ### grids_reduce: function 38 -/
mutual
def grids_reduce.l0 : Nat → Int → Int → Int → Int → Int → Int → Int → Option (Int × Int × Int × Int × Int × Int × Int)
  | 0, _, _, _, _, _, _, _ => none
  | k + 1, x125000, x125001, x125002, x128000, x128001, x128002, x128003 => (some (wrap64 (2 * x125001))).bind fun z128 => ((some (wrap64 (z128 + x125000))).bind fun z129 => ((some (wrap64 (2 * x125000))).bind fun z130 => ((grids_floor.f z129 z130).bind fun t131 => ((some (wrap64 (-t131))).bind fun z132 => ((grids_times.f x128000 x128001 x128002 x128003 1 z132 0 1).bind fun bt133 => ((some (wrap64 (t131 * x125000))).bind fun z137 => ((some (wrap64 (x125001 - z137))).bind fun z138 => ((some (wrap64 (2 * t131))).bind fun z139 => ((some (wrap64 (z139 * x125001))).bind fun z140 => ((some (wrap64 (x125002 - z140))).bind fun z141 => ((some (wrap64 (t131 * t131))).bind fun z142 => ((some (wrap64 (z142 * x125000))).bind fun z143 => ((some (wrap64 (z141 + z143))).bind fun z144 => (if z138 < 0 then ((some (wrap64 (-z138))).bind fun z145 => ((some (wrap64 (-bt133.2.1))).bind fun z146 => ((some (wrap64 (-bt133.2.2.2))).bind fun z147 => (grids_reduce.j1 k x125000 z145 z144 bt133.1 z146 bt133.2.2.1 z147)))) else (grids_reduce.j1 k x125000 z138 z144 bt133.1 bt133.2.1 bt133.2.2.1 bt133.2.2.2)))))))))))))))
def grids_reduce.j1 : Nat → Int → Int → Int → Int → Int → Int → Int → Option (Int × Int × Int × Int × Int × Int × Int)
  | 0, _, _, _, _, _, _, _ => none
  | k + 1, x125000, x125001, x125002, x128000, x128001, x128002, x128003 => if x125000 ≤ x125002 then (some (x125000, x125001, x125002, x128000, x128001, x128002, x128003)) else (grids_reduce.l0 k x125002 x125001 x125000 x128001 x128000 x128003 x128002)
end
def grids_reduce.f (k : Nat) (a0_0 : Int) (a0_1 : Int) (a0_2 : Int) : Option (Int × Int × Int × Int × Int × Int × Int) := grids_reduce.l0 k a0_0 a0_1 a0_2 1 0 0 1
theorem grids_reduce.mono_l : ∀ k, (∀ y0 y1 y2 y3 y4 y5 y6, LeO (grids_reduce.l0 k y0 y1 y2 y3 y4 y5 y6) (grids_reduce.l0 (k + 1) y0 y1 y2 y3 y4 y5 y6)) ∧ (∀ y0 y1 y2 y3 y4 y5 y6, LeO (grids_reduce.j1 k y0 y1 y2 y3 y4 y5 y6) (grids_reduce.j1 (k + 1) y0 y1 y2 y3 y4 y5 y6))
  | 0 => ⟨fun _ _ _ _ _ _ _ r h => by simp [grids_reduce.l0] at h, fun _ _ _ _ _ _ _ r h => by simp [grids_reduce.j1] at h⟩
  | k + 1 => by
    obtain ⟨ih0, ih1⟩ := grids_reduce.mono_l k
    refine ⟨?_, ?_⟩
    · intro y0 y1 y2 y3 y4 y5 y6
      unfold grids_reduce.l0
      repeat' first
      | (with_reducible exact ih0 _ _ _ _ _ _ _)
      | (with_reducible exact ih1 _ _ _ _ _ _ _)
      | (with_reducible exact LeO.refl _)
      | (with_reducible exact LeO.none _)
      | (with_reducible refine LeO.ite ?_ ?_)
      | (with_reducible refine LeO.bind ?_ (fun _ => ?_))
      | exact ih0 _ _ _ _ _ _ _
      | exact ih1 _ _ _ _ _ _ _
      | exact LeO.none _
      | refine LeO.ite ?_ ?_
      | refine LeO.bind ?_ (fun _ => ?_)
    · intro y0 y1 y2 y3 y4 y5 y6
      unfold grids_reduce.j1
      repeat' first
      | (with_reducible exact ih0 _ _ _ _ _ _ _)
      | (with_reducible exact ih1 _ _ _ _ _ _ _)
      | (with_reducible exact LeO.refl _)
      | (with_reducible exact LeO.none _)
      | (with_reducible refine LeO.ite ?_ ?_)
      | (with_reducible refine LeO.bind ?_ (fun _ => ?_))
      | exact ih0 _ _ _ _ _ _ _
      | exact ih1 _ _ _ _ _ _ _
      | exact LeO.none _
      | refine LeO.ite ?_ ?_
      | refine LeO.bind ?_ (fun _ => ?_)
theorem grids_reduce.mono : ∀ a0 a1 a2 k, LeO (grids_reduce.f k a0 a1 a2) (grids_reduce.f (k + 1) a0 a1 a2) := by
  intro a0 a1 a2 k
  obtain ⟨ih0, ih1⟩ := grids_reduce.mono_l k
  unfold grids_reduce.f
  repeat' first
      | (with_reducible exact ih0 _ _ _ _ _ _ _)
      | (with_reducible exact ih1 _ _ _ _ _ _ _)
      | (with_reducible exact LeO.refl _)
      | (with_reducible exact LeO.none _)
      | (with_reducible refine LeO.ite ?_ ?_)
      | (with_reducible refine LeO.bind ?_ (fun _ => ?_))
      | exact ih0 _ _ _ _ _ _ _
      | exact ih1 _ _ _ _ _ _ _
      | exact LeO.none _
      | refine LeO.ite ?_ ?_
      | refine LeO.bind ?_ (fun _ => ?_)
set_option maxHeartbeats 8000000 in
set_option maxRecDepth 100000 in
theorem grids_reduce.calls (k : Nat) (a0_0 : Int) (a0_1 : Int) (a0_2 : Int) (r1 : Int) (r2 : Int) (r3 : Int) (r4 : Int) (r5 : Int) (r6 : Int) (r7 : Int) (w : World) (h : grids_reduce.f k a0_0 a0_1 a0_2 = some (r1, r2, r3, r4, r5, r6, r7)) :
    Calls Try.prog 38 #[.agg #[.int .i64 a0_0, .int .i64 a0_1, .int .i64 a0_2]] w fun e w' => e = .returned (.tuple #[.agg #[.int .i64 r1, .int .i64 r2, .int .i64 r3], .agg #[.int .i64 r4, .int .i64 r5, .int .i64 r6, .int .i64 r7]]) ∧ Below w.heap.size w w' := by
  have hu23 := Try.underlying23
  have hu25 := Try.underlying25
  have HB := Aside0.mk (Below.refl w.heap.size w)
  have H : (grids_reduce.l0 k a0_0 a0_1 a0_2 1 0 0 1) = some (r1, r2, r3, r4, r5, r6, r7) := h
  clear h
  have H' := Aside0.mk H
  clear H
  go_enter Try.func38, Try.ntmps38
  go_wp2_with (first | ((with_reducible refine gate_dst (N := 1) rfl ?_); refine box_event ?hg (N := 1) ?hd (cs := #[.int .i64 a0_0, .int .i64 a0_1, .int .i64 a0_2]) (t := 23) ?hr ?_; (case hd => rfl); (case hg => rfl); (case hr => first | (go_simp; done) | (go_simp; rfl)); intro gb124 hg w2 hbox hb; have BK124 := Aside0.mk (hbox); have GW124 := Aside0.mk ((by rw [hg]; exact (below_size (bnow HB)) : w.heap.size ≤ gb124)); have GE124 := Aside0.mk ((by rw [hg]; exact (below_size (bnow HB)) : w.heap.size ≤ gb124)); replace HB := bst HB hb; clear hb hbox hg) | ((with_reducible refine gate_dst (N := 2) rfl ?_); refine box_event ?hg (N := 2) ?hd (cs := #[.int .i64 0, .int .i64 0, .int .i64 0]) (t := 23) ?hr ?_; (case hd => rfl); (case hg => rfl); (case hr => first | (go_simp; done) | (go_simp; rfl)); intro gb125 hg w3 hbox hb; have BK125 := Aside0.mk (hbox); have GW125 := Aside0.mk ((by rw [hg]; exact (below_size (bnow HB)) : w.heap.size ≤ gb125)); have GE125 := Aside0.mk ((by rw [hg]; exact (below_size (bnow HB)) : w.heap.size ≤ gb125)); have NB124_125 := Aside0.mk ((by rw [hg]; exact Nat.ne_of_lt (blk_lt (g := gb124) (o := .cells #[.int .i64 a0_0, .int .i64 a0_1, .int .i64 a0_2] 23 (0, 0)) (pk BK124)) : gb124 ≠ gb125)); have NB125_124 := Aside0.mk ((by rw [hg]; exact Nat.ne_of_gt (blk_lt (g := gb124) (o := .cells #[.int .i64 a0_0, .int .i64 a0_1, .int .i64 a0_2] 23 (0, 0)) (pk BK124)) : gb125 ≠ gb124)); replace BK124 := bb BK124 hb; replace HB := bst HB hb; clear hb hbox hg) | ((with_reducible refine gate_dst (N := 3) rfl ?_); refine box_event ?hg (N := 3) ?hd (cs := #[.int .i64 0, .int .i64 0, .int .i64 0, .int .i64 0]) (t := 25) ?hr ?_; (case hd => rfl); (case hg => rfl); (case hr => first | (go_simp; done) | (go_simp; rfl)); intro gb126 hg w4 hbox hb; have BK126 := Aside0.mk (hbox); have GW126 := Aside0.mk ((by rw [hg]; exact (below_size (bnow HB)) : w.heap.size ≤ gb126)); have GE126 := Aside0.mk ((by rw [hg]; exact (below_size (bnow HB)) : w.heap.size ≤ gb126)); have NB124_126 := Aside0.mk ((by rw [hg]; exact Nat.ne_of_lt (blk_lt (g := gb124) (o := .cells #[.int .i64 a0_0, .int .i64 a0_1, .int .i64 a0_2] 23 (0, 0)) (pk BK124)) : gb124 ≠ gb126)); have NB126_124 := Aside0.mk ((by rw [hg]; exact Nat.ne_of_gt (blk_lt (g := gb124) (o := .cells #[.int .i64 a0_0, .int .i64 a0_1, .int .i64 a0_2] 23 (0, 0)) (pk BK124)) : gb126 ≠ gb124)); have NB125_126 := Aside0.mk ((by rw [hg]; exact Nat.ne_of_lt (blk_lt (g := gb125) (o := .cells #[.int .i64 0, .int .i64 0, .int .i64 0] 23 (0, 0)) (pk BK125)) : gb125 ≠ gb126)); have NB126_125 := Aside0.mk ((by rw [hg]; exact Nat.ne_of_gt (blk_lt (g := gb125) (o := .cells #[.int .i64 0, .int .i64 0, .int .i64 0] 23 (0, 0)) (pk BK125)) : gb126 ≠ gb125)); replace BK124 := bb BK124 hb; replace BK125 := bb BK125 hb; replace HB := bst HB hb; clear hb hbox hg) | ((with_reducible refine gate_dst (N := 4) rfl ?_); refine box_event ?hg (N := 4) ?hd (cs := #[.int .i64 0, .int .i64 0, .int .i64 0, .int .i64 0]) (t := 25) ?hr ?_; (case hd => rfl); (case hg => rfl); (case hr => first | (go_simp; done) | (go_simp; rfl)); intro gb127 hg w5 hbox hb; have BK127 := Aside0.mk (hbox); have GW127 := Aside0.mk ((by rw [hg]; exact (below_size (bnow HB)) : w.heap.size ≤ gb127)); have GE127 := Aside0.mk ((by rw [hg]; exact (below_size (bnow HB)) : w.heap.size ≤ gb127)); have NB124_127 := Aside0.mk ((by rw [hg]; exact Nat.ne_of_lt (blk_lt (g := gb124) (o := .cells #[.int .i64 a0_0, .int .i64 a0_1, .int .i64 a0_2] 23 (0, 0)) (pk BK124)) : gb124 ≠ gb127)); have NB127_124 := Aside0.mk ((by rw [hg]; exact Nat.ne_of_gt (blk_lt (g := gb124) (o := .cells #[.int .i64 a0_0, .int .i64 a0_1, .int .i64 a0_2] 23 (0, 0)) (pk BK124)) : gb127 ≠ gb124)); have NB125_127 := Aside0.mk ((by rw [hg]; exact Nat.ne_of_lt (blk_lt (g := gb125) (o := .cells #[.int .i64 0, .int .i64 0, .int .i64 0] 23 (0, 0)) (pk BK125)) : gb125 ≠ gb127)); have NB127_125 := Aside0.mk ((by rw [hg]; exact Nat.ne_of_gt (blk_lt (g := gb125) (o := .cells #[.int .i64 0, .int .i64 0, .int .i64 0] 23 (0, 0)) (pk BK125)) : gb127 ≠ gb125)); have NB126_127 := Aside0.mk ((by rw [hg]; exact Nat.ne_of_lt (blk_lt (g := gb126) (o := .cells #[.int .i64 0, .int .i64 0, .int .i64 0, .int .i64 0] 25 (0, 0)) (pk BK126)) : gb126 ≠ gb127)); have NB127_126 := Aside0.mk ((by rw [hg]; exact Nat.ne_of_gt (blk_lt (g := gb126) (o := .cells #[.int .i64 0, .int .i64 0, .int .i64 0, .int .i64 0] 25 (0, 0)) (pk BK126)) : gb127 ≠ gb126)); replace BK124 := bb BK124 hb; replace BK125 := bb BK125 hb; replace BK126 := bb BK126 hb; replace HB := bst HB hb; clear hb hbox hg; have hnb6 := NB127_124.out; have hnc6 := NB124_127.out; have hnb7 := NB127_125.out; have hnc7 := NB125_127.out; have hnb8 := NB127_126.out; have hnc8 := NB126_127.out; have hcz9_0 : w5.cell? ⟨gb127, 0, none⟩ = some (.int .i64 0) := (blk_cell BK127.out 0).trans rfl; have hcz9_1 : w5.cell? ⟨gb127, 1, none⟩ = some (.int .i64 0) := (blk_cell BK127.out 1).trans rfl; have hcz9_2 : w5.cell? ⟨gb127, 2, none⟩ = some (.int .i64 0) := (blk_cell BK127.out 2).trans rfl; have hcz9_3 : w5.cell? ⟨gb127, 3, none⟩ = some (.int .i64 0) := (blk_cell BK127.out 3).trans rfl; have hfz9_0 := blk_frozen BK127.out 0; have hfz9_1 := blk_frozen BK127.out 1; have hfz9_2 := blk_frozen BK127.out 2; have hfz9_3 := blk_frozen BK127.out 3) | ((with_reducible refine gate_store (t := 25) (p := 4) rfl ?_); refine store_event (t := 25) (p := 4) (v := ?vo_w10) (w1 := ((((w5.setCell ⟨gb127, 0, none⟩ (.int .i64 1)).setCell ⟨gb127, 1, none⟩ (.int .i64 0)).setCell ⟨gb127, 2, none⟩ (.int .i64 0)).setCell ⟨gb127, 3, none⟩ (.int .i64 1))) ?hg ?ho ?hn ?hr ?_; (case ho => rfl); (case hg => rfl); (case hn => rfl); (case hr => first | (go_simp; done) | (go_simp; rfl)); intro w10 hw; have n0_ : Aside0 (w10.heap[gb124]? = some (.cells #[.int .i64 a0_0, .int .i64 a0_1, .int .i64 a0_2] 23 (0, 0))) := ⟨(by rw [hw]; exact (by (with_reducible repeat (first | refine blk_drewN ?_ _ | refine blk_drew ?_ | refine blk_alloc ?_ _)); refine blk_far ?_ NB124_127.out _; (with_reducible repeat (first | refine blk_drewN ?_ _ | refine blk_drew ?_ | refine blk_alloc ?_ _)); refine blk_far ?_ NB124_127.out _; (with_reducible repeat (first | refine blk_drewN ?_ _ | refine blk_drew ?_ | refine blk_alloc ?_ _)); refine blk_far ?_ NB124_127.out _; (with_reducible repeat (first | refine blk_drewN ?_ _ | refine blk_drew ?_ | refine blk_alloc ?_ _)); refine blk_far ?_ NB124_127.out _; (with_reducible repeat (first | refine blk_drewN ?_ _ | refine blk_drew ?_ | refine blk_alloc ?_ _)); exact BK124.out))⟩; have n1_ : Aside0 (w10.heap[gb125]? = some (.cells #[.int .i64 0, .int .i64 0, .int .i64 0] 23 (0, 0))) := ⟨(by rw [hw]; exact (by (with_reducible repeat (first | refine blk_drewN ?_ _ | refine blk_drew ?_ | refine blk_alloc ?_ _)); refine blk_far ?_ NB125_127.out _; (with_reducible repeat (first | refine blk_drewN ?_ _ | refine blk_drew ?_ | refine blk_alloc ?_ _)); refine blk_far ?_ NB125_127.out _; (with_reducible repeat (first | refine blk_drewN ?_ _ | refine blk_drew ?_ | refine blk_alloc ?_ _)); refine blk_far ?_ NB125_127.out _; (with_reducible repeat (first | refine blk_drewN ?_ _ | refine blk_drew ?_ | refine blk_alloc ?_ _)); refine blk_far ?_ NB125_127.out _; (with_reducible repeat (first | refine blk_drewN ?_ _ | refine blk_drew ?_ | refine blk_alloc ?_ _)); exact BK125.out))⟩; have n2_ : Aside0 (w10.heap[gb126]? = some (.cells #[.int .i64 0, .int .i64 0, .int .i64 0, .int .i64 0] 25 (0, 0))) := ⟨(by rw [hw]; exact (by (with_reducible repeat (first | refine blk_drewN ?_ _ | refine blk_drew ?_ | refine blk_alloc ?_ _)); refine blk_far ?_ NB126_127.out _; (with_reducible repeat (first | refine blk_drewN ?_ _ | refine blk_drew ?_ | refine blk_alloc ?_ _)); refine blk_far ?_ NB126_127.out _; (with_reducible repeat (first | refine blk_drewN ?_ _ | refine blk_drew ?_ | refine blk_alloc ?_ _)); refine blk_far ?_ NB126_127.out _; (with_reducible repeat (first | refine blk_drewN ?_ _ | refine blk_drew ?_ | refine blk_alloc ?_ _)); refine blk_far ?_ NB126_127.out _; (with_reducible repeat (first | refine blk_drewN ?_ _ | refine blk_drew ?_ | refine blk_alloc ?_ _)); exact BK126.out))⟩; have n3_ : Aside0 (w10.heap[gb127]? = some (.cells #[.int .i64 1, .int .i64 0, .int .i64 0, .int .i64 1] 25 (0, 0))) := ⟨(by rw [hw]; exact (by (with_reducible repeat (first | refine blk_drewN ?_ _ | refine blk_drew ?_ | refine blk_alloc ?_ _)); refine blk_put (cs := #[.int .i64 1, .int .i64 0, .int .i64 0, .int .i64 0]) ?_ 3 _ rfl; (with_reducible repeat (first | refine blk_drewN ?_ _ | refine blk_drew ?_ | refine blk_alloc ?_ _)); refine blk_put (cs := #[.int .i64 1, .int .i64 0, .int .i64 0, .int .i64 0]) ?_ 2 _ rfl; (with_reducible repeat (first | refine blk_drewN ?_ _ | refine blk_drew ?_ | refine blk_alloc ?_ _)); refine blk_put (cs := #[.int .i64 1, .int .i64 0, .int .i64 0, .int .i64 0]) ?_ 1 _ rfl; (with_reducible repeat (first | refine blk_drewN ?_ _ | refine blk_drew ?_ | refine blk_alloc ?_ _)); refine blk_put (cs := #[.int .i64 0, .int .i64 0, .int .i64 0, .int .i64 0]) ?_ 0 _ rfl; (with_reducible repeat (first | refine blk_drewN ?_ _ | refine blk_drew ?_ | refine blk_alloc ?_ _)); exact BK127.out))⟩; have n4_ : Aside0 (Below w.heap.size w w10) := ⟨(by rw [hw]; exact (bnow HB))⟩; clear hw; clear BK124; clear BK125; clear BK126; clear BK127; clear HB; have BK124 := n0_; have BK125 := n1_; have BK126 := n2_; have BK127 := n3_; have HB := n4_; clear n0_ n1_ n2_ n3_ n4_))
  (try simp only [Act.put, List.setIfInBounds_toArray, List.set_cons_zero, List.set_cons_succ])
  go_loopg [] k (fun kq w' => ∃ (x125000_1 : Int) (x125001_1 : Int) (x125002_1 : Int) (x126000_1 : Int) (x126001_1 : Int) (x126002_1 : Int) (x127000_1 : Int) (x127001_1 : Int) (x127002_1 : Int) (x127003_1 : Int) (x128000_1 : Int) (x128001_1 : Int) (x128002_1 : Int) (x128003_1 : Int), Aside0 (grids_reduce.l0 kq x125000_1 x125001_1 x125002_1 x128000_1 x128001_1 x128002_1 x128003_1 = some (r1, r2, r3, r4, r5, r6, r7)) ∧ Aside0 (kq ≤ k) ∧ Aside0 (w'.heap[gb124]? = some (.cells #[.int .i64 x125000_1, .int .i64 x125001_1, .int .i64 x125002_1] 23 (0, 0))) ∧ Aside0 (w'.heap[gb125]? = some (.cells #[.int .i64 x126000_1, .int .i64 x126001_1, .int .i64 x126002_1] 23 (0, 0))) ∧ Aside0 (w'.heap[gb126]? = some (.cells #[.int .i64 x127000_1, .int .i64 x127001_1, .int .i64 x127002_1, .int .i64 x127003_1] 25 (0, 0))) ∧ Aside0 (w'.heap[gb127]? = some (.cells #[.int .i64 x128000_1, .int .i64 x128001_1, .int .i64 x128002_1, .int .i64 x128003_1] 25 (0, 0))) ∧ Aside0 (Below w.heap.size w w'))
  case atStart => exact ⟨(a0_0), (a0_1), (a0_2), (0), (0), (0), (0), (0), (0), (0), (1), (0), (0), (1), H', ⟨Nat.le_refl _⟩, ⟨pk BK124⟩, ⟨pk BK125⟩, ⟨pk BK126⟩, ⟨pk BK127⟩, ⟨bnow HB⟩⟩
  case round =>
    clear H'
    try clear p2
    try clear c3
    try clear c6
    try clear c7
    try clear c8
    try clear hcz9_0
    try clear hcz9_1
    try clear hcz9_2
    try clear hcz9_3
    try clear hfz9_0
    try clear hfz9_1
    try clear hfz9_2
    try clear hfz9_3
    obtain ⟨x125000_1, x125001_1, x125002_1, x126000_1, x126001_1, x126002_1, x127000_1, x127001_1, x127002_1, x127003_1, x128000_1, x128001_1, x128002_1, x128003_1, HA, HK1, BK124, BK125, BK126, BK127, HB⟩ := hrel
    cases gk with
    | zero => exact absurd HA.out (by simp [grids_reduce.l0])
    | succ k1 =>
      have H := HA.out
      clear HA
      simp only [grids_reduce.l0] at H
      replace H := Option.bind_eq_some_iff.mp H
      obtain ⟨z128, E110, H⟩ := H
      replace H : ((some (wrap64 (z128 + x125000_1))).bind fun z129 => ((some (wrap64 (2 * x125000_1))).bind fun z130 => ((grids_floor.f z129 z130).bind fun t131 => ((some (wrap64 (-t131))).bind fun z132 => ((grids_times.f x128000_1 x128001_1 x128002_1 x128003_1 1 z132 0 1).bind fun bt133 => ((some (wrap64 (t131 * x125000_1))).bind fun z137 => ((some (wrap64 (x125001_1 - z137))).bind fun z138 => ((some (wrap64 (2 * t131))).bind fun z139 => ((some (wrap64 (z139 * x125001_1))).bind fun z140 => ((some (wrap64 (x125002_1 - z140))).bind fun z141 => ((some (wrap64 (t131 * t131))).bind fun z142 => ((some (wrap64 (z142 * x125000_1))).bind fun z143 => ((some (wrap64 (z141 + z143))).bind fun z144 => (if z138 < 0 then ((some (wrap64 (-z138))).bind fun z145 => ((some (wrap64 (-bt133.2.1))).bind fun z146 => ((some (wrap64 (-bt133.2.2.2))).bind fun z147 => (grids_reduce.j1 k1 x125000_1 z145 z144 bt133.1 z146 bt133.2.2.1 z147)))) else (grids_reduce.j1 k1 x125000_1 z138 z144 bt133.1 bt133.2.1 bt133.2.2.1 bt133.2.2.2))))))))))))))) = some (r1, r2, r3, r4, r5, r6, r7) := H
      replace E110 := Option.some.inj E110
      have E11w : (IntKind.i64.wrap (2 * x125001_1)) = z128 := (i64_w _).trans E110
      replace H := Option.bind_eq_some_iff.mp H
      obtain ⟨z129, E120, H⟩ := H
      replace H : ((some (wrap64 (2 * x125000_1))).bind fun z130 => ((grids_floor.f z129 z130).bind fun t131 => ((some (wrap64 (-t131))).bind fun z132 => ((grids_times.f x128000_1 x128001_1 x128002_1 x128003_1 1 z132 0 1).bind fun bt133 => ((some (wrap64 (t131 * x125000_1))).bind fun z137 => ((some (wrap64 (x125001_1 - z137))).bind fun z138 => ((some (wrap64 (2 * t131))).bind fun z139 => ((some (wrap64 (z139 * x125001_1))).bind fun z140 => ((some (wrap64 (x125002_1 - z140))).bind fun z141 => ((some (wrap64 (t131 * t131))).bind fun z142 => ((some (wrap64 (z142 * x125000_1))).bind fun z143 => ((some (wrap64 (z141 + z143))).bind fun z144 => (if z138 < 0 then ((some (wrap64 (-z138))).bind fun z145 => ((some (wrap64 (-bt133.2.1))).bind fun z146 => ((some (wrap64 (-bt133.2.2.2))).bind fun z147 => (grids_reduce.j1 k1 x125000_1 z145 z144 bt133.1 z146 bt133.2.2.1 z147)))) else (grids_reduce.j1 k1 x125000_1 z138 z144 bt133.1 bt133.2.1 bt133.2.2.1 bt133.2.2.2)))))))))))))) = some (r1, r2, r3, r4, r5, r6, r7) := H
      replace E120 := Option.some.inj E120
      have E12w : (IntKind.i64.wrap (z128 + x125000_1)) = z129 := (i64_w _).trans E120
      replace H := Option.bind_eq_some_iff.mp H
      obtain ⟨z130, E130, H⟩ := H
      replace H : ((grids_floor.f z129 z130).bind fun t131 => ((some (wrap64 (-t131))).bind fun z132 => ((grids_times.f x128000_1 x128001_1 x128002_1 x128003_1 1 z132 0 1).bind fun bt133 => ((some (wrap64 (t131 * x125000_1))).bind fun z137 => ((some (wrap64 (x125001_1 - z137))).bind fun z138 => ((some (wrap64 (2 * t131))).bind fun z139 => ((some (wrap64 (z139 * x125001_1))).bind fun z140 => ((some (wrap64 (x125002_1 - z140))).bind fun z141 => ((some (wrap64 (t131 * t131))).bind fun z142 => ((some (wrap64 (z142 * x125000_1))).bind fun z143 => ((some (wrap64 (z141 + z143))).bind fun z144 => (if z138 < 0 then ((some (wrap64 (-z138))).bind fun z145 => ((some (wrap64 (-bt133.2.1))).bind fun z146 => ((some (wrap64 (-bt133.2.2.2))).bind fun z147 => (grids_reduce.j1 k1 x125000_1 z145 z144 bt133.1 z146 bt133.2.2.1 z147)))) else (grids_reduce.j1 k1 x125000_1 z138 z144 bt133.1 bt133.2.1 bt133.2.2.1 bt133.2.2.2))))))))))))) = some (r1, r2, r3, r4, r5, r6, r7) := H
      replace E130 := Option.some.inj E130
      have E13w : (IntKind.i64.wrap (2 * x125000_1)) = z130 := (i64_w _).trans E130
      replace H := Option.bind_eq_some_iff.mp H
      obtain ⟨t131, A140, H⟩ := H
      replace H : ((some (wrap64 (-t131))).bind fun z132 => ((grids_times.f x128000_1 x128001_1 x128002_1 x128003_1 1 z132 0 1).bind fun bt133 => ((some (wrap64 (t131 * x125000_1))).bind fun z137 => ((some (wrap64 (x125001_1 - z137))).bind fun z138 => ((some (wrap64 (2 * t131))).bind fun z139 => ((some (wrap64 (z139 * x125001_1))).bind fun z140 => ((some (wrap64 (x125002_1 - z140))).bind fun z141 => ((some (wrap64 (t131 * t131))).bind fun z142 => ((some (wrap64 (z142 * x125000_1))).bind fun z143 => ((some (wrap64 (z141 + z143))).bind fun z144 => (if z138 < 0 then ((some (wrap64 (-z138))).bind fun z145 => ((some (wrap64 (-bt133.2.1))).bind fun z146 => ((some (wrap64 (-bt133.2.2.2))).bind fun z147 => (grids_reduce.j1 k1 x125000_1 z145 z144 bt133.1 z146 bt133.2.2.1 z147)))) else (grids_reduce.j1 k1 x125000_1 z138 z144 bt133.1 bt133.2.1 bt133.2.2.1 bt133.2.2.2)))))))))))) = some (r1, r2, r3, r4, r5, r6, r7) := H
      have A14 := Aside0.mk A140
      clear A140
      replace H := Option.bind_eq_some_iff.mp H
      obtain ⟨z132, E150, H⟩ := H
      replace H : ((grids_times.f x128000_1 x128001_1 x128002_1 x128003_1 1 z132 0 1).bind fun bt133 => ((some (wrap64 (t131 * x125000_1))).bind fun z137 => ((some (wrap64 (x125001_1 - z137))).bind fun z138 => ((some (wrap64 (2 * t131))).bind fun z139 => ((some (wrap64 (z139 * x125001_1))).bind fun z140 => ((some (wrap64 (x125002_1 - z140))).bind fun z141 => ((some (wrap64 (t131 * t131))).bind fun z142 => ((some (wrap64 (z142 * x125000_1))).bind fun z143 => ((some (wrap64 (z141 + z143))).bind fun z144 => (if z138 < 0 then ((some (wrap64 (-z138))).bind fun z145 => ((some (wrap64 (-bt133.2.1))).bind fun z146 => ((some (wrap64 (-bt133.2.2.2))).bind fun z147 => (grids_reduce.j1 k1 x125000_1 z145 z144 bt133.1 z146 bt133.2.2.1 z147)))) else (grids_reduce.j1 k1 x125000_1 z138 z144 bt133.1 bt133.2.1 bt133.2.2.1 bt133.2.2.2))))))))))) = some (r1, r2, r3, r4, r5, r6, r7) := H
      replace E150 := Option.some.inj E150
      have E15w : (IntKind.i64.wrap (-t131)) = z132 := (i64_w _).trans E150
      replace H := Option.bind_eq_some_iff.mp H
      obtain ⟨⟨t133, t134, t135, t136⟩, A160, H⟩ := H
      replace H : ((some (wrap64 (t131 * x125000_1))).bind fun z137 => ((some (wrap64 (x125001_1 - z137))).bind fun z138 => ((some (wrap64 (2 * t131))).bind fun z139 => ((some (wrap64 (z139 * x125001_1))).bind fun z140 => ((some (wrap64 (x125002_1 - z140))).bind fun z141 => ((some (wrap64 (t131 * t131))).bind fun z142 => ((some (wrap64 (z142 * x125000_1))).bind fun z143 => ((some (wrap64 (z141 + z143))).bind fun z144 => (if z138 < 0 then ((some (wrap64 (-z138))).bind fun z145 => ((some (wrap64 (-t134))).bind fun z146 => ((some (wrap64 (-t136))).bind fun z147 => (grids_reduce.j1 k1 x125000_1 z145 z144 t133 z146 t135 z147)))) else (grids_reduce.j1 k1 x125000_1 z138 z144 t133 t134 t135 t136)))))))))) = some (r1, r2, r3, r4, r5, r6, r7) := H
      have A16 := Aside0.mk A160
      clear A160
      replace H := Option.bind_eq_some_iff.mp H
      obtain ⟨z137, E170, H⟩ := H
      replace H : ((some (wrap64 (x125001_1 - z137))).bind fun z138 => ((some (wrap64 (2 * t131))).bind fun z139 => ((some (wrap64 (z139 * x125001_1))).bind fun z140 => ((some (wrap64 (x125002_1 - z140))).bind fun z141 => ((some (wrap64 (t131 * t131))).bind fun z142 => ((some (wrap64 (z142 * x125000_1))).bind fun z143 => ((some (wrap64 (z141 + z143))).bind fun z144 => (if z138 < 0 then ((some (wrap64 (-z138))).bind fun z145 => ((some (wrap64 (-t134))).bind fun z146 => ((some (wrap64 (-t136))).bind fun z147 => (grids_reduce.j1 k1 x125000_1 z145 z144 t133 z146 t135 z147)))) else (grids_reduce.j1 k1 x125000_1 z138 z144 t133 t134 t135 t136))))))))) = some (r1, r2, r3, r4, r5, r6, r7) := H
      replace E170 := Option.some.inj E170
      have E17w : (IntKind.i64.wrap (t131 * x125000_1)) = z137 := (i64_w _).trans E170
      replace H := Option.bind_eq_some_iff.mp H
      obtain ⟨z138, E180, H⟩ := H
      replace H : ((some (wrap64 (2 * t131))).bind fun z139 => ((some (wrap64 (z139 * x125001_1))).bind fun z140 => ((some (wrap64 (x125002_1 - z140))).bind fun z141 => ((some (wrap64 (t131 * t131))).bind fun z142 => ((some (wrap64 (z142 * x125000_1))).bind fun z143 => ((some (wrap64 (z141 + z143))).bind fun z144 => (if z138 < 0 then ((some (wrap64 (-z138))).bind fun z145 => ((some (wrap64 (-t134))).bind fun z146 => ((some (wrap64 (-t136))).bind fun z147 => (grids_reduce.j1 k1 x125000_1 z145 z144 t133 z146 t135 z147)))) else (grids_reduce.j1 k1 x125000_1 z138 z144 t133 t134 t135 t136)))))))) = some (r1, r2, r3, r4, r5, r6, r7) := H
      replace E180 := Option.some.inj E180
      have E18w : (IntKind.i64.wrap (x125001_1 - z137)) = z138 := (i64_w _).trans E180
      replace H := Option.bind_eq_some_iff.mp H
      obtain ⟨z139, E190, H⟩ := H
      replace H : ((some (wrap64 (z139 * x125001_1))).bind fun z140 => ((some (wrap64 (x125002_1 - z140))).bind fun z141 => ((some (wrap64 (t131 * t131))).bind fun z142 => ((some (wrap64 (z142 * x125000_1))).bind fun z143 => ((some (wrap64 (z141 + z143))).bind fun z144 => (if z138 < 0 then ((some (wrap64 (-z138))).bind fun z145 => ((some (wrap64 (-t134))).bind fun z146 => ((some (wrap64 (-t136))).bind fun z147 => (grids_reduce.j1 k1 x125000_1 z145 z144 t133 z146 t135 z147)))) else (grids_reduce.j1 k1 x125000_1 z138 z144 t133 t134 t135 t136))))))) = some (r1, r2, r3, r4, r5, r6, r7) := H
      replace E190 := Option.some.inj E190
      have E19w : (IntKind.i64.wrap (2 * t131)) = z139 := (i64_w _).trans E190
      replace H := Option.bind_eq_some_iff.mp H
      obtain ⟨z140, E200, H⟩ := H
      replace H : ((some (wrap64 (x125002_1 - z140))).bind fun z141 => ((some (wrap64 (t131 * t131))).bind fun z142 => ((some (wrap64 (z142 * x125000_1))).bind fun z143 => ((some (wrap64 (z141 + z143))).bind fun z144 => (if z138 < 0 then ((some (wrap64 (-z138))).bind fun z145 => ((some (wrap64 (-t134))).bind fun z146 => ((some (wrap64 (-t136))).bind fun z147 => (grids_reduce.j1 k1 x125000_1 z145 z144 t133 z146 t135 z147)))) else (grids_reduce.j1 k1 x125000_1 z138 z144 t133 t134 t135 t136)))))) = some (r1, r2, r3, r4, r5, r6, r7) := H
      replace E200 := Option.some.inj E200
      have E20w : (IntKind.i64.wrap (z139 * x125001_1)) = z140 := (i64_w _).trans E200
      replace H := Option.bind_eq_some_iff.mp H
      obtain ⟨z141, E210, H⟩ := H
      replace H : ((some (wrap64 (t131 * t131))).bind fun z142 => ((some (wrap64 (z142 * x125000_1))).bind fun z143 => ((some (wrap64 (z141 + z143))).bind fun z144 => (if z138 < 0 then ((some (wrap64 (-z138))).bind fun z145 => ((some (wrap64 (-t134))).bind fun z146 => ((some (wrap64 (-t136))).bind fun z147 => (grids_reduce.j1 k1 x125000_1 z145 z144 t133 z146 t135 z147)))) else (grids_reduce.j1 k1 x125000_1 z138 z144 t133 t134 t135 t136))))) = some (r1, r2, r3, r4, r5, r6, r7) := H
      replace E210 := Option.some.inj E210
      have E21w : (IntKind.i64.wrap (x125002_1 - z140)) = z141 := (i64_w _).trans E210
      replace H := Option.bind_eq_some_iff.mp H
      obtain ⟨z142, E220, H⟩ := H
      replace H : ((some (wrap64 (z142 * x125000_1))).bind fun z143 => ((some (wrap64 (z141 + z143))).bind fun z144 => (if z138 < 0 then ((some (wrap64 (-z138))).bind fun z145 => ((some (wrap64 (-t134))).bind fun z146 => ((some (wrap64 (-t136))).bind fun z147 => (grids_reduce.j1 k1 x125000_1 z145 z144 t133 z146 t135 z147)))) else (grids_reduce.j1 k1 x125000_1 z138 z144 t133 t134 t135 t136)))) = some (r1, r2, r3, r4, r5, r6, r7) := H
      replace E220 := Option.some.inj E220
      have E22w : (IntKind.i64.wrap (t131 * t131)) = z142 := (i64_w _).trans E220
      replace H := Option.bind_eq_some_iff.mp H
      obtain ⟨z143, E230, H⟩ := H
      replace H : ((some (wrap64 (z141 + z143))).bind fun z144 => (if z138 < 0 then ((some (wrap64 (-z138))).bind fun z145 => ((some (wrap64 (-t134))).bind fun z146 => ((some (wrap64 (-t136))).bind fun z147 => (grids_reduce.j1 k1 x125000_1 z145 z144 t133 z146 t135 z147)))) else (grids_reduce.j1 k1 x125000_1 z138 z144 t133 t134 t135 t136))) = some (r1, r2, r3, r4, r5, r6, r7) := H
      replace E230 := Option.some.inj E230
      have E23w : (IntKind.i64.wrap (z142 * x125000_1)) = z143 := (i64_w _).trans E230
      replace H := Option.bind_eq_some_iff.mp H
      obtain ⟨z144, E240, H⟩ := H
      replace H : (if z138 < 0 then ((some (wrap64 (-z138))).bind fun z145 => ((some (wrap64 (-t134))).bind fun z146 => ((some (wrap64 (-t136))).bind fun z147 => (grids_reduce.j1 k1 x125000_1 z145 z144 t133 z146 t135 z147)))) else (grids_reduce.j1 k1 x125000_1 z138 z144 t133 t134 t135 t136)) = some (r1, r2, r3, r4, r5, r6, r7) := H
      replace E240 := Option.some.inj E240
      have E24w : (IntKind.i64.wrap (z141 + z143)) = z144 := (i64_w _).trans E240
      have HC25 := Aside0.mk H
      clear H
      have hnb26 := NB124_125.out
      have hnc26 := NB125_124.out
      have hnb27 := NB124_126.out
      have hnc27 := NB126_124.out
      have hnb28 := NB124_127.out
      have hnc28 := NB127_124.out
      have hcz29_0 : wr.cell? ⟨gb124, 0, none⟩ = some (.int .i64 x125000_1) := (blk_cell BK124.out 0).trans rfl
      have hcz29_1 : wr.cell? ⟨gb124, 1, none⟩ = some (.int .i64 x125001_1) := (blk_cell BK124.out 1).trans rfl
      have hcz29_2 : wr.cell? ⟨gb124, 2, none⟩ = some (.int .i64 x125002_1) := (blk_cell BK124.out 2).trans rfl
      have hfz29_0 := blk_frozen BK124.out 0
      have hfz29_1 := blk_frozen BK124.out 1
      have hfz29_2 := blk_frozen BK124.out 2
      go_upto_if 49 with (first | ((with_reducible refine gate_callee (f := 71) rfl ?_); refine goesL_ (some 16) rfl rfl Try.func71 (by kernel_rfl) rfl #[.int .i64 z129, .int .i64 z130] rfl am ?_; (with_reducible refine (grids_floor.calls z129 z130 t131 _ A14.out).mono ?_); rintro e w' ⟨rfl, ⟨nd, rfl⟩⟩; refine ⟨_, rfl, ?_⟩; (try (rw [drewN_self wr]; generalize hq_ : World.drewN wr _ = wr; have n0_ : Aside0 (wr.heap[gb124]? = some (.cells #[.int .i64 x125000_1, .int .i64 x125001_1, .int .i64 x125002_1] 23 (0, 0))) := ⟨by rw [← hq_]; exact (pk BK124)⟩; have n1_ : Aside0 (wr.heap[gb125]? = some (.cells #[.int .i64 x126000_1, .int .i64 x126001_1, .int .i64 x126002_1] 23 (0, 0))) := ⟨by rw [← hq_]; exact (pk BK125)⟩; have n2_ : Aside0 (wr.heap[gb126]? = some (.cells #[.int .i64 x127000_1, .int .i64 x127001_1, .int .i64 x127002_1, .int .i64 x127003_1] 25 (0, 0))) := ⟨by rw [← hq_]; exact (pk BK126)⟩; have n3_ : Aside0 (wr.heap[gb127]? = some (.cells #[.int .i64 x128000_1, .int .i64 x128001_1, .int .i64 x128002_1, .int .i64 x128003_1] 25 (0, 0))) := ⟨by rw [← hq_]; exact (pk BK127)⟩; have n4_ : Aside0 (Below w.heap.size w wr) := ⟨by rw [← hq_]; exact (bnow HB)⟩; clear BK124 BK125 BK126 BK127 HB hq_; have BK124 := n0_; have BK125 := n1_; have BK126 := n2_; have BK127 := n3_; have HB := n4_; clear n0_ n1_ n2_ n3_ n4_)); have hnb30 := NB127_125.out; have hnc30 := NB125_127.out; have hnb31 := NB127_126.out; have hnc31 := NB126_127.out; have hcz32_0 : wr.cell? ⟨gb127, 0, none⟩ = some (.int .i64 x128000_1) := (blk_cell BK127.out 0).trans rfl; have hcz32_1 : wr.cell? ⟨gb127, 1, none⟩ = some (.int .i64 x128001_1) := (blk_cell BK127.out 1).trans rfl; have hcz32_2 : wr.cell? ⟨gb127, 2, none⟩ = some (.int .i64 x128002_1) := (blk_cell BK127.out 2).trans rfl; have hcz32_3 : wr.cell? ⟨gb127, 3, none⟩ = some (.int .i64 x128003_1) := (blk_cell BK127.out 3).trans rfl; have hfz32_0 := blk_frozen BK127.out 0; have hfz32_1 := blk_frozen BK127.out 1; have hfz32_2 := blk_frozen BK127.out 2; have hfz32_3 := blk_frozen BK127.out 3) | ((with_reducible refine gate_callee (f := 40) rfl ?_); refine goesL_ (some 21) rfl rfl Try.func40 (by kernel_rfl) rfl #[.agg #[.int .i64 x128000_1, .int .i64 x128001_1, .int .i64 x128002_1, .int .i64 x128003_1], .agg #[.int .i64 1, .int .i64 z132, .int .i64 0, .int .i64 1]] rfl am ?_; (with_reducible refine (grids_times.calls x128000_1 x128001_1 x128002_1 x128003_1 1 z132 0 1 t133 t134 t135 t136 _ A16.out).mono ?_); rintro e w33 ⟨rfl, hb⟩; refine ⟨_, rfl, ?_⟩; replace BK124 := bb BK124 hb; replace BK125 := bb BK125 hb; replace BK126 := bb BK126 hb; replace BK127 := bb BK127 hb; replace HB := bst HB hb; clear hb; have hcz34_0 : w33.cell? ⟨gb127, 0, none⟩ = some (.int .i64 x128000_1) := (blk_cell BK127.out 0).trans rfl; have hcz34_1 : w33.cell? ⟨gb127, 1, none⟩ = some (.int .i64 x128001_1) := (blk_cell BK127.out 1).trans rfl; have hcz34_2 : w33.cell? ⟨gb127, 2, none⟩ = some (.int .i64 x128002_1) := (blk_cell BK127.out 2).trans rfl; have hcz34_3 : w33.cell? ⟨gb127, 3, none⟩ = some (.int .i64 x128003_1) := (blk_cell BK127.out 3).trans rfl; have hfz34_0 := blk_frozen BK127.out 0; have hfz34_1 := blk_frozen BK127.out 1; have hfz34_2 := blk_frozen BK127.out 2; have hfz34_3 := blk_frozen BK127.out 3) | ((with_reducible refine gate_store (t := 25) (p := 4) rfl ?_); refine store_event (t := 25) (p := 4) (v := ?vo_w35) (w1 := ((((w33.setCell ⟨gb127, 0, none⟩ (.int .i64 t133)).setCell ⟨gb127, 1, none⟩ (.int .i64 t134)).setCell ⟨gb127, 2, none⟩ (.int .i64 t135)).setCell ⟨gb127, 3, none⟩ (.int .i64 t136))) ?hg ?ho ?hn ?hr ?_; (case ho => rfl); (case hg => rfl); (case hn => rfl); (case hr => first | (go_simp; done) | (go_simp; rfl)); intro w35 hw; have n0_ : Aside0 (w35.heap[gb124]? = some (.cells #[.int .i64 x125000_1, .int .i64 x125001_1, .int .i64 x125002_1] 23 (0, 0))) := ⟨(by rw [hw]; exact (by (with_reducible repeat (first | refine blk_drewN ?_ _ | refine blk_drew ?_ | refine blk_alloc ?_ _)); refine blk_far ?_ NB124_127.out _; (with_reducible repeat (first | refine blk_drewN ?_ _ | refine blk_drew ?_ | refine blk_alloc ?_ _)); refine blk_far ?_ NB124_127.out _; (with_reducible repeat (first | refine blk_drewN ?_ _ | refine blk_drew ?_ | refine blk_alloc ?_ _)); refine blk_far ?_ NB124_127.out _; (with_reducible repeat (first | refine blk_drewN ?_ _ | refine blk_drew ?_ | refine blk_alloc ?_ _)); refine blk_far ?_ NB124_127.out _; (with_reducible repeat (first | refine blk_drewN ?_ _ | refine blk_drew ?_ | refine blk_alloc ?_ _)); exact BK124.out))⟩; have n1_ : Aside0 (w35.heap[gb125]? = some (.cells #[.int .i64 x126000_1, .int .i64 x126001_1, .int .i64 x126002_1] 23 (0, 0))) := ⟨(by rw [hw]; exact (by (with_reducible repeat (first | refine blk_drewN ?_ _ | refine blk_drew ?_ | refine blk_alloc ?_ _)); refine blk_far ?_ NB125_127.out _; (with_reducible repeat (first | refine blk_drewN ?_ _ | refine blk_drew ?_ | refine blk_alloc ?_ _)); refine blk_far ?_ NB125_127.out _; (with_reducible repeat (first | refine blk_drewN ?_ _ | refine blk_drew ?_ | refine blk_alloc ?_ _)); refine blk_far ?_ NB125_127.out _; (with_reducible repeat (first | refine blk_drewN ?_ _ | refine blk_drew ?_ | refine blk_alloc ?_ _)); refine blk_far ?_ NB125_127.out _; (with_reducible repeat (first | refine blk_drewN ?_ _ | refine blk_drew ?_ | refine blk_alloc ?_ _)); exact BK125.out))⟩; have n2_ : Aside0 (w35.heap[gb126]? = some (.cells #[.int .i64 x127000_1, .int .i64 x127001_1, .int .i64 x127002_1, .int .i64 x127003_1] 25 (0, 0))) := ⟨(by rw [hw]; exact (by (with_reducible repeat (first | refine blk_drewN ?_ _ | refine blk_drew ?_ | refine blk_alloc ?_ _)); refine blk_far ?_ NB126_127.out _; (with_reducible repeat (first | refine blk_drewN ?_ _ | refine blk_drew ?_ | refine blk_alloc ?_ _)); refine blk_far ?_ NB126_127.out _; (with_reducible repeat (first | refine blk_drewN ?_ _ | refine blk_drew ?_ | refine blk_alloc ?_ _)); refine blk_far ?_ NB126_127.out _; (with_reducible repeat (first | refine blk_drewN ?_ _ | refine blk_drew ?_ | refine blk_alloc ?_ _)); refine blk_far ?_ NB126_127.out _; (with_reducible repeat (first | refine blk_drewN ?_ _ | refine blk_drew ?_ | refine blk_alloc ?_ _)); exact BK126.out))⟩; have n3_ : Aside0 (w35.heap[gb127]? = some (.cells #[.int .i64 t133, .int .i64 t134, .int .i64 t135, .int .i64 t136] 25 (0, 0))) := ⟨(by rw [hw]; exact (by (with_reducible repeat (first | refine blk_drewN ?_ _ | refine blk_drew ?_ | refine blk_alloc ?_ _)); refine blk_put (cs := #[.int .i64 t133, .int .i64 t134, .int .i64 t135, .int .i64 x128003_1]) ?_ 3 _ rfl; (with_reducible repeat (first | refine blk_drewN ?_ _ | refine blk_drew ?_ | refine blk_alloc ?_ _)); refine blk_put (cs := #[.int .i64 t133, .int .i64 t134, .int .i64 x128002_1, .int .i64 x128003_1]) ?_ 2 _ rfl; (with_reducible repeat (first | refine blk_drewN ?_ _ | refine blk_drew ?_ | refine blk_alloc ?_ _)); refine blk_put (cs := #[.int .i64 t133, .int .i64 x128001_1, .int .i64 x128002_1, .int .i64 x128003_1]) ?_ 1 _ rfl; (with_reducible repeat (first | refine blk_drewN ?_ _ | refine blk_drew ?_ | refine blk_alloc ?_ _)); refine blk_put (cs := #[.int .i64 x128000_1, .int .i64 x128001_1, .int .i64 x128002_1, .int .i64 x128003_1]) ?_ 0 _ rfl; (with_reducible repeat (first | refine blk_drewN ?_ _ | refine blk_drew ?_ | refine blk_alloc ?_ _)); exact BK127.out))⟩; have n4_ : Aside0 (Below w.heap.size w w35) := ⟨(by rw [hw]; exact (bnow HB))⟩; clear hw; clear BK124; clear BK125; clear BK126; clear BK127; clear HB; have BK124 := n0_; have BK125 := n1_; have BK126 := n2_; have BK127 := n3_; have HB := n4_; clear n0_ n1_ n2_ n3_ n4_; have hcz36_0 : w35.cell? ⟨gb124, 0, none⟩ = some (.int .i64 x125000_1) := (blk_cell BK124.out 0).trans rfl; have hcz36_1 : w35.cell? ⟨gb124, 1, none⟩ = some (.int .i64 x125001_1) := (blk_cell BK124.out 1).trans rfl; have hcz36_2 : w35.cell? ⟨gb124, 2, none⟩ = some (.int .i64 x125002_1) := (blk_cell BK124.out 2).trans rfl; have hfz36_0 := blk_frozen BK124.out 0; have hfz36_1 := blk_frozen BK124.out 1; have hfz36_2 := blk_frozen BK124.out 2) | ((with_reducible refine gate_store (t := 23) (p := 1) rfl ?_); refine store_event (t := 23) (p := 1) (v := ?vo_w37) (w1 := (((w35.setCell ⟨gb124, 0, none⟩ (.int .i64 x125000_1)).setCell ⟨gb124, 1, none⟩ (.int .i64 z138)).setCell ⟨gb124, 2, none⟩ (.int .i64 z144))) ?hg ?ho ?hn ?hr ?_; (case ho => rfl); (case hg => rfl); (case hn => rfl); (case hr => first | (go_simp; done) | (go_simp; rfl)); intro w37 hw; have n0_ : Aside0 (w37.heap[gb124]? = some (.cells #[.int .i64 x125000_1, .int .i64 z138, .int .i64 z144] 23 (0, 0))) := ⟨(by rw [hw]; exact (by (with_reducible repeat (first | refine blk_drewN ?_ _ | refine blk_drew ?_ | refine blk_alloc ?_ _)); refine blk_put (cs := #[.int .i64 x125000_1, .int .i64 z138, .int .i64 x125002_1]) ?_ 2 _ rfl; (with_reducible repeat (first | refine blk_drewN ?_ _ | refine blk_drew ?_ | refine blk_alloc ?_ _)); refine blk_put (cs := #[.int .i64 x125000_1, .int .i64 x125001_1, .int .i64 x125002_1]) ?_ 1 _ rfl; (with_reducible repeat (first | refine blk_drewN ?_ _ | refine blk_drew ?_ | refine blk_alloc ?_ _)); refine blk_put (cs := #[.int .i64 x125000_1, .int .i64 x125001_1, .int .i64 x125002_1]) ?_ 0 _ rfl; (with_reducible repeat (first | refine blk_drewN ?_ _ | refine blk_drew ?_ | refine blk_alloc ?_ _)); exact BK124.out))⟩; have n1_ : Aside0 (w37.heap[gb125]? = some (.cells #[.int .i64 x126000_1, .int .i64 x126001_1, .int .i64 x126002_1] 23 (0, 0))) := ⟨(by rw [hw]; exact (by (with_reducible repeat (first | refine blk_drewN ?_ _ | refine blk_drew ?_ | refine blk_alloc ?_ _)); refine blk_far ?_ NB125_124.out _; (with_reducible repeat (first | refine blk_drewN ?_ _ | refine blk_drew ?_ | refine blk_alloc ?_ _)); refine blk_far ?_ NB125_124.out _; (with_reducible repeat (first | refine blk_drewN ?_ _ | refine blk_drew ?_ | refine blk_alloc ?_ _)); refine blk_far ?_ NB125_124.out _; (with_reducible repeat (first | refine blk_drewN ?_ _ | refine blk_drew ?_ | refine blk_alloc ?_ _)); exact BK125.out))⟩; have n2_ : Aside0 (w37.heap[gb126]? = some (.cells #[.int .i64 x127000_1, .int .i64 x127001_1, .int .i64 x127002_1, .int .i64 x127003_1] 25 (0, 0))) := ⟨(by rw [hw]; exact (by (with_reducible repeat (first | refine blk_drewN ?_ _ | refine blk_drew ?_ | refine blk_alloc ?_ _)); refine blk_far ?_ NB126_124.out _; (with_reducible repeat (first | refine blk_drewN ?_ _ | refine blk_drew ?_ | refine blk_alloc ?_ _)); refine blk_far ?_ NB126_124.out _; (with_reducible repeat (first | refine blk_drewN ?_ _ | refine blk_drew ?_ | refine blk_alloc ?_ _)); refine blk_far ?_ NB126_124.out _; (with_reducible repeat (first | refine blk_drewN ?_ _ | refine blk_drew ?_ | refine blk_alloc ?_ _)); exact BK126.out))⟩; have n3_ : Aside0 (w37.heap[gb127]? = some (.cells #[.int .i64 t133, .int .i64 t134, .int .i64 t135, .int .i64 t136] 25 (0, 0))) := ⟨(by rw [hw]; exact (by (with_reducible repeat (first | refine blk_drewN ?_ _ | refine blk_drew ?_ | refine blk_alloc ?_ _)); refine blk_far ?_ NB127_124.out _; (with_reducible repeat (first | refine blk_drewN ?_ _ | refine blk_drew ?_ | refine blk_alloc ?_ _)); refine blk_far ?_ NB127_124.out _; (with_reducible repeat (first | refine blk_drewN ?_ _ | refine blk_drew ?_ | refine blk_alloc ?_ _)); refine blk_far ?_ NB127_124.out _; (with_reducible repeat (first | refine blk_drewN ?_ _ | refine blk_drew ?_ | refine blk_alloc ?_ _)); exact BK127.out))⟩; have n4_ : Aside0 (Below w.heap.size w w37) := ⟨(by rw [hw]; exact (bnow HB))⟩; clear hw; clear BK124; clear BK125; clear BK126; clear BK127; clear HB; have BK124 := n0_; have BK125 := n1_; have BK126 := n2_; have BK127 := n3_; have HB := n4_; clear n0_ n1_ n2_ n3_ n4_; have hcz38_0 : w37.cell? ⟨gb124, 0, none⟩ = some (.int .i64 x125000_1) := (blk_cell BK124.out 0).trans rfl; have hcz38_1 : w37.cell? ⟨gb124, 1, none⟩ = some (.int .i64 z138) := (blk_cell BK124.out 1).trans rfl; have hcz38_2 : w37.cell? ⟨gb124, 2, none⟩ = some (.int .i64 z144) := (blk_cell BK124.out 2).trans rfl; have hfz38_0 := blk_frozen BK124.out 0; have hfz38_1 := blk_frozen BK124.out 1; have hfz38_2 := blk_frozen BK124.out 2))
      (try simp only [Act.put, List.setIfInBounds_toArray, List.set_cons_zero, List.set_cons_succ])
      go_cut [] (fun wc => ∃ (kq : Nat) (x125001_24 : Int) (x128001_24 : Int) (x128003_24 : Int), Aside0 (grids_reduce.j1 kq x125000_1 x125001_24 z144 t133 x128001_24 t135 x128003_24 = some (r1, r2, r3, r4, r5, r6, r7)) ∧ Aside0 (kq ≤ k1) ∧ Aside0 (wc.heap[gb124]? = some (.cells #[.int .i64 x125000_1, .int .i64 x125001_24, .int .i64 z144] 23 (0, 0))) ∧ Aside0 (wc.heap[gb125]? = some (.cells #[.int .i64 x126000_1, .int .i64 x126001_1, .int .i64 x126002_1] 23 (0, 0))) ∧ Aside0 (wc.heap[gb126]? = some (.cells #[.int .i64 x127000_1, .int .i64 x127001_1, .int .i64 x127002_1, .int .i64 x127003_1] 25 (0, 0))) ∧ Aside0 (wc.heap[gb127]? = some (.cells #[.int .i64 t133, .int .i64 x128001_24, .int .i64 t135, .int .i64 x128003_24] 25 (0, 0))) ∧ Aside0 (Below w.heap.size w wc))
      case first =>
        have H := HC25.out
        clear HC25
        by_cases c39 : z138 < 0
        · rw [if_pos c39] at H
          have c39b0 : decide (z138 < 0) = true := decide_eq_true c39
          clear c39
          (first | rw [c39b0] | (simp only [i64_w, i32_w]; rw [c39b0]) | skip)
          replace H := Option.bind_eq_some_iff.mp H
          obtain ⟨z145, E400, H⟩ := H
          replace H : ((some (wrap64 (-t134))).bind fun z146 => ((some (wrap64 (-t136))).bind fun z147 => (grids_reduce.j1 k1 x125000_1 z145 z144 t133 z146 t135 z147))) = some (r1, r2, r3, r4, r5, r6, r7) := H
          replace E400 := Option.some.inj E400
          have E40w : (IntKind.i64.wrap (-z138)) = z145 := (i64_w _).trans E400
          replace H := Option.bind_eq_some_iff.mp H
          obtain ⟨z146, E410, H⟩ := H
          replace H : ((some (wrap64 (-t136))).bind fun z147 => (grids_reduce.j1 k1 x125000_1 z145 z144 t133 z146 t135 z147)) = some (r1, r2, r3, r4, r5, r6, r7) := H
          replace E410 := Option.some.inj E410
          have E41w : (IntKind.i64.wrap (-t134)) = z146 := (i64_w _).trans E410
          replace H := Option.bind_eq_some_iff.mp H
          obtain ⟨z147, E420, H⟩ := H
          replace H : (grids_reduce.j1 k1 x125000_1 z145 z144 t133 z146 t135 z147) = some (r1, r2, r3, r4, r5, r6, r7) := H
          replace E420 := Option.some.inj E420
          have E42w : (IntKind.i64.wrap (-t136)) = z147 := (i64_w _).trans E420
          have H' := Aside0.mk H
          clear H
          have hnb43 := NB124_125.out
          have hnc43 := NB125_124.out
          have hnb44 := NB124_126.out
          have hnc44 := NB126_124.out
          have hnb45 := NB124_127.out
          have hnc45 := NB127_124.out
          have hcz46_0 : w37.cell? ⟨gb124, 0, none⟩ = some (.int .i64 x125000_1) := (blk_cell BK124.out 0).trans rfl
          have hcz46_1 : w37.cell? ⟨gb124, 1, none⟩ = some (.int .i64 z138) := (blk_cell BK124.out 1).trans rfl
          have hcz46_2 : w37.cell? ⟨gb124, 2, none⟩ = some (.int .i64 z144) := (blk_cell BK124.out 2).trans rfl
          have hfz46_0 := blk_frozen BK124.out 0
          have hfz46_1 := blk_frozen BK124.out 1
          have hfz46_2 := blk_frozen BK124.out 2
          have hnb47 := NB127_125.out
          have hnc47 := NB125_127.out
          have hnb48 := NB127_126.out
          have hnc48 := NB126_127.out
          have hcz49_0 : w37.cell? ⟨gb127, 0, none⟩ = some (.int .i64 t133) := (blk_cell BK127.out 0).trans rfl
          have hcz49_1 : w37.cell? ⟨gb127, 1, none⟩ = some (.int .i64 t134) := (blk_cell BK127.out 1).trans rfl
          have hcz49_2 : w37.cell? ⟨gb127, 2, none⟩ = some (.int .i64 t135) := (blk_cell BK127.out 2).trans rfl
          have hcz49_3 : w37.cell? ⟨gb127, 3, none⟩ = some (.int .i64 t136) := (blk_cell BK127.out 3).trans rfl
          have hfz49_0 := blk_frozen BK127.out 0
          have hfz49_1 := blk_frozen BK127.out 1
          have hfz49_2 := blk_frozen BK127.out 2
          have hfz49_3 := blk_frozen BK127.out 3
          go_wp2_with (first | ((with_reducible refine gate_store (t := 2) (p := 61) rfl ?_); refine store_event (t := 2) (p := 61) (v := ?vo_w50) (w1 := (((w37.setCell ⟨gb124, 1, none⟩ (.int .i64 z145)).setCell ⟨gb127, 1, none⟩ (.int .i64 z146)).setCell ⟨gb127, 3, none⟩ (.int .i64 z147))) ?hg ?ho ?hn ?hr ?_; (case ho => rfl); (case hg => rfl); (case hn => rfl); (case hr => first | (go_simp; done) | (go_simp; rfl)); intro w50 hw; have n0_ : Aside0 (w50.heap[gb124]? = some (.cells #[.int .i64 x125000_1, .int .i64 z145, .int .i64 z144] 23 (0, 0))) := ⟨(by rw [hw]; exact (by (with_reducible repeat (first | refine blk_drewN ?_ _ | refine blk_drew ?_ | refine blk_alloc ?_ _)); refine blk_far ?_ NB124_127.out _; (with_reducible repeat (first | refine blk_drewN ?_ _ | refine blk_drew ?_ | refine blk_alloc ?_ _)); refine blk_far ?_ NB124_127.out _; (with_reducible repeat (first | refine blk_drewN ?_ _ | refine blk_drew ?_ | refine blk_alloc ?_ _)); refine blk_put (cs := #[.int .i64 x125000_1, .int .i64 z138, .int .i64 z144]) ?_ 1 _ rfl; (with_reducible repeat (first | refine blk_drewN ?_ _ | refine blk_drew ?_ | refine blk_alloc ?_ _)); exact BK124.out))⟩; have n1_ : Aside0 (w50.heap[gb125]? = some (.cells #[.int .i64 x126000_1, .int .i64 x126001_1, .int .i64 x126002_1] 23 (0, 0))) := ⟨(by rw [hw]; exact (by (with_reducible repeat (first | refine blk_drewN ?_ _ | refine blk_drew ?_ | refine blk_alloc ?_ _)); refine blk_far ?_ NB125_127.out _; (with_reducible repeat (first | refine blk_drewN ?_ _ | refine blk_drew ?_ | refine blk_alloc ?_ _)); refine blk_far ?_ NB125_127.out _; (with_reducible repeat (first | refine blk_drewN ?_ _ | refine blk_drew ?_ | refine blk_alloc ?_ _)); refine blk_far ?_ NB125_124.out _; (with_reducible repeat (first | refine blk_drewN ?_ _ | refine blk_drew ?_ | refine blk_alloc ?_ _)); exact BK125.out))⟩; have n2_ : Aside0 (w50.heap[gb126]? = some (.cells #[.int .i64 x127000_1, .int .i64 x127001_1, .int .i64 x127002_1, .int .i64 x127003_1] 25 (0, 0))) := ⟨(by rw [hw]; exact (by (with_reducible repeat (first | refine blk_drewN ?_ _ | refine blk_drew ?_ | refine blk_alloc ?_ _)); refine blk_far ?_ NB126_127.out _; (with_reducible repeat (first | refine blk_drewN ?_ _ | refine blk_drew ?_ | refine blk_alloc ?_ _)); refine blk_far ?_ NB126_127.out _; (with_reducible repeat (first | refine blk_drewN ?_ _ | refine blk_drew ?_ | refine blk_alloc ?_ _)); refine blk_far ?_ NB126_124.out _; (with_reducible repeat (first | refine blk_drewN ?_ _ | refine blk_drew ?_ | refine blk_alloc ?_ _)); exact BK126.out))⟩; have n3_ : Aside0 (w50.heap[gb127]? = some (.cells #[.int .i64 t133, .int .i64 z146, .int .i64 t135, .int .i64 z147] 25 (0, 0))) := ⟨(by rw [hw]; exact (by (with_reducible repeat (first | refine blk_drewN ?_ _ | refine blk_drew ?_ | refine blk_alloc ?_ _)); refine blk_put (cs := #[.int .i64 t133, .int .i64 z146, .int .i64 t135, .int .i64 t136]) ?_ 3 _ rfl; (with_reducible repeat (first | refine blk_drewN ?_ _ | refine blk_drew ?_ | refine blk_alloc ?_ _)); refine blk_put (cs := #[.int .i64 t133, .int .i64 t134, .int .i64 t135, .int .i64 t136]) ?_ 1 _ rfl; (with_reducible repeat (first | refine blk_drewN ?_ _ | refine blk_drew ?_ | refine blk_alloc ?_ _)); refine blk_far ?_ NB127_124.out _; (with_reducible repeat (first | refine blk_drewN ?_ _ | refine blk_drew ?_ | refine blk_alloc ?_ _)); exact BK127.out))⟩; have n4_ : Aside0 (Below w.heap.size w w50) := ⟨(by rw [hw]; exact (bnow HB))⟩; clear hw; clear BK124; clear BK125; clear BK126; clear BK127; clear HB; have BK124 := n0_; have BK125 := n1_; have BK126 := n2_; have BK127 := n3_; have HB := n4_; clear n0_ n1_ n2_ n3_ n4_))
          go_meet
          case rel => exact ⟨_, (z145), (z146), (z147), H', ⟨by have := HK1.out; first | omega | exact Nat.le_refl _⟩, ⟨pk BK124⟩, ⟨pk BK125⟩, ⟨pk BK126⟩, ⟨pk BK127⟩, ⟨bnow HB⟩⟩
        · rw [if_neg c39] at H
          have c39b0 : decide (z138 < 0) = false := decide_eq_false c39
          clear c39
          (first | rw [c39b0] | (simp only [i64_w, i32_w]; rw [c39b0]) | skip)
          have H' := Aside0.mk H
          clear H
          go_wp2
          go_meet
          case rel => exact ⟨_, (z138), (t134), (t136), H', ⟨by have := HK1.out; first | omega | exact Nat.le_refl _⟩, ⟨pk BK124⟩, ⟨pk BK125⟩, ⟨pk BK126⟩, ⟨pk BK127⟩, ⟨bnow HB⟩⟩
      case rest =>
        clear HC25
        try clear c2
        try clear p2
        try clear c3
        try clear c4
        try clear c6
        try clear p6
        try clear c7
        try clear c8
        try clear c26
        try clear c27
        try clear c28
        try clear c30
        try clear c31
        try clear c38
        try clear c39
        try clear c39b0
        try clear c40
        try clear c43
        try clear c44
        try clear c45
        try clear c47
        try clear c48
        try clear hcz29_0
        try clear hcz29_1
        try clear hcz29_2
        try clear hcz32_0
        try clear hcz32_1
        try clear hcz32_2
        try clear hcz32_3
        try clear hcz34_0
        try clear hcz34_1
        try clear hcz34_2
        try clear hcz34_3
        try clear hcz36_0
        try clear hcz36_1
        try clear hcz36_2
        try clear hcz38_0
        try clear hcz38_1
        try clear hcz38_2
        try clear hcz46_0
        try clear hcz46_1
        try clear hcz46_2
        try clear hcz49_0
        try clear hcz49_1
        try clear hcz49_2
        try clear hcz49_3
        try clear hcz9_0
        try clear hcz9_1
        try clear hcz9_2
        try clear hcz9_3
        try clear hfz29_0
        try clear hfz29_1
        try clear hfz29_2
        try clear hfz32_0
        try clear hfz32_1
        try clear hfz32_2
        try clear hfz32_3
        try clear hfz34_0
        try clear hfz34_1
        try clear hfz34_2
        try clear hfz34_3
        try clear hfz36_0
        try clear hfz36_1
        try clear hfz36_2
        try clear hfz38_0
        try clear hfz38_1
        try clear hfz38_2
        try clear hfz46_0
        try clear hfz46_1
        try clear hfz46_2
        try clear hfz49_0
        try clear hfz49_1
        try clear hfz49_2
        try clear hfz49_3
        try clear hfz9_0
        try clear hfz9_1
        try clear hfz9_2
        try clear hfz9_3
        try clear p2
        obtain ⟨kq, x125001_24, x128001_24, x128003_24, HA, HJ24, BK124, BK125, BK126, BK127, HB⟩ := hcut
        cases kq with
        | zero => exact absurd HA.out (by simp [grids_reduce.j1])
        | succ kj24 =>
          have H := HA.out
          clear HA
          simp only [grids_reduce.j1] at H
          by_cases c51 : x125000_1 ≤ z144
          · rw [if_pos c51] at H
            have c51b0 : decide (x125000_1 ≤ z144) = true := decide_eq_true c51
            clear c51
            simp only [Option.some.injEq, Prod.mk.injEq] at H
            obtain ⟨rfl, rfl, rfl, rfl, rfl, rfl, rfl⟩ := H
            have hnb52 := NB124_125.out
            have hnc52 := NB125_124.out
            have hnb53 := NB124_126.out
            have hnc53 := NB126_124.out
            have hnb54 := NB124_127.out
            have hnc54 := NB127_124.out
            have hcz55_0 : wc.cell? ⟨gb124, 0, none⟩ = some (.int .i64 x125000_1) := (blk_cell BK124.out 0).trans rfl
            have hcz55_1 : wc.cell? ⟨gb124, 1, none⟩ = some (.int .i64 x125001_24) := (blk_cell BK124.out 1).trans rfl
            have hcz55_2 : wc.cell? ⟨gb124, 2, none⟩ = some (.int .i64 z144) := (blk_cell BK124.out 2).trans rfl
            have hfz55_0 := blk_frozen BK124.out 0
            have hfz55_1 := blk_frozen BK124.out 1
            have hfz55_2 := blk_frozen BK124.out 2
            try go_wp2
            have n0_ := Aside0.mk (blk_drew BK124.out)
            have n1_ := Aside0.mk (blk_drew BK125.out)
            have n2_ := Aside0.mk (blk_drew BK126.out)
            have n3_ := Aside0.mk (blk_drew BK127.out)
            have n4_ := Aside0.mk (below_drew1 HB.out)
            clear BK124
            clear BK125
            clear BK126
            clear BK127
            clear HB
            have BK124 := n0_
            have BK125 := n1_
            have BK126 := n2_
            have BK127 := n3_
            have HB := n4_
            clear n0_ n1_ n2_ n3_ n4_
            refine start_ (n := 4) (S := fun w' => w'.cell? ⟨gb124, 0, none⟩ = some (.int .i64 x125000_1) ∧ w'.cell? ⟨gb124, 1, none⟩ = some (.int .i64 x125001_24) ∧ w'.cell? ⟨gb124, 2, none⟩ = some (.int .i64 z144) ∧ w'.cell? ⟨gb127, 0, none⟩ = some (.int .i64 t133) ∧ w'.cell? ⟨gb127, 1, none⟩ = some (.int .i64 x128001_24) ∧ w'.cell? ⟨gb127, 2, none⟩ = some (.int .i64 t135) ∧ w'.cell? ⟨gb127, 3, none⟩ = some (.int .i64 x128003_24)) (ds := []) #[false, false, false, false] (by kernel_rfl) rfl rfl ⟨(blk_cell BK124.out 0).trans rfl, (blk_cell BK124.out 1).trans rfl, (blk_cell BK124.out 2).trans rfl, (blk_cell BK127.out 0).trans rfl, (blk_cell BK127.out 1).trans rfl, (blk_cell BK127.out 2).trans rfl, (blk_cell BK127.out 3).trans rfl⟩ (fun hHeld => ?_)
            generalize wc.drew = w56 at BK124 BK125 BK126 BK127 HB hHeld ⊢
            refine take_ (i := 0) (N := some 67) (v := ?_) (a' := ?_) #[true, false, false, false] rfl rfl (by kernel_rfl) (fun _ _ _ h => h) (Or.inl ⟨by rfl, ?_⟩) hHeld ?_ ?_
            rotate_left
            · rintro w' ⟨s0, s1, s2, s3, s4, s5, s6⟩
              go_simp
              with_reducible rfl
            rotate_left
            · simp only [Act.put, List.setIfInBounds_toArray, List.set_cons_zero, List.set_cons_succ, i64_w, i32_w]
              rfl
            refine take_ (i := 1) (N := some 68) (v := ?_) (a' := ?_) #[true, true, false, false] rfl rfl (by kernel_rfl) (fun _ _ _ h => h) (Or.inl ⟨by rfl, ?_⟩) hHeld ?_ ?_
            rotate_left
            · rintro w' ⟨s0, s1, s2, s3, s4, s5, s6⟩
              go_simp
              with_reducible rfl
            rotate_left
            · simp only [Act.put, List.setIfInBounds_toArray, List.set_cons_zero, List.set_cons_succ, i64_w, i32_w]
              rfl
            refine one_ (i := 2) (N := none) #[true, true, true, false] rfl rfl (by kernel_rfl) (by decide) (fun K hK => ?_)
            have hs57 : w56.cell? ⟨gb125, 0, none⟩ = some (.int .i64 x126000_1) := (blk_cell BK125.out 0).trans rfl
            have hfs57 := blk_frozen BK125.out 0
            have hns57_0 := NB124_125.out
            have hns57_2 := NB126_125.out
            have hns57_3 := NB127_125.out
            have hms57_0 := NB125_124.out
            have hms57_2 := NB125_126.out
            have hms57_3 := NB125_127.out
            have hs58 : w56.cell? ⟨gb125, 1, none⟩ = some (.int .i64 x126001_1) := (blk_cell BK125.out 1).trans rfl
            have hfs58 := blk_frozen BK125.out 1
            have hns58_0 := NB124_125.out
            have hns58_2 := NB126_125.out
            have hns58_3 := NB127_125.out
            have hms58_0 := NB125_124.out
            have hms58_2 := NB125_126.out
            have hms58_3 := NB125_127.out
            have hs59 : w56.cell? ⟨gb125, 2, none⟩ = some (.int .i64 x126002_1) := (blk_cell BK125.out 2).trans rfl
            have hfs59 := blk_frozen BK125.out 2
            have hns59_0 := NB124_125.out
            have hns59_2 := NB126_125.out
            have hns59_3 := NB127_125.out
            have hms59_0 := NB125_124.out
            have hms59_2 := NB125_126.out
            have hms59_3 := NB125_127.out
            refine skip_ (w1 := ?_) (by rfl) rfl ?_ ?_
            rotate_left
            · go_simp
              rfl
            refine hK.out _ _ ⟨((cell_far (p := ⟨gb125, _, none⟩) NB124_125.out _).trans (((cell_far (p := ⟨gb125, _, none⟩) NB124_125.out _).trans (((cell_far (p := ⟨gb125, _, none⟩) NB124_125.out _).trans (hHeld.1)))))), ((cell_far (p := ⟨gb125, _, none⟩) NB124_125.out _).trans (((cell_far (p := ⟨gb125, _, none⟩) NB124_125.out _).trans (((cell_far (p := ⟨gb125, _, none⟩) NB124_125.out _).trans (hHeld.2.1)))))), ((cell_far (p := ⟨gb125, _, none⟩) NB124_125.out _).trans (((cell_far (p := ⟨gb125, _, none⟩) NB124_125.out _).trans (((cell_far (p := ⟨gb125, _, none⟩) NB124_125.out _).trans (hHeld.2.2.1)))))), ((cell_far (p := ⟨gb125, _, none⟩) NB127_125.out _).trans (((cell_far (p := ⟨gb125, _, none⟩) NB127_125.out _).trans (((cell_far (p := ⟨gb125, _, none⟩) NB127_125.out _).trans (hHeld.2.2.2.1)))))), ((cell_far (p := ⟨gb125, _, none⟩) NB127_125.out _).trans (((cell_far (p := ⟨gb125, _, none⟩) NB127_125.out _).trans (((cell_far (p := ⟨gb125, _, none⟩) NB127_125.out _).trans (hHeld.2.2.2.2.1)))))), ((cell_far (p := ⟨gb125, _, none⟩) NB127_125.out _).trans (((cell_far (p := ⟨gb125, _, none⟩) NB127_125.out _).trans (((cell_far (p := ⟨gb125, _, none⟩) NB127_125.out _).trans (hHeld.2.2.2.2.2.1)))))), ((cell_far (p := ⟨gb125, _, none⟩) NB127_125.out _).trans (((cell_far (p := ⟨gb125, _, none⟩) NB127_125.out _).trans (((cell_far (p := ⟨gb125, _, none⟩) NB127_125.out _).trans (hHeld.2.2.2.2.2.2))))))⟩ (fun hHeld => ?_)
            clear hK K
            refine one_ (i := 3) (N := none) #[true, true, true, true] rfl rfl (by kernel_rfl) (by decide) (fun K hK => ?_)
            have hs60 : w56.cell? ⟨gb126, 0, none⟩ = some (.int .i64 x127000_1) := (blk_cell BK126.out 0).trans rfl
            have hfs60 := blk_frozen BK126.out 0
            have hns60_0 := NB124_126.out
            have hns60_1 := NB125_126.out
            have hns60_3 := NB127_126.out
            have hms60_0 := NB126_124.out
            have hms60_1 := NB126_125.out
            have hms60_3 := NB126_127.out
            have hs61 : w56.cell? ⟨gb126, 1, none⟩ = some (.int .i64 x127001_1) := (blk_cell BK126.out 1).trans rfl
            have hfs61 := blk_frozen BK126.out 1
            have hns61_0 := NB124_126.out
            have hns61_1 := NB125_126.out
            have hns61_3 := NB127_126.out
            have hms61_0 := NB126_124.out
            have hms61_1 := NB126_125.out
            have hms61_3 := NB126_127.out
            have hs62 : w56.cell? ⟨gb126, 2, none⟩ = some (.int .i64 x127002_1) := (blk_cell BK126.out 2).trans rfl
            have hfs62 := blk_frozen BK126.out 2
            have hns62_0 := NB124_126.out
            have hns62_1 := NB125_126.out
            have hns62_3 := NB127_126.out
            have hms62_0 := NB126_124.out
            have hms62_1 := NB126_125.out
            have hms62_3 := NB126_127.out
            have hs63 : w56.cell? ⟨gb126, 3, none⟩ = some (.int .i64 x127003_1) := (blk_cell BK126.out 3).trans rfl
            have hfs63 := blk_frozen BK126.out 3
            have hns63_0 := NB124_126.out
            have hns63_1 := NB125_126.out
            have hns63_3 := NB127_126.out
            have hms63_0 := NB126_124.out
            have hms63_1 := NB126_125.out
            have hms63_3 := NB126_127.out
            refine skip_ (w1 := ?_) (by rfl) rfl ?_ ?_
            rotate_left
            · go_simp
              rfl
            refine hK.out _ _ ⟨((cell_far (p := ⟨gb126, _, none⟩) NB124_126.out _).trans (((cell_far (p := ⟨gb126, _, none⟩) NB124_126.out _).trans (((cell_far (p := ⟨gb126, _, none⟩) NB124_126.out _).trans (((cell_far (p := ⟨gb126, _, none⟩) NB124_126.out _).trans (hHeld.1)))))))), ((cell_far (p := ⟨gb126, _, none⟩) NB124_126.out _).trans (((cell_far (p := ⟨gb126, _, none⟩) NB124_126.out _).trans (((cell_far (p := ⟨gb126, _, none⟩) NB124_126.out _).trans (((cell_far (p := ⟨gb126, _, none⟩) NB124_126.out _).trans (hHeld.2.1)))))))), ((cell_far (p := ⟨gb126, _, none⟩) NB124_126.out _).trans (((cell_far (p := ⟨gb126, _, none⟩) NB124_126.out _).trans (((cell_far (p := ⟨gb126, _, none⟩) NB124_126.out _).trans (((cell_far (p := ⟨gb126, _, none⟩) NB124_126.out _).trans (hHeld.2.2.1)))))))), ((cell_far (p := ⟨gb126, _, none⟩) NB127_126.out _).trans (((cell_far (p := ⟨gb126, _, none⟩) NB127_126.out _).trans (((cell_far (p := ⟨gb126, _, none⟩) NB127_126.out _).trans (((cell_far (p := ⟨gb126, _, none⟩) NB127_126.out _).trans (hHeld.2.2.2.1)))))))), ((cell_far (p := ⟨gb126, _, none⟩) NB127_126.out _).trans (((cell_far (p := ⟨gb126, _, none⟩) NB127_126.out _).trans (((cell_far (p := ⟨gb126, _, none⟩) NB127_126.out _).trans (((cell_far (p := ⟨gb126, _, none⟩) NB127_126.out _).trans (hHeld.2.2.2.2.1)))))))), ((cell_far (p := ⟨gb126, _, none⟩) NB127_126.out _).trans (((cell_far (p := ⟨gb126, _, none⟩) NB127_126.out _).trans (((cell_far (p := ⟨gb126, _, none⟩) NB127_126.out _).trans (((cell_far (p := ⟨gb126, _, none⟩) NB127_126.out _).trans (hHeld.2.2.2.2.2.1)))))))), ((cell_far (p := ⟨gb126, _, none⟩) NB127_126.out _).trans (((cell_far (p := ⟨gb126, _, none⟩) NB127_126.out _).trans (((cell_far (p := ⟨gb126, _, none⟩) NB127_126.out _).trans (((cell_far (p := ⟨gb126, _, none⟩) NB127_126.out _).trans (hHeld.2.2.2.2.2.2))))))))⟩ (fun hHeld => ?_)
            clear hK K
            refine done_ (by kernel_rfl) ?_
            try go_wp2
            refine bodyPost_ret (results_cc rfl _ _ gb125 gb126 23 25 #[.int .i64 x125000_1, .int .i64 x125001_24, .int .i64 z144] #[.int .i64 t133, .int .i64 x128001_24, .int .i64 t135, .int .i64 x128003_24] (0, 0) (0, 0) _ _ rfl (by (with_reducible repeat (first | refine blk_drewN ?_ _ | refine blk_drew ?_ | refine blk_alloc ?_ _)); refine blk_far ?_ NB125_126.out _; (with_reducible repeat (first | refine blk_drewN ?_ _ | refine blk_drew ?_ | refine blk_alloc ?_ _)); refine blk_far ?_ NB125_126.out _; (with_reducible repeat (first | refine blk_drewN ?_ _ | refine blk_drew ?_ | refine blk_alloc ?_ _)); refine blk_far ?_ NB125_126.out _; (with_reducible repeat (first | refine blk_drewN ?_ _ | refine blk_drew ?_ | refine blk_alloc ?_ _)); refine blk_far ?_ NB125_126.out _; (with_reducible repeat (first | refine blk_drewN ?_ _ | refine blk_drew ?_ | refine blk_alloc ?_ _)); refine blk_put (cs := #[.int .i64 x125000_1, .int .i64 x125001_24, .int .i64 x126002_1]) ?_ 2 _ rfl; (with_reducible repeat (first | refine blk_drewN ?_ _ | refine blk_drew ?_ | refine blk_alloc ?_ _)); refine blk_put (cs := #[.int .i64 x125000_1, .int .i64 x126001_1, .int .i64 x126002_1]) ?_ 1 _ rfl; (with_reducible repeat (first | refine blk_drewN ?_ _ | refine blk_drew ?_ | refine blk_alloc ?_ _)); refine blk_put (cs := #[.int .i64 x126000_1, .int .i64 x126001_1, .int .i64 x126002_1]) ?_ 0 _ rfl; (with_reducible repeat (first | refine blk_drewN ?_ _ | refine blk_drew ?_ | refine blk_alloc ?_ _)); exact BK125.out) Try.underlying23 rfl (by kernel_rfl) rfl (by (with_reducible repeat (first | refine blk_drewN ?_ _ | refine blk_drew ?_ | refine blk_alloc ?_ _)); refine blk_put (cs := #[.int .i64 t133, .int .i64 x128001_24, .int .i64 t135, .int .i64 x127003_1]) ?_ 3 _ rfl; (with_reducible repeat (first | refine blk_drewN ?_ _ | refine blk_drew ?_ | refine blk_alloc ?_ _)); refine blk_put (cs := #[.int .i64 t133, .int .i64 x128001_24, .int .i64 x127002_1, .int .i64 x127003_1]) ?_ 2 _ rfl; (with_reducible repeat (first | refine blk_drewN ?_ _ | refine blk_drew ?_ | refine blk_alloc ?_ _)); refine blk_put (cs := #[.int .i64 t133, .int .i64 x127001_1, .int .i64 x127002_1, .int .i64 x127003_1]) ?_ 1 _ rfl; (with_reducible repeat (first | refine blk_drewN ?_ _ | refine blk_drew ?_ | refine blk_alloc ?_ _)); refine blk_put (cs := #[.int .i64 x127000_1, .int .i64 x127001_1, .int .i64 x127002_1, .int .i64 x127003_1]) ?_ 0 _ rfl; (with_reducible repeat (first | refine blk_drewN ?_ _ | refine blk_drew ?_ | refine blk_alloc ?_ _)); refine blk_far ?_ NB126_125.out _; (with_reducible repeat (first | refine blk_drewN ?_ _ | refine blk_drew ?_ | refine blk_alloc ?_ _)); refine blk_far ?_ NB126_125.out _; (with_reducible repeat (first | refine blk_drewN ?_ _ | refine blk_drew ?_ | refine blk_alloc ?_ _)); refine blk_far ?_ NB126_125.out _; (with_reducible repeat (first | refine blk_drewN ?_ _ | refine blk_drew ?_ | refine blk_alloc ?_ _)); exact BK126.out) Try.underlying25 rfl (by kernel_rfl)) rfl ?_
            exact ⟨by first | rfl | (simp [errW_none, errW_some] <;> rfl) | (simp [*, errW_none, errW_some] <;> rfl), by repeat (first | (with_reducible first | exact HB.out | apply below_alloc | apply pw_below_drewN | apply below_drew1 | refine below_set ?_ GE124.out | refine below_set ?_ GE125.out | refine below_set ?_ GE126.out | refine below_set ?_ GE127.out) | exact HB.out)⟩
          · rw [if_neg c51] at H
            have c51b0 : decide (x125000_1 ≤ z144) = false := decide_eq_false c51
            clear c51
            have H' := Aside0.mk H
            clear H
            have hnb64 := NB124_125.out
            have hnc64 := NB125_124.out
            have hnb65 := NB124_126.out
            have hnc65 := NB126_124.out
            have hnb66 := NB124_127.out
            have hnc66 := NB127_124.out
            have hcz67_0 : wc.cell? ⟨gb124, 0, none⟩ = some (.int .i64 x125000_1) := (blk_cell BK124.out 0).trans rfl
            have hcz67_1 : wc.cell? ⟨gb124, 1, none⟩ = some (.int .i64 x125001_24) := (blk_cell BK124.out 1).trans rfl
            have hcz67_2 : wc.cell? ⟨gb124, 2, none⟩ = some (.int .i64 z144) := (blk_cell BK124.out 2).trans rfl
            have hfz67_0 := blk_frozen BK124.out 0
            have hfz67_1 := blk_frozen BK124.out 1
            have hfz67_2 := blk_frozen BK124.out 2
            have hnb68 := NB127_125.out
            have hnc68 := NB125_127.out
            have hnb69 := NB127_126.out
            have hnc69 := NB126_127.out
            have hcz70_0 : wc.cell? ⟨gb127, 0, none⟩ = some (.int .i64 t133) := (blk_cell BK127.out 0).trans rfl
            have hcz70_1 : wc.cell? ⟨gb127, 1, none⟩ = some (.int .i64 x128001_24) := (blk_cell BK127.out 1).trans rfl
            have hcz70_2 : wc.cell? ⟨gb127, 2, none⟩ = some (.int .i64 t135) := (blk_cell BK127.out 2).trans rfl
            have hcz70_3 : wc.cell? ⟨gb127, 3, none⟩ = some (.int .i64 x128003_24) := (blk_cell BK127.out 3).trans rfl
            have hfz70_0 := blk_frozen BK127.out 0
            have hfz70_1 := blk_frozen BK127.out 1
            have hfz70_2 := blk_frozen BK127.out 2
            have hfz70_3 := blk_frozen BK127.out 3
            go_wp2_with (first | ((with_reducible refine gate_store (t := 2) (p := 83) rfl ?_); refine store_event (t := 2) (p := 83) (v := ?vo_w71) (w1 := (((wc.setCell ⟨gb124, 0, none⟩ (.int .i64 z144)).setCell ⟨gb124, 2, none⟩ (.int .i64 x125000_1)).setCell ⟨gb127, 0, none⟩ (.int .i64 x128001_24))) ?hg ?ho ?hn ?hr ?_; (case ho => rfl); (case hg => rfl); (case hn => rfl); (case hr => first | (go_simp; done) | (go_simp; rfl)); intro w71 hw; have n0_ : Aside0 (w71.heap[gb124]? = some (.cells #[.int .i64 z144, .int .i64 x125001_24, .int .i64 x125000_1] 23 (0, 0))) := ⟨(by rw [hw]; exact (by (with_reducible repeat (first | refine blk_drewN ?_ _ | refine blk_drew ?_ | refine blk_alloc ?_ _)); refine blk_far ?_ NB124_127.out _; (with_reducible repeat (first | refine blk_drewN ?_ _ | refine blk_drew ?_ | refine blk_alloc ?_ _)); refine blk_put (cs := #[.int .i64 z144, .int .i64 x125001_24, .int .i64 z144]) ?_ 2 _ rfl; (with_reducible repeat (first | refine blk_drewN ?_ _ | refine blk_drew ?_ | refine blk_alloc ?_ _)); refine blk_put (cs := #[.int .i64 x125000_1, .int .i64 x125001_24, .int .i64 z144]) ?_ 0 _ rfl; (with_reducible repeat (first | refine blk_drewN ?_ _ | refine blk_drew ?_ | refine blk_alloc ?_ _)); exact BK124.out))⟩; have n1_ : Aside0 (w71.heap[gb125]? = some (.cells #[.int .i64 x126000_1, .int .i64 x126001_1, .int .i64 x126002_1] 23 (0, 0))) := ⟨(by rw [hw]; exact (by (with_reducible repeat (first | refine blk_drewN ?_ _ | refine blk_drew ?_ | refine blk_alloc ?_ _)); refine blk_far ?_ NB125_127.out _; (with_reducible repeat (first | refine blk_drewN ?_ _ | refine blk_drew ?_ | refine blk_alloc ?_ _)); refine blk_far ?_ NB125_124.out _; (with_reducible repeat (first | refine blk_drewN ?_ _ | refine blk_drew ?_ | refine blk_alloc ?_ _)); refine blk_far ?_ NB125_124.out _; (with_reducible repeat (first | refine blk_drewN ?_ _ | refine blk_drew ?_ | refine blk_alloc ?_ _)); exact BK125.out))⟩; have n2_ : Aside0 (w71.heap[gb126]? = some (.cells #[.int .i64 x127000_1, .int .i64 x127001_1, .int .i64 x127002_1, .int .i64 x127003_1] 25 (0, 0))) := ⟨(by rw [hw]; exact (by (with_reducible repeat (first | refine blk_drewN ?_ _ | refine blk_drew ?_ | refine blk_alloc ?_ _)); refine blk_far ?_ NB126_127.out _; (with_reducible repeat (first | refine blk_drewN ?_ _ | refine blk_drew ?_ | refine blk_alloc ?_ _)); refine blk_far ?_ NB126_124.out _; (with_reducible repeat (first | refine blk_drewN ?_ _ | refine blk_drew ?_ | refine blk_alloc ?_ _)); refine blk_far ?_ NB126_124.out _; (with_reducible repeat (first | refine blk_drewN ?_ _ | refine blk_drew ?_ | refine blk_alloc ?_ _)); exact BK126.out))⟩; have n3_ : Aside0 (w71.heap[gb127]? = some (.cells #[.int .i64 x128001_24, .int .i64 x128001_24, .int .i64 t135, .int .i64 x128003_24] 25 (0, 0))) := ⟨(by rw [hw]; exact (by (with_reducible repeat (first | refine blk_drewN ?_ _ | refine blk_drew ?_ | refine blk_alloc ?_ _)); refine blk_put (cs := #[.int .i64 t133, .int .i64 x128001_24, .int .i64 t135, .int .i64 x128003_24]) ?_ 0 _ rfl; (with_reducible repeat (first | refine blk_drewN ?_ _ | refine blk_drew ?_ | refine blk_alloc ?_ _)); refine blk_far ?_ NB127_124.out _; (with_reducible repeat (first | refine blk_drewN ?_ _ | refine blk_drew ?_ | refine blk_alloc ?_ _)); refine blk_far ?_ NB127_124.out _; (with_reducible repeat (first | refine blk_drewN ?_ _ | refine blk_drew ?_ | refine blk_alloc ?_ _)); exact BK127.out))⟩; have n4_ : Aside0 (Below w.heap.size w w71) := ⟨(by rw [hw]; exact (bnow HB))⟩; clear hw; clear BK124; clear BK125; clear BK126; clear BK127; clear HB; have BK124 := n0_; have BK125 := n1_; have BK126 := n2_; have BK127 := n3_; have HB := n4_; clear n0_ n1_ n2_ n3_ n4_; have hcz72_0 : w71.cell? ⟨gb127, 0, none⟩ = some (.int .i64 x128001_24) := (blk_cell BK127.out 0).trans rfl; have hcz72_1 : w71.cell? ⟨gb127, 1, none⟩ = some (.int .i64 x128001_24) := (blk_cell BK127.out 1).trans rfl; have hcz72_2 : w71.cell? ⟨gb127, 2, none⟩ = some (.int .i64 t135) := (blk_cell BK127.out 2).trans rfl; have hcz72_3 : w71.cell? ⟨gb127, 3, none⟩ = some (.int .i64 x128003_24) := (blk_cell BK127.out 3).trans rfl; have hfz72_0 := blk_frozen BK127.out 0; have hfz72_1 := blk_frozen BK127.out 1; have hfz72_2 := blk_frozen BK127.out 2; have hfz72_3 := blk_frozen BK127.out 3) | ((with_reducible refine gate_store (t := 2) (p := 86) rfl ?_); refine store_event (t := 2) (p := 86) (v := ?vo_w73) (w1 := (((w71.setCell ⟨gb127, 1, none⟩ (.int .i64 t133)).setCell ⟨gb127, 2, none⟩ (.int .i64 x128003_24)).setCell ⟨gb127, 3, none⟩ (.int .i64 t135))) ?hg ?ho ?hn ?hr ?_; (case ho => rfl); (case hg => rfl); (case hn => rfl); (case hr => first | (go_simp; done) | (go_simp; rfl)); intro w73 hw; have n0_ : Aside0 (w73.heap[gb124]? = some (.cells #[.int .i64 z144, .int .i64 x125001_24, .int .i64 x125000_1] 23 (0, 0))) := ⟨(by rw [hw]; exact (by (with_reducible repeat (first | refine blk_drewN ?_ _ | refine blk_drew ?_ | refine blk_alloc ?_ _)); refine blk_far ?_ NB124_127.out _; (with_reducible repeat (first | refine blk_drewN ?_ _ | refine blk_drew ?_ | refine blk_alloc ?_ _)); refine blk_far ?_ NB124_127.out _; (with_reducible repeat (first | refine blk_drewN ?_ _ | refine blk_drew ?_ | refine blk_alloc ?_ _)); refine blk_far ?_ NB124_127.out _; (with_reducible repeat (first | refine blk_drewN ?_ _ | refine blk_drew ?_ | refine blk_alloc ?_ _)); exact BK124.out))⟩; have n1_ : Aside0 (w73.heap[gb125]? = some (.cells #[.int .i64 x126000_1, .int .i64 x126001_1, .int .i64 x126002_1] 23 (0, 0))) := ⟨(by rw [hw]; exact (by (with_reducible repeat (first | refine blk_drewN ?_ _ | refine blk_drew ?_ | refine blk_alloc ?_ _)); refine blk_far ?_ NB125_127.out _; (with_reducible repeat (first | refine blk_drewN ?_ _ | refine blk_drew ?_ | refine blk_alloc ?_ _)); refine blk_far ?_ NB125_127.out _; (with_reducible repeat (first | refine blk_drewN ?_ _ | refine blk_drew ?_ | refine blk_alloc ?_ _)); refine blk_far ?_ NB125_127.out _; (with_reducible repeat (first | refine blk_drewN ?_ _ | refine blk_drew ?_ | refine blk_alloc ?_ _)); exact BK125.out))⟩; have n2_ : Aside0 (w73.heap[gb126]? = some (.cells #[.int .i64 x127000_1, .int .i64 x127001_1, .int .i64 x127002_1, .int .i64 x127003_1] 25 (0, 0))) := ⟨(by rw [hw]; exact (by (with_reducible repeat (first | refine blk_drewN ?_ _ | refine blk_drew ?_ | refine blk_alloc ?_ _)); refine blk_far ?_ NB126_127.out _; (with_reducible repeat (first | refine blk_drewN ?_ _ | refine blk_drew ?_ | refine blk_alloc ?_ _)); refine blk_far ?_ NB126_127.out _; (with_reducible repeat (first | refine blk_drewN ?_ _ | refine blk_drew ?_ | refine blk_alloc ?_ _)); refine blk_far ?_ NB126_127.out _; (with_reducible repeat (first | refine blk_drewN ?_ _ | refine blk_drew ?_ | refine blk_alloc ?_ _)); exact BK126.out))⟩; have n3_ : Aside0 (w73.heap[gb127]? = some (.cells #[.int .i64 x128001_24, .int .i64 t133, .int .i64 x128003_24, .int .i64 t135] 25 (0, 0))) := ⟨(by rw [hw]; exact (by (with_reducible repeat (first | refine blk_drewN ?_ _ | refine blk_drew ?_ | refine blk_alloc ?_ _)); refine blk_put (cs := #[.int .i64 x128001_24, .int .i64 t133, .int .i64 x128003_24, .int .i64 x128003_24]) ?_ 3 _ rfl; (with_reducible repeat (first | refine blk_drewN ?_ _ | refine blk_drew ?_ | refine blk_alloc ?_ _)); refine blk_put (cs := #[.int .i64 x128001_24, .int .i64 t133, .int .i64 t135, .int .i64 x128003_24]) ?_ 2 _ rfl; (with_reducible repeat (first | refine blk_drewN ?_ _ | refine blk_drew ?_ | refine blk_alloc ?_ _)); refine blk_put (cs := #[.int .i64 x128001_24, .int .i64 x128001_24, .int .i64 t135, .int .i64 x128003_24]) ?_ 1 _ rfl; (with_reducible repeat (first | refine blk_drewN ?_ _ | refine blk_drew ?_ | refine blk_alloc ?_ _)); exact BK127.out))⟩; have n4_ : Aside0 (Below w.heap.size w w73) := ⟨(by rw [hw]; exact (bnow HB))⟩; clear hw; clear BK124; clear BK125; clear BK126; clear BK127; clear HB; have BK124 := n0_; have BK125 := n1_; have BK126 := n2_; have BK127 := n3_; have HB := n4_; clear n0_ n1_ n2_ n3_ n4_))
            go_roundg kj24
            case measure => have := HK1.out; have := HJ24.out; omega
            case rel => exact ⟨(z144), (x125001_24), (x125000_1), (x126000_1), (x126001_1), (x126002_1), (x127000_1), (x127001_1), (x127002_1), (x127003_1), (x128001_24), (t133), (x128003_24), (t135), H', ⟨by have := HK1.out; have := HJ24.out; omega⟩, ⟨pk BK124⟩, ⟨pk BK125⟩, ⟨pk BK126⟩, ⟨pk BK127⟩, ⟨bnow HB⟩⟩
end
section
/-! ### grids_step_product: function 80 -/
def grids_step_product.f (a0_0 : Int) (a0_1 : Int) (a1_0 : Int) (a1_1 : Int) (a1_2 : Int) (a2_0 : Int) (a2_1 : Int) : Option (Int) := (some (wrap64 (a1_0 * a2_0))).bind fun z151 => ((some (wrap64 (a1_1 * a2_1))).bind fun z152 => ((some (wrap64 (z151 + z152))).bind fun z153 => ((some (wrap64 (a0_0 * z153))).bind fun z154 => ((some (wrap64 (a1_1 * a2_0))).bind fun z155 => ((some (wrap64 (a1_2 * a2_1))).bind fun z156 => ((some (wrap64 (z155 + z156))).bind fun z157 => ((some (wrap64 (a0_1 * z157))).bind fun z158 => ((some (wrap64 (z154 + z158))).bind fun z159 => (some z159)))))))))
set_option maxHeartbeats 8000000 in
set_option maxRecDepth 100000 in
theorem grids_step_product.calls (a0_0 : Int) (a0_1 : Int) (a1_0 : Int) (a1_1 : Int) (a1_2 : Int) (a2_0 : Int) (a2_1 : Int) (r : Int) (w : World) (h : grids_step_product.f a0_0 a0_1 a1_0 a1_1 a1_2 a2_0 a2_1 = some r) :
    Calls Try.prog 80 #[.agg #[.int .i64 a0_0, .int .i64 a0_1], .agg #[.int .i64 a1_0, .int .i64 a1_1, .int .i64 a1_2], .agg #[.int .i64 a2_0, .int .i64 a2_1]] w fun e w' => e = .returned (.int .i64 r) ∧ Below w.heap.size w w' := by
  have hu81 := Try.underlying81
  have hu23 := Try.underlying23
  have HB := Aside0.mk (Below.refl w.heap.size w)
  have H : ((some (wrap64 (a1_0 * a2_0))).bind fun z151 => ((some (wrap64 (a1_1 * a2_1))).bind fun z152 => ((some (wrap64 (z151 + z152))).bind fun z153 => ((some (wrap64 (a0_0 * z153))).bind fun z154 => ((some (wrap64 (a1_1 * a2_0))).bind fun z155 => ((some (wrap64 (a1_2 * a2_1))).bind fun z156 => ((some (wrap64 (z155 + z156))).bind fun z157 => ((some (wrap64 (a0_1 * z157))).bind fun z158 => ((some (wrap64 (z154 + z158))).bind fun z159 => (some z159)))))))))) = some r := h
  clear h
  replace H := Option.bind_eq_some_iff.mp H
  obtain ⟨z151, E40, H⟩ := H
  replace H : ((some (wrap64 (a1_1 * a2_1))).bind fun z152 => ((some (wrap64 (z151 + z152))).bind fun z153 => ((some (wrap64 (a0_0 * z153))).bind fun z154 => ((some (wrap64 (a1_1 * a2_0))).bind fun z155 => ((some (wrap64 (a1_2 * a2_1))).bind fun z156 => ((some (wrap64 (z155 + z156))).bind fun z157 => ((some (wrap64 (a0_1 * z157))).bind fun z158 => ((some (wrap64 (z154 + z158))).bind fun z159 => (some z159))))))))) = some r := H
  replace E40 := Option.some.inj E40
  have E4w : (IntKind.i64.wrap (a1_0 * a2_0)) = z151 := (i64_w _).trans E40
  replace H := Option.bind_eq_some_iff.mp H
  obtain ⟨z152, E50, H⟩ := H
  replace H : ((some (wrap64 (z151 + z152))).bind fun z153 => ((some (wrap64 (a0_0 * z153))).bind fun z154 => ((some (wrap64 (a1_1 * a2_0))).bind fun z155 => ((some (wrap64 (a1_2 * a2_1))).bind fun z156 => ((some (wrap64 (z155 + z156))).bind fun z157 => ((some (wrap64 (a0_1 * z157))).bind fun z158 => ((some (wrap64 (z154 + z158))).bind fun z159 => (some z159)))))))) = some r := H
  replace E50 := Option.some.inj E50
  have E5w : (IntKind.i64.wrap (a1_1 * a2_1)) = z152 := (i64_w _).trans E50
  replace H := Option.bind_eq_some_iff.mp H
  obtain ⟨z153, E60, H⟩ := H
  replace H : ((some (wrap64 (a0_0 * z153))).bind fun z154 => ((some (wrap64 (a1_1 * a2_0))).bind fun z155 => ((some (wrap64 (a1_2 * a2_1))).bind fun z156 => ((some (wrap64 (z155 + z156))).bind fun z157 => ((some (wrap64 (a0_1 * z157))).bind fun z158 => ((some (wrap64 (z154 + z158))).bind fun z159 => (some z159))))))) = some r := H
  replace E60 := Option.some.inj E60
  have E6w : (IntKind.i64.wrap (z151 + z152)) = z153 := (i64_w _).trans E60
  replace H := Option.bind_eq_some_iff.mp H
  obtain ⟨z154, E70, H⟩ := H
  replace H : ((some (wrap64 (a1_1 * a2_0))).bind fun z155 => ((some (wrap64 (a1_2 * a2_1))).bind fun z156 => ((some (wrap64 (z155 + z156))).bind fun z157 => ((some (wrap64 (a0_1 * z157))).bind fun z158 => ((some (wrap64 (z154 + z158))).bind fun z159 => (some z159)))))) = some r := H
  replace E70 := Option.some.inj E70
  have E7w : (IntKind.i64.wrap (a0_0 * z153)) = z154 := (i64_w _).trans E70
  replace H := Option.bind_eq_some_iff.mp H
  obtain ⟨z155, E80, H⟩ := H
  replace H : ((some (wrap64 (a1_2 * a2_1))).bind fun z156 => ((some (wrap64 (z155 + z156))).bind fun z157 => ((some (wrap64 (a0_1 * z157))).bind fun z158 => ((some (wrap64 (z154 + z158))).bind fun z159 => (some z159))))) = some r := H
  replace E80 := Option.some.inj E80
  have E8w : (IntKind.i64.wrap (a1_1 * a2_0)) = z155 := (i64_w _).trans E80
  replace H := Option.bind_eq_some_iff.mp H
  obtain ⟨z156, E90, H⟩ := H
  replace H : ((some (wrap64 (z155 + z156))).bind fun z157 => ((some (wrap64 (a0_1 * z157))).bind fun z158 => ((some (wrap64 (z154 + z158))).bind fun z159 => (some z159)))) = some r := H
  replace E90 := Option.some.inj E90
  have E9w : (IntKind.i64.wrap (a1_2 * a2_1)) = z156 := (i64_w _).trans E90
  replace H := Option.bind_eq_some_iff.mp H
  obtain ⟨z157, E100, H⟩ := H
  replace H : ((some (wrap64 (a0_1 * z157))).bind fun z158 => ((some (wrap64 (z154 + z158))).bind fun z159 => (some z159))) = some r := H
  replace E100 := Option.some.inj E100
  have E10w : (IntKind.i64.wrap (z155 + z156)) = z157 := (i64_w _).trans E100
  replace H := Option.bind_eq_some_iff.mp H
  obtain ⟨z158, E110, H⟩ := H
  replace H : ((some (wrap64 (z154 + z158))).bind fun z159 => (some z159)) = some r := H
  replace E110 := Option.some.inj E110
  have E11w : (IntKind.i64.wrap (a0_1 * z157)) = z158 := (i64_w _).trans E110
  replace H := Option.bind_eq_some_iff.mp H
  obtain ⟨z159, E120, H⟩ := H
  replace H : (some z159) = some r := H
  replace E120 := Option.some.inj E120
  have E12w : (IntKind.i64.wrap (z154 + z158)) = z159 := (i64_w _).trans E120
  obtain rfl := Option.some.inj H
  go_enter Try.func80, Try.ntmps80
  go_wp2_with (first | ((with_reducible refine gate_dst (N := 3) rfl ?_); refine box_event ?hg (N := 3) ?hd (cs := #[.int .i64 a0_0, .int .i64 a0_1]) (t := 81) ?hr ?_; (case hd => rfl); (case hg => rfl); (case hr => first | (go_simp; done) | (go_simp; rfl)); intro gb148 hg w13 hbox hb; have BK148 := Aside0.mk (hbox); have GW148 := Aside0.mk ((by rw [hg]; exact (below_size (bnow HB)) : w.heap.size ≤ gb148)); have GE148 := Aside0.mk ((by rw [hg]; exact (below_size (bnow HB)) : w.heap.size ≤ gb148)); replace HB := bst HB hb; clear hb hbox hg) | ((with_reducible refine gate_dst (N := 4) rfl ?_); refine box_event ?hg (N := 4) ?hd (cs := #[.int .i64 a1_0, .int .i64 a1_1, .int .i64 a1_2]) (t := 23) ?hr ?_; (case hd => rfl); (case hg => rfl); (case hr => first | (go_simp; done) | (go_simp; rfl)); intro gb149 hg w14 hbox hb; have BK149 := Aside0.mk (hbox); have GW149 := Aside0.mk ((by rw [hg]; exact (below_size (bnow HB)) : w.heap.size ≤ gb149)); have GE149 := Aside0.mk ((by rw [hg]; exact (below_size (bnow HB)) : w.heap.size ≤ gb149)); have NB148_149 := Aside0.mk ((by rw [hg]; exact Nat.ne_of_lt (blk_lt (g := gb148) (o := .cells #[.int .i64 a0_0, .int .i64 a0_1] 81 (0, 0)) (pk BK148)) : gb148 ≠ gb149)); have NB149_148 := Aside0.mk ((by rw [hg]; exact Nat.ne_of_gt (blk_lt (g := gb148) (o := .cells #[.int .i64 a0_0, .int .i64 a0_1] 81 (0, 0)) (pk BK148)) : gb149 ≠ gb148)); replace BK148 := bb BK148 hb; replace HB := bst HB hb; clear hb hbox hg) | ((with_reducible refine gate_dst (N := 5) rfl ?_); refine box_event ?hg (N := 5) ?hd (cs := #[.int .i64 a2_0, .int .i64 a2_1]) (t := 81) ?hr ?_; (case hd => rfl); (case hg => rfl); (case hr => first | (go_simp; done) | (go_simp; rfl)); intro gb150 hg w15 hbox hb; have BK150 := Aside0.mk (hbox); have GW150 := Aside0.mk ((by rw [hg]; exact (below_size (bnow HB)) : w.heap.size ≤ gb150)); have GE150 := Aside0.mk ((by rw [hg]; exact (below_size (bnow HB)) : w.heap.size ≤ gb150)); have NB148_150 := Aside0.mk ((by rw [hg]; exact Nat.ne_of_lt (blk_lt (g := gb148) (o := .cells #[.int .i64 a0_0, .int .i64 a0_1] 81 (0, 0)) (pk BK148)) : gb148 ≠ gb150)); have NB150_148 := Aside0.mk ((by rw [hg]; exact Nat.ne_of_gt (blk_lt (g := gb148) (o := .cells #[.int .i64 a0_0, .int .i64 a0_1] 81 (0, 0)) (pk BK148)) : gb150 ≠ gb148)); have NB149_150 := Aside0.mk ((by rw [hg]; exact Nat.ne_of_lt (blk_lt (g := gb149) (o := .cells #[.int .i64 a1_0, .int .i64 a1_1, .int .i64 a1_2] 23 (0, 0)) (pk BK149)) : gb149 ≠ gb150)); have NB150_149 := Aside0.mk ((by rw [hg]; exact Nat.ne_of_gt (blk_lt (g := gb149) (o := .cells #[.int .i64 a1_0, .int .i64 a1_1, .int .i64 a1_2] 23 (0, 0)) (pk BK149)) : gb150 ≠ gb149)); replace BK148 := bb BK148 hb; replace BK149 := bb BK149 hb; replace HB := bst HB hb; clear hb hbox hg; have hnb16 := NB148_149.out; have hnc16 := NB149_148.out; have hnb17 := NB148_150.out; have hnc17 := NB150_148.out; have hcz18_0 : w15.cell? ⟨gb148, 0, none⟩ = some (.int .i64 a0_0) := (blk_cell BK148.out 0).trans rfl; have hcz18_1 : w15.cell? ⟨gb148, 1, none⟩ = some (.int .i64 a0_1) := (blk_cell BK148.out 1).trans rfl; have hfz18_0 := blk_frozen BK148.out 0; have hfz18_1 := blk_frozen BK148.out 1; have hnb19 := NB149_150.out; have hnc19 := NB150_149.out; have hcz20_0 : w15.cell? ⟨gb149, 0, none⟩ = some (.int .i64 a1_0) := (blk_cell BK149.out 0).trans rfl; have hcz20_1 : w15.cell? ⟨gb149, 1, none⟩ = some (.int .i64 a1_1) := (blk_cell BK149.out 1).trans rfl; have hcz20_2 : w15.cell? ⟨gb149, 2, none⟩ = some (.int .i64 a1_2) := (blk_cell BK149.out 2).trans rfl; have hfz20_0 := blk_frozen BK149.out 0; have hfz20_1 := blk_frozen BK149.out 1; have hfz20_2 := blk_frozen BK149.out 2; have hcz21_0 : w15.cell? ⟨gb150, 0, none⟩ = some (.int .i64 a2_0) := (blk_cell BK150.out 0).trans rfl; have hcz21_1 : w15.cell? ⟨gb150, 1, none⟩ = some (.int .i64 a2_1) := (blk_cell BK150.out 1).trans rfl; have hfz21_0 := blk_frozen BK150.out 0; have hfz21_1 := blk_frozen BK150.out 1))
  go_ret
  exact ⟨by first | rfl | (simp [errW_none, errW_some] <;> rfl) | (simp [*, errW_none, errW_some] <;> rfl), by repeat (first | (with_reducible first | exact HB.out | apply below_alloc | apply pw_below_drewN | apply below_drew1 | refine below_set ?_ GE148.out | refine below_set ?_ GE149.out | refine below_set ?_ GE150.out) | exact HB.out)⟩
end
section
/-! ### grids_lead: function 60 -/
def grids_lead.f (a0_0 : Int) (a0_1 : Int) (a0_2 : Int) (a1_0 : Int) (a1_1 : Int) (a1_2 : Int) (a1_3 : Int) : Option (Int × Int × Int) := (grids_step_product.f a1_0 a1_2 a0_0 a0_1 a0_2 a1_0 a1_2).bind fun t165 => ((grids_step_product.f a1_0 a1_2 a0_0 a0_1 a0_2 a1_1 a1_3).bind fun t166 => ((grids_step_product.f a1_1 a1_3 a0_0 a0_1 a0_2 a1_1 a1_3).bind fun t167 => (some (t165, t166, t167))))
def grids_lead.T1 : Bool × List (List Nat × List Nat) := (true, [([], []), ([0], [0]), ([], []), ([2], [2]), ([1, 3], [1, 3]), ([], []), ([5], [5]), ([], []), ([7], [7]), ([6, 8], [6, 8]), ([], []), ([], []), ([10, 4, 0, 1, 2, 3, 4, 10, 11], [4, 10]), ([11, 9, 12, 0, 1, 2, 3, 4, 5, 6, 7, 8, 9, 10, 11, 12], [9, 11])])
def grids_lead.B1 : List Nat := [0, 1, 0, 4, 15, 0, 32, 0, 128, 480, 0, 0, 3103, 8191]
theorem grids_lead.tab1 : rtab .any (opsOf Try.f60 1) = grids_lead.T1 := by kernel_rfl
theorem grids_lead.bits1 : waitsOk grids_lead.T1.2 grids_lead.B1 = true := by kernel_rfl
def grids_lead.T2 : Bool × List (List Nat × List Nat) := (true, [([], []), ([], []), ([], []), ([0, 1, 2], [0, 1, 2]), ([], []), ([], []), ([], []), ([4, 5, 6, 3], [4, 5, 6]), ([], []), ([], []), ([], []), ([8, 9, 10, 7], [8, 9, 10]), ([3, 7, 11], [3, 7, 11]), ([12, 11, 0, 1, 2, 3, 4, 5, 6, 7, 8, 9, 10, 11, 12], [12])])
def grids_lead.B2 : List Nat := [0, 0, 0, 7, 0, 0, 0, 127, 0, 0, 0, 2047, 4095, 8191]
theorem grids_lead.tab2 : rtab .any (opsOf Try.f60 2) = grids_lead.T2 := by kernel_rfl
theorem grids_lead.bits2 : waitsOk grids_lead.T2.2 grids_lead.B2 = true := by kernel_rfl
set_option maxHeartbeats 8000000 in
set_option maxRecDepth 100000 in
theorem grids_lead.calls (a0_0 : Int) (a0_1 : Int) (a0_2 : Int) (a1_0 : Int) (a1_1 : Int) (a1_2 : Int) (a1_3 : Int) (r1 : Int) (r2 : Int) (r3 : Int) (w : World) (h : grids_lead.f a0_0 a0_1 a0_2 a1_0 a1_1 a1_2 a1_3 = some (r1, r2, r3)) :
    Calls Try.prog 60 #[.agg #[.int .i64 a0_0, .int .i64 a0_1, .int .i64 a0_2], .agg #[.int .i64 a1_0, .int .i64 a1_1, .int .i64 a1_2, .int .i64 a1_3]] w fun e w' => e = .returned (.agg #[.int .i64 r1, .int .i64 r2, .int .i64 r3]) ∧ Below w.heap.size w w' := by
  have hu23 := Try.underlying23
  have hu25 := Try.underlying25
  have hu81 := Try.underlying81
  have HB := Aside0.mk (Below.refl w.heap.size w)
  have H : ((grids_step_product.f a1_0 a1_2 a0_0 a0_1 a0_2 a1_0 a1_2).bind fun t165 => ((grids_step_product.f a1_0 a1_2 a0_0 a0_1 a0_2 a1_1 a1_3).bind fun t166 => ((grids_step_product.f a1_1 a1_3 a0_0 a0_1 a0_2 a1_1 a1_3).bind fun t167 => (some (t165, t166, t167))))) = some (r1, r2, r3) := h
  clear h
  replace H := Option.bind_eq_some_iff.mp H
  obtain ⟨t165, A30, H⟩ := H
  replace H : ((grids_step_product.f a1_0 a1_2 a0_0 a0_1 a0_2 a1_1 a1_3).bind fun t166 => ((grids_step_product.f a1_1 a1_3 a0_0 a0_1 a0_2 a1_1 a1_3).bind fun t167 => (some (t165, t166, t167)))) = some (r1, r2, r3) := H
  have A3 := Aside0.mk A30
  clear A30
  replace H := Option.bind_eq_some_iff.mp H
  obtain ⟨t166, A40, H⟩ := H
  replace H : ((grids_step_product.f a1_1 a1_3 a0_0 a0_1 a0_2 a1_1 a1_3).bind fun t167 => (some (t165, t166, t167))) = some (r1, r2, r3) := H
  have A4 := Aside0.mk A40
  clear A40
  replace H := Option.bind_eq_some_iff.mp H
  obtain ⟨t167, A50, H⟩ := H
  replace H : (some (t165, t166, t167)) = some (r1, r2, r3) := H
  have A5 := Aside0.mk A50
  clear A50
  simp only [Option.some.injEq, Prod.mk.injEq] at H
  obtain ⟨rfl, rfl, rfl⟩ := H
  go_enter Try.func60, Try.ntmps60
  try go_wp2_with (first | ((with_reducible refine gate_dst (N := 2) rfl ?_); refine box_event ?hg (N := 2) ?hd (cs := #[.int .i64 a0_0, .int .i64 a0_1, .int .i64 a0_2]) (t := 23) ?hr ?_; (case hd => rfl); (case hg => rfl); (case hr => first | (go_simp; done) | (go_simp; rfl)); intro gb160 hg w6 hbox hb; have BK160 := Aside0.mk (hbox); have GW160 := Aside0.mk ((by rw [hg]; exact (below_size (bnow HB)) : w.heap.size ≤ gb160)); have GE160 := Aside0.mk ((by rw [hg]; exact (below_size (bnow HB)) : w.heap.size ≤ gb160)); replace HB := bst HB hb; clear hb hbox hg) | ((with_reducible refine gate_dst (N := 3) rfl ?_); refine box_event ?hg (N := 3) ?hd (cs := #[.int .i64 a1_0, .int .i64 a1_1, .int .i64 a1_2, .int .i64 a1_3]) (t := 25) ?hr ?_; (case hd => rfl); (case hg => rfl); (case hr => first | (go_simp; done) | (go_simp; rfl)); intro gb161 hg w7 hbox hb; have BK161 := Aside0.mk (hbox); have GW161 := Aside0.mk ((by rw [hg]; exact (below_size (bnow HB)) : w.heap.size ≤ gb161)); have GE161 := Aside0.mk ((by rw [hg]; exact (below_size (bnow HB)) : w.heap.size ≤ gb161)); have NB160_161 := Aside0.mk ((by rw [hg]; exact Nat.ne_of_lt (blk_lt (g := gb160) (o := .cells #[.int .i64 a0_0, .int .i64 a0_1, .int .i64 a0_2] 23 (0, 0)) (pk BK160)) : gb160 ≠ gb161)); have NB161_160 := Aside0.mk ((by rw [hg]; exact Nat.ne_of_gt (blk_lt (g := gb160) (o := .cells #[.int .i64 a0_0, .int .i64 a0_1, .int .i64 a0_2] 23 (0, 0)) (pk BK160)) : gb161 ≠ gb160)); replace BK160 := bb BK160 hb; replace HB := bst HB hb; clear hb hbox hg) | ((with_reducible refine gate_dst (N := 4) rfl ?_); refine box_event ?hg (N := 4) ?hd (cs := #[.int .i64 0, .int .i64 0, .int .i64 0]) (t := 23) ?hr ?_; (case hd => rfl); (case hg => rfl); (case hr => first | (go_simp; done) | (go_simp; rfl)); intro gb162 hg w8 hbox hb; have BK162 := Aside0.mk (hbox); have GW162 := Aside0.mk ((by rw [hg]; exact (below_size (bnow HB)) : w.heap.size ≤ gb162)); have GE162 := Aside0.mk ((by rw [hg]; exact (below_size (bnow HB)) : w.heap.size ≤ gb162)); have NB160_162 := Aside0.mk ((by rw [hg]; exact Nat.ne_of_lt (blk_lt (g := gb160) (o := .cells #[.int .i64 a0_0, .int .i64 a0_1, .int .i64 a0_2] 23 (0, 0)) (pk BK160)) : gb160 ≠ gb162)); have NB162_160 := Aside0.mk ((by rw [hg]; exact Nat.ne_of_gt (blk_lt (g := gb160) (o := .cells #[.int .i64 a0_0, .int .i64 a0_1, .int .i64 a0_2] 23 (0, 0)) (pk BK160)) : gb162 ≠ gb160)); have NB161_162 := Aside0.mk ((by rw [hg]; exact Nat.ne_of_lt (blk_lt (g := gb161) (o := .cells #[.int .i64 a1_0, .int .i64 a1_1, .int .i64 a1_2, .int .i64 a1_3] 25 (0, 0)) (pk BK161)) : gb161 ≠ gb162)); have NB162_161 := Aside0.mk ((by rw [hg]; exact Nat.ne_of_gt (blk_lt (g := gb161) (o := .cells #[.int .i64 a1_0, .int .i64 a1_1, .int .i64 a1_2, .int .i64 a1_3] 25 (0, 0)) (pk BK161)) : gb162 ≠ gb161)); replace BK160 := bb BK160 hb; replace BK161 := bb BK161 hb; replace HB := bst HB hb; clear hb hbox hg))
  have n0_ := Aside0.mk (blk_drew BK160.out)
  have n1_ := Aside0.mk (blk_drew BK161.out)
  have n2_ := Aside0.mk (blk_drew BK162.out)
  have n3_ := Aside0.mk (below_drew1 HB.out)
  clear BK160
  clear BK161
  clear BK162
  clear HB
  have BK160 := n0_
  have BK161 := n1_
  have BK162 := n2_
  have HB := n3_
  clear n0_ n1_ n2_ n3_
  refine start_ (n := 14) (S := fun w' => True) (ds := []) #[false, false, false, false, false, false, false, false, false, false, false, false, false, false] (by kernel_rfl) rfl rfl trivial (fun hHeld => ?_); refine with_tabW grids_lead.tab1 grids_lead.bits1 (fun HT_ HW_ => ?_)
  generalize w8.drew = w9 at BK160 BK161 BK162 HB hHeld ⊢
  refine pure_ (i := 0) (N := some 7) (v := ?_) (a' := ?_) #[true, false, false, false, false, false, false, false, false, false, false, false, false, false] rfl rfl (any_of HT_.out (by kernel_rfl)) (fun _ _ _ h => h) (Or.inl ⟨by rfl, ?_⟩) ?_ ?_
  rotate_left
  · intro w'
    go_simp
    with_reducible rfl
  rotate_left
  · simp only [Act.put, List.setIfInBounds_toArray, List.set_cons_zero, List.set_cons_succ, i64_w, i32_w]
    rfl
  refine pure_ (i := 2) (N := some 9) (v := ?_) (a' := ?_) #[true, false, true, false, false, false, false, false, false, false, false, false, false, false] rfl rfl (any_of HT_.out (by kernel_rfl)) (fun _ _ _ h => h) (Or.inl ⟨by rfl, ?_⟩) ?_ ?_
  rotate_left
  · intro w'
    go_simp
    with_reducible rfl
  rotate_left
  · simp only [Act.put, List.setIfInBounds_toArray, List.set_cons_zero, List.set_cons_succ, i64_w, i32_w]
    rfl
  refine pure_ (i := 5) (N := some 12) (v := ?_) (a' := ?_) #[true, false, true, false, false, true, false, false, false, false, false, false, false, false] rfl rfl (any_of HT_.out (by kernel_rfl)) (fun _ _ _ h => h) (Or.inl ⟨by rfl, ?_⟩) ?_ ?_
  rotate_left
  · intro w'
    go_simp
    with_reducible rfl
  rotate_left
  · simp only [Act.put, List.setIfInBounds_toArray, List.set_cons_zero, List.set_cons_succ, i64_w, i32_w]
    rfl
  refine pure_ (i := 7) (N := some 14) (v := ?_) (a' := ?_) #[true, false, true, false, false, true, false, true, false, false, false, false, false, false] rfl rfl (any_of HT_.out (by kernel_rfl)) (fun _ _ _ h => h) (Or.inl ⟨by rfl, ?_⟩) ?_ ?_
  rotate_left
  · intro w'
    go_simp
    with_reducible rfl
  rotate_left
  · simp only [Act.put, List.setIfInBounds_toArray, List.set_cons_zero, List.set_cons_succ, i64_w, i32_w]
    rfl
  refine inv_at [1, 3, 4, 6, 8, 9, 10, 11, 12, 13] (fun a0_ b a w' => ∃ (gb163 : Nat) (gb164 : Nat) (m10_ : Value) (m11_ : Value), a = putSel a0_ b [(1, 8, .int .i64 a1_0), (3, 10, .int .i64 a1_2), (4, 11, .agg #[.int .i64 a1_0, .int .i64 a1_2]), (6, 13, .int .i64 a1_1), (8, 15, .int .i64 a1_3), (9, 16, .agg #[.int .i64 a1_1, .int .i64 a1_3]), (10, 5, m10_), (11, 6, m11_)] ∧ (w'.heap[gb160]? = some (.cells #[.int .i64 a0_0, .int .i64 a0_1, .int .i64 a0_2] 23 (0, 0))) ∧ (w'.heap[gb161]? = some (.cells #[.int .i64 a1_0, .int .i64 a1_1, .int .i64 a1_2, .int .i64 a1_3] 25 (0, 0))) ∧ (w'.heap[gb162]? = some (.cells #[.int .i64 0, .int .i64 0, .int .i64 0] 23 (0, 0))) ∧ (Below w.heap.size w w') ∧ (b 10 = true → b 11 = true → gb164 ≠ gb163) ∧ (b 10 = true → b 11 = true → gb163 ≠ gb164) ∧ (b 10 = true → b 12 = false → w'.heap[gb163]? = some (.cells #[.int .i64 0, .int .i64 0] 81 (0, 0))) ∧ (b 10 = true → w.heap.size ≤ gb163) ∧ (b 10 = true → w.heap.size ≤ gb163) ∧ (b 10 = true → gb160 ≠ gb163) ∧ (b 10 = true → gb163 ≠ gb160) ∧ (b 10 = true → gb161 ≠ gb163) ∧ (b 10 = true → gb163 ≠ gb161) ∧ (b 10 = true → gb162 ≠ gb163) ∧ (b 10 = true → gb163 ≠ gb162) ∧ (b 11 = true → b 13 = false → w'.heap[gb164]? = some (.cells #[.int .i64 0, .int .i64 0] 81 (0, 0))) ∧ (b 11 = true → w.heap.size ≤ gb164) ∧ (b 11 = true → w.heap.size ≤ gb164) ∧ (b 11 = true → gb160 ≠ gb164) ∧ (b 11 = true → gb164 ≠ gb160) ∧ (b 11 = true → gb161 ≠ gb164) ∧ (b 11 = true → gb164 ≠ gb161) ∧ (b 11 = true → gb162 ≠ gb164) ∧ (b 11 = true → gb164 ≠ gb162) ∧ (b 12 = true → w'.heap[gb163]? = some (.cells #[.int .i64 a1_0, .int .i64 a1_2] 81 (0, 0))) ∧ (b 13 = true → w'.heap[gb164]? = some (.cells #[.int .i64 a1_1, .int .i64 a1_3] 81 (0, 0))) ∧ (b 10 = true → (m10_ : Value) = .pointer (some ⟨gb163, 0, none⟩)) ∧ (b 11 = true → (m11_ : Value) = .pointer (some ⟨gb164, 0, none⟩))) HT_.out HW_.out (by kernel_rfl) (by kernel_rfl) ?_ ?_ ?_
  · exact ⟨0, 0, .bool false, .bool false, by simp only [putSel, Bool.false_eq_true, if_false], BK160.out, BK161.out, BK162.out, HB.out, fun h_ => absurd h_ (by decide), fun h_ => absurd h_ (by decide), fun h_ => absurd h_ (by decide), fun h_ => absurd h_ (by decide), fun h_ => absurd h_ (by decide), fun h_ => absurd h_ (by decide), fun h_ => absurd h_ (by decide), fun h_ => absurd h_ (by decide), fun h_ => absurd h_ (by decide), fun h_ => absurd h_ (by decide), fun h_ => absurd h_ (by decide), fun h_ => absurd h_ (by decide), fun h_ => absurd h_ (by decide), fun h_ => absurd h_ (by decide), fun h_ => absurd h_ (by decide), fun h_ => absurd h_ (by decide), fun h_ => absurd h_ (by decide), fun h_ => absurd h_ (by decide), fun h_ => absurd h_ (by decide), fun h_ => absurd h_ (by decide), fun h_ => absurd h_ (by decide), fun h_ => absurd h_ (by decide), fun h_ => absurd h_ (by decide), fun h_ => absurd h_ (by decide)⟩
  · skip
    clear BK160 BK161 BK162 HB
    refine steps_cons ?_ ?_
    · rintro b a w' ⟨gb163, gb164, m10_, m11_, ha, Q_BK160, Q_BK161, Q_BK162, Q_HB, Q_NB164_163, Q_NB163_164, Q_BK163, Q_GW163, Q_GE163, Q_NB160_163, Q_NB163_160, Q_NB161_163, Q_NB163_161, Q_NB162_163, Q_NB163_162, Q_BK164, Q_GW164, Q_GE164, Q_NB160_164, Q_NB164_160, Q_NB161_164, Q_NB164_161, Q_NB162_164, Q_NB164_162, Q_BK163_e12, Q_BK164_e13, Q_X10_, Q_X11_⟩ hb_ hon hoff
      refine ⟨_, rfl, fun K hK => ?_⟩
      have e7 : a.tmps[7]? = some (.pointer (some ⟨gb161, 0, none⟩)) := by rw [ha]; exact (putSel_off rfl).trans rfl
      replace ha := Aside0.mk ha
      have BK160 := Aside0.mk Q_BK160
      have BK161 := Aside0.mk Q_BK161
      have BK162 := Aside0.mk Q_BK162
      have HB := Aside0.mk Q_HB
      have hc0_ : w'.cell? ⟨gb161, 0, none⟩ = some (.int .i64 a1_0) := (blk_cell BK161.out 0).trans rfl
      have hc1_ : w'.cell? ⟨gb161, 1, none⟩ = some (.int .i64 a1_1) := (blk_cell BK161.out 1).trans rfl
      have hc2_ : w'.cell? ⟨gb161, 2, none⟩ = some (.int .i64 a1_2) := (blk_cell BK161.out 2).trans rfl
      have hc3_ : w'.cell? ⟨gb161, 3, none⟩ = some (.int .i64 a1_3) := (blk_cell BK161.out 3).trans rfl
      refine value_ (w1 := w') (v := .int .i64 a1_0) (by rfl) rfl ?_ ?_
      · go_simp
        (try simp only [i64_w])
        try rfl
      refine hK.out _ _ ⟨gb163, gb164, m10_, m11_, (by rw [ha.out]; exact putSel_upk 0 hb_ rfl rfl rfl), Q_BK160, Q_BK161, Q_BK162, Q_HB, Q_NB164_163, Q_NB163_164, Q_BK163, Q_GW163, Q_GE163, Q_NB160_163, Q_NB163_160, Q_NB161_163, Q_NB163_161, Q_NB162_163, Q_NB163_162, Q_BK164, Q_GW164, Q_GE164, Q_NB160_164, Q_NB164_160, Q_NB161_164, Q_NB164_161, Q_NB162_164, Q_NB164_162, fun h0_ => absurd ((hoff 12 (by kernel_rfl)).symm.trans h0_) (by decide), fun h0_ => absurd ((hoff 13 (by kernel_rfl)).symm.trans h0_) (by decide), Q_X10_, Q_X11_⟩
    refine steps_cons ?_ ?_
    · rintro b a w' ⟨gb163, gb164, m10_, m11_, ha, Q_BK160, Q_BK161, Q_BK162, Q_HB, Q_NB164_163, Q_NB163_164, Q_BK163, Q_GW163, Q_GE163, Q_NB160_163, Q_NB163_160, Q_NB161_163, Q_NB163_161, Q_NB162_163, Q_NB163_162, Q_BK164, Q_GW164, Q_GE164, Q_NB160_164, Q_NB164_160, Q_NB161_164, Q_NB164_161, Q_NB162_164, Q_NB164_162, Q_BK163_e12, Q_BK164_e13, Q_X10_, Q_X11_⟩ hb_ hon hoff
      refine ⟨_, rfl, fun K hK => ?_⟩
      have e9 : a.tmps[9]? = some (.pointer (some ⟨gb161, 2, none⟩)) := by rw [ha]; exact (putSel_off rfl).trans rfl
      replace ha := Aside0.mk ha
      have BK160 := Aside0.mk Q_BK160
      have BK161 := Aside0.mk Q_BK161
      have BK162 := Aside0.mk Q_BK162
      have HB := Aside0.mk Q_HB
      have hc0_ : w'.cell? ⟨gb161, 0, none⟩ = some (.int .i64 a1_0) := (blk_cell BK161.out 0).trans rfl
      have hc1_ : w'.cell? ⟨gb161, 1, none⟩ = some (.int .i64 a1_1) := (blk_cell BK161.out 1).trans rfl
      have hc2_ : w'.cell? ⟨gb161, 2, none⟩ = some (.int .i64 a1_2) := (blk_cell BK161.out 2).trans rfl
      have hc3_ : w'.cell? ⟨gb161, 3, none⟩ = some (.int .i64 a1_3) := (blk_cell BK161.out 3).trans rfl
      refine value_ (w1 := w') (v := .int .i64 a1_2) (by rfl) rfl ?_ ?_
      · go_simp
        (try simp only [i64_w])
        try rfl
      refine hK.out _ _ ⟨gb163, gb164, m10_, m11_, (by rw [ha.out]; exact putSel_upk 1 hb_ rfl rfl rfl), Q_BK160, Q_BK161, Q_BK162, Q_HB, Q_NB164_163, Q_NB163_164, Q_BK163, Q_GW163, Q_GE163, Q_NB160_163, Q_NB163_160, Q_NB161_163, Q_NB163_161, Q_NB162_163, Q_NB163_162, Q_BK164, Q_GW164, Q_GE164, Q_NB160_164, Q_NB164_160, Q_NB161_164, Q_NB164_161, Q_NB162_164, Q_NB164_162, fun h0_ => absurd ((hoff 12 (by kernel_rfl)).symm.trans h0_) (by decide), fun h0_ => absurd ((hoff 13 (by kernel_rfl)).symm.trans h0_) (by decide), Q_X10_, Q_X11_⟩
    refine steps_cons ?_ ?_
    · rintro b a w' ⟨gb163, gb164, m10_, m11_, ha, Q_BK160, Q_BK161, Q_BK162, Q_HB, Q_NB164_163, Q_NB163_164, Q_BK163, Q_GW163, Q_GE163, Q_NB160_163, Q_NB163_160, Q_NB161_163, Q_NB163_161, Q_NB162_163, Q_NB163_162, Q_BK164, Q_GW164, Q_GE164, Q_NB160_164, Q_NB164_160, Q_NB161_164, Q_NB164_161, Q_NB162_164, Q_NB164_162, Q_BK163_e12, Q_BK164_e13, Q_X10_, Q_X11_⟩ hb_ hon hoff
      refine ⟨_, rfl, fun K hK => ?_⟩
      have e8 : a.tmps[8]? = some (.int .i64 a1_0) := by rw [ha]; exact putSel_on (e := (1, 8, .int .i64 a1_0)) 0 rfl rfl (hon 1 (by kernel_rfl)) rfl
      have e10 : a.tmps[10]? = some (.int .i64 a1_2) := by rw [ha]; exact putSel_on (e := (3, 10, .int .i64 a1_2)) 1 rfl rfl (hon 3 (by kernel_rfl)) rfl
      replace ha := Aside0.mk ha
      have BK160 := Aside0.mk Q_BK160
      have BK161 := Aside0.mk Q_BK161
      have BK162 := Aside0.mk Q_BK162
      have HB := Aside0.mk Q_HB
      refine value_ (w1 := w') (v := .agg #[.int .i64 a1_0, .int .i64 a1_2]) (by rfl) rfl ?_ ?_
      · go_simp
        (try simp only [i64_w])
        try rfl
      refine hK.out _ _ ⟨gb163, gb164, m10_, m11_, (by rw [ha.out]; exact putSel_upk 2 hb_ rfl rfl rfl), Q_BK160, Q_BK161, Q_BK162, Q_HB, Q_NB164_163, Q_NB163_164, Q_BK163, Q_GW163, Q_GE163, Q_NB160_163, Q_NB163_160, Q_NB161_163, Q_NB163_161, Q_NB162_163, Q_NB163_162, Q_BK164, Q_GW164, Q_GE164, Q_NB160_164, Q_NB164_160, Q_NB161_164, Q_NB164_161, Q_NB162_164, Q_NB164_162, fun h0_ => absurd ((hoff 12 (by kernel_rfl)).symm.trans h0_) (by decide), fun h0_ => absurd ((hoff 13 (by kernel_rfl)).symm.trans h0_) (by decide), Q_X10_, Q_X11_⟩
    refine steps_cons ?_ ?_
    · rintro b a w' ⟨gb163, gb164, m10_, m11_, ha, Q_BK160, Q_BK161, Q_BK162, Q_HB, Q_NB164_163, Q_NB163_164, Q_BK163, Q_GW163, Q_GE163, Q_NB160_163, Q_NB163_160, Q_NB161_163, Q_NB163_161, Q_NB162_163, Q_NB163_162, Q_BK164, Q_GW164, Q_GE164, Q_NB160_164, Q_NB164_160, Q_NB161_164, Q_NB164_161, Q_NB162_164, Q_NB164_162, Q_BK163_e12, Q_BK164_e13, Q_X10_, Q_X11_⟩ hb_ hon hoff
      refine ⟨_, rfl, fun K hK => ?_⟩
      have e12 : a.tmps[12]? = some (.pointer (some ⟨gb161, 1, none⟩)) := by rw [ha]; exact (putSel_off rfl).trans rfl
      replace ha := Aside0.mk ha
      have BK160 := Aside0.mk Q_BK160
      have BK161 := Aside0.mk Q_BK161
      have BK162 := Aside0.mk Q_BK162
      have HB := Aside0.mk Q_HB
      have hc0_ : w'.cell? ⟨gb161, 0, none⟩ = some (.int .i64 a1_0) := (blk_cell BK161.out 0).trans rfl
      have hc1_ : w'.cell? ⟨gb161, 1, none⟩ = some (.int .i64 a1_1) := (blk_cell BK161.out 1).trans rfl
      have hc2_ : w'.cell? ⟨gb161, 2, none⟩ = some (.int .i64 a1_2) := (blk_cell BK161.out 2).trans rfl
      have hc3_ : w'.cell? ⟨gb161, 3, none⟩ = some (.int .i64 a1_3) := (blk_cell BK161.out 3).trans rfl
      refine value_ (w1 := w') (v := .int .i64 a1_1) (by rfl) rfl ?_ ?_
      · go_simp
        (try simp only [i64_w])
        try rfl
      refine hK.out _ _ ⟨gb163, gb164, m10_, m11_, (by rw [ha.out]; exact putSel_upk 3 hb_ rfl rfl rfl), Q_BK160, Q_BK161, Q_BK162, Q_HB, Q_NB164_163, Q_NB163_164, Q_BK163, Q_GW163, Q_GE163, Q_NB160_163, Q_NB163_160, Q_NB161_163, Q_NB163_161, Q_NB162_163, Q_NB163_162, Q_BK164, Q_GW164, Q_GE164, Q_NB160_164, Q_NB164_160, Q_NB161_164, Q_NB164_161, Q_NB162_164, Q_NB164_162, Q_BK163_e12, fun h0_ => absurd ((hoff 13 (by kernel_rfl)).symm.trans h0_) (by decide), Q_X10_, Q_X11_⟩
    refine steps_cons ?_ ?_
    · rintro b a w' ⟨gb163, gb164, m10_, m11_, ha, Q_BK160, Q_BK161, Q_BK162, Q_HB, Q_NB164_163, Q_NB163_164, Q_BK163, Q_GW163, Q_GE163, Q_NB160_163, Q_NB163_160, Q_NB161_163, Q_NB163_161, Q_NB162_163, Q_NB163_162, Q_BK164, Q_GW164, Q_GE164, Q_NB160_164, Q_NB164_160, Q_NB161_164, Q_NB164_161, Q_NB162_164, Q_NB164_162, Q_BK163_e12, Q_BK164_e13, Q_X10_, Q_X11_⟩ hb_ hon hoff
      refine ⟨_, rfl, fun K hK => ?_⟩
      have e14 : a.tmps[14]? = some (.pointer (some ⟨gb161, 3, none⟩)) := by rw [ha]; exact (putSel_off rfl).trans rfl
      replace ha := Aside0.mk ha
      have BK160 := Aside0.mk Q_BK160
      have BK161 := Aside0.mk Q_BK161
      have BK162 := Aside0.mk Q_BK162
      have HB := Aside0.mk Q_HB
      have hc0_ : w'.cell? ⟨gb161, 0, none⟩ = some (.int .i64 a1_0) := (blk_cell BK161.out 0).trans rfl
      have hc1_ : w'.cell? ⟨gb161, 1, none⟩ = some (.int .i64 a1_1) := (blk_cell BK161.out 1).trans rfl
      have hc2_ : w'.cell? ⟨gb161, 2, none⟩ = some (.int .i64 a1_2) := (blk_cell BK161.out 2).trans rfl
      have hc3_ : w'.cell? ⟨gb161, 3, none⟩ = some (.int .i64 a1_3) := (blk_cell BK161.out 3).trans rfl
      refine value_ (w1 := w') (v := .int .i64 a1_3) (by rfl) rfl ?_ ?_
      · go_simp
        (try simp only [i64_w])
        try rfl
      refine hK.out _ _ ⟨gb163, gb164, m10_, m11_, (by rw [ha.out]; exact putSel_upk 4 hb_ rfl rfl rfl), Q_BK160, Q_BK161, Q_BK162, Q_HB, Q_NB164_163, Q_NB163_164, Q_BK163, Q_GW163, Q_GE163, Q_NB160_163, Q_NB163_160, Q_NB161_163, Q_NB163_161, Q_NB162_163, Q_NB163_162, Q_BK164, Q_GW164, Q_GE164, Q_NB160_164, Q_NB164_160, Q_NB161_164, Q_NB164_161, Q_NB162_164, Q_NB164_162, Q_BK163_e12, fun h0_ => absurd ((hoff 13 (by kernel_rfl)).symm.trans h0_) (by decide), Q_X10_, Q_X11_⟩
    refine steps_cons ?_ ?_
    · rintro b a w' ⟨gb163, gb164, m10_, m11_, ha, Q_BK160, Q_BK161, Q_BK162, Q_HB, Q_NB164_163, Q_NB163_164, Q_BK163, Q_GW163, Q_GE163, Q_NB160_163, Q_NB163_160, Q_NB161_163, Q_NB163_161, Q_NB162_163, Q_NB163_162, Q_BK164, Q_GW164, Q_GE164, Q_NB160_164, Q_NB164_160, Q_NB161_164, Q_NB164_161, Q_NB162_164, Q_NB164_162, Q_BK163_e12, Q_BK164_e13, Q_X10_, Q_X11_⟩ hb_ hon hoff
      refine ⟨_, rfl, fun K hK => ?_⟩
      have e13 : a.tmps[13]? = some (.int .i64 a1_1) := by rw [ha]; exact putSel_on (e := (6, 13, .int .i64 a1_1)) 3 rfl rfl (hon 6 (by kernel_rfl)) rfl
      have e15 : a.tmps[15]? = some (.int .i64 a1_3) := by rw [ha]; exact putSel_on (e := (8, 15, .int .i64 a1_3)) 4 rfl rfl (hon 8 (by kernel_rfl)) rfl
      replace ha := Aside0.mk ha
      have BK160 := Aside0.mk Q_BK160
      have BK161 := Aside0.mk Q_BK161
      have BK162 := Aside0.mk Q_BK162
      have HB := Aside0.mk Q_HB
      refine value_ (w1 := w') (v := .agg #[.int .i64 a1_1, .int .i64 a1_3]) (by rfl) rfl ?_ ?_
      · go_simp
        (try simp only [i64_w])
        try rfl
      refine hK.out _ _ ⟨gb163, gb164, m10_, m11_, (by rw [ha.out]; exact putSel_upk 5 hb_ rfl rfl rfl), Q_BK160, Q_BK161, Q_BK162, Q_HB, Q_NB164_163, Q_NB163_164, Q_BK163, Q_GW163, Q_GE163, Q_NB160_163, Q_NB163_160, Q_NB161_163, Q_NB163_161, Q_NB162_163, Q_NB163_162, Q_BK164, Q_GW164, Q_GE164, Q_NB160_164, Q_NB164_160, Q_NB161_164, Q_NB164_161, Q_NB162_164, Q_NB164_162, Q_BK163_e12, fun h0_ => absurd ((hoff 13 (by kernel_rfl)).symm.trans h0_) (by decide), Q_X10_, Q_X11_⟩
    refine steps_cons ?_ ?_
    · rintro b a w' ⟨gb163, gb164, m10_, m11_, ha, Q_BK160, Q_BK161, Q_BK162, Q_HB, Q_NB164_163, Q_NB163_164, Q_BK163, Q_GW163, Q_GE163, Q_NB160_163, Q_NB163_160, Q_NB161_163, Q_NB163_161, Q_NB162_163, Q_NB163_162, Q_BK164, Q_GW164, Q_GE164, Q_NB160_164, Q_NB164_160, Q_NB161_164, Q_NB164_161, Q_NB162_164, Q_NB164_162, Q_BK163_e12, Q_BK164_e13, Q_X10_, Q_X11_⟩ hb_ hon hoff
      refine ⟨_, rfl, fun K hK => ?_⟩
      replace ha := Aside0.mk ha
      have BK160 := Aside0.mk Q_BK160
      have BK161 := Aside0.mk Q_BK161
      have BK162 := Aside0.mk Q_BK162
      have HB := Aside0.mk Q_HB
      refine box_step ?hg (N := 5) ?hd (cs := #[.int .i64 0, .int .i64 0]) (t := 81) ?hr ?_; (case hd => rfl); (case hg => rfl); (case hr => first | (go_simp; done) | (go_simp; rfl))
      intro gb163 hg w10 hbox hb
      have n0_ := bb BK160 hb
      have n1_ := bb BK161 hb
      have n2_ := bb BK162 hb
      have n3_ := bst HB hb
      have n4_ := Aside0.mk (hbox)
      have n5_ := Aside0.mk ((by rw [hg]; exact (below_size (bnow HB)) : w.heap.size ≤ gb163))
      have n6_ := Aside0.mk ((by rw [hg]; exact (below_size (bnow HB)) : w.heap.size ≤ gb163))
      have n7_ := Aside0.mk ((by rw [hg]; exact Nat.ne_of_lt (blk_lt (g := gb160) (o := .cells #[.int .i64 a0_0, .int .i64 a0_1, .int .i64 a0_2] 23 (0, 0)) (pk BK160)) : gb160 ≠ gb163))
      have n8_ := Aside0.mk ((by rw [hg]; exact Nat.ne_of_gt (blk_lt (g := gb160) (o := .cells #[.int .i64 a0_0, .int .i64 a0_1, .int .i64 a0_2] 23 (0, 0)) (pk BK160)) : gb163 ≠ gb160))
      have n9_ := Aside0.mk ((by rw [hg]; exact Nat.ne_of_lt (blk_lt (g := gb161) (o := .cells #[.int .i64 a1_0, .int .i64 a1_1, .int .i64 a1_2, .int .i64 a1_3] 25 (0, 0)) (pk BK161)) : gb161 ≠ gb163))
      have n10_ := Aside0.mk ((by rw [hg]; exact Nat.ne_of_gt (blk_lt (g := gb161) (o := .cells #[.int .i64 a1_0, .int .i64 a1_1, .int .i64 a1_2, .int .i64 a1_3] 25 (0, 0)) (pk BK161)) : gb163 ≠ gb161))
      have n11_ := Aside0.mk ((by rw [hg]; exact Nat.ne_of_lt (blk_lt (g := gb162) (o := .cells #[.int .i64 0, .int .i64 0, .int .i64 0] 23 (0, 0)) (pk BK162)) : gb162 ≠ gb163))
      have n12_ := Aside0.mk ((by rw [hg]; exact Nat.ne_of_gt (blk_lt (g := gb162) (o := .cells #[.int .i64 0, .int .i64 0, .int .i64 0] 23 (0, 0)) (pk BK162)) : gb163 ≠ gb162))
      have z_NB164_163 := fun (h0_ : up b 10 10 = true) (h1_ : up b 10 11 = true) => (show gb164 ≠ gb163 from (by cases hb_ : b 13 with | false => exact ((by rw [hg]; exact Nat.ne_of_lt (blk_lt (g := gb164) (o := .cells #[.int .i64 0, .int .i64 0] 81 (0, 0)) (by (with_reducible repeat (first | refine blk_drewN ?_ _ | refine blk_drew ?_ | refine blk_alloc ?_ _)); exact (Q_BK164 h1_ hb_))) : gb164 ≠ gb163)) | true => exact ((by rw [hg]; exact Nat.ne_of_lt (blk_lt (g := gb164) (by (with_reducible repeat (first | refine blk_drewN ?_ _ | refine blk_drew ?_ | refine blk_alloc ?_ _)); exact (Q_BK164_e13 hb_))) : gb164 ≠ gb163))))
      have z_NB163_164 := fun (h0_ : up b 10 10 = true) (h1_ : up b 10 11 = true) => (show gb163 ≠ gb164 from (by cases hb_ : b 13 with | false => exact ((by rw [hg]; exact Nat.ne_of_gt (blk_lt (g := gb164) (o := .cells #[.int .i64 0, .int .i64 0] 81 (0, 0)) (by (with_reducible repeat (first | refine blk_drewN ?_ _ | refine blk_drew ?_ | refine blk_alloc ?_ _)); exact (Q_BK164 h1_ hb_))) : gb163 ≠ gb164)) | true => exact ((by rw [hg]; exact Nat.ne_of_gt (blk_lt (g := gb164) (by (with_reducible repeat (first | refine blk_drewN ?_ _ | refine blk_drew ?_ | refine blk_alloc ?_ _)); exact (Q_BK164_e13 hb_))) : gb163 ≠ gb164))))
      have z_BK164 := fun (h0_ : b 11 = true) (h1_ : b 13 = false) => (show w10.heap[gb164]? = some (.cells #[.int .i64 0, .int .i64 0] 81 (0, 0)) from by first | exact (blk_below (g := gb164) (o := .cells #[.int .i64 0, .int .i64 0] 81 (0, 0)) (by (with_reducible repeat (first | refine blk_drewN ?_ _ | refine blk_drew ?_ | refine blk_alloc ?_ _)); exact (Q_BK164 h0_ h1_)) hb))
      clear BK160
      clear BK161
      clear BK162
      clear HB
      have BK160 := n0_
      have BK161 := n1_
      have BK162 := n2_
      have HB := n3_
      have BK163 := n4_
      have GW163 := n5_
      have GE163 := n6_
      have NB160_163 := n7_
      have NB163_160 := n8_
      have NB161_163 := n9_
      have NB163_161 := n10_
      have NB162_163 := n11_
      have NB163_162 := n12_
      clear n0_ n1_ n2_ n3_ n4_ n5_ n6_ n7_ n8_ n9_ n10_ n11_ n12_
      clear hb hbox hg
      refine hK.out _ _ ⟨gb163, gb164, (.pointer (some ⟨gb163, 0, none⟩)), m11_, (by rw [ha.out]; exact putSel_upk 6 hb_ rfl rfl rfl), (pk BK160), (pk BK161), (pk BK162), (bnow HB), z_NB164_163, z_NB163_164, fun _ _ => (pk BK163), fun _ => GW163.out, fun _ => GE163.out, fun _ => NB160_163.out, fun _ => NB163_160.out, fun _ => NB161_163.out, fun _ => NB163_161.out, fun _ => NB162_163.out, fun _ => NB163_162.out, z_BK164, Q_GW164, Q_GE164, Q_NB160_164, Q_NB164_160, Q_NB161_164, Q_NB164_161, Q_NB162_164, Q_NB164_162, fun h0_ => absurd ((hoff 12 (by kernel_rfl)).symm.trans h0_) (by decide), fun h0_ => absurd ((hoff 13 (by kernel_rfl)).symm.trans h0_) (by decide), fun _ => rfl, Q_X11_⟩
    refine steps_cons ?_ ?_
    · rintro b a w' ⟨gb163, gb164, m10_, m11_, ha, Q_BK160, Q_BK161, Q_BK162, Q_HB, Q_NB164_163, Q_NB163_164, Q_BK163, Q_GW163, Q_GE163, Q_NB160_163, Q_NB163_160, Q_NB161_163, Q_NB163_161, Q_NB162_163, Q_NB163_162, Q_BK164, Q_GW164, Q_GE164, Q_NB160_164, Q_NB164_160, Q_NB161_164, Q_NB164_161, Q_NB162_164, Q_NB164_162, Q_BK163_e12, Q_BK164_e13, Q_X10_, Q_X11_⟩ hb_ hon hoff
      refine ⟨_, rfl, fun K hK => ?_⟩
      replace ha := Aside0.mk ha
      have BK160 := Aside0.mk Q_BK160
      have BK161 := Aside0.mk Q_BK161
      have BK162 := Aside0.mk Q_BK162
      have HB := Aside0.mk Q_HB
      refine box_step ?hg (N := 6) ?hd (cs := #[.int .i64 0, .int .i64 0]) (t := 81) ?hr ?_; (case hd => rfl); (case hg => rfl); (case hr => first | (go_simp; done) | (go_simp; rfl))
      intro gb164 hg w10 hbox hb
      have n0_ := bb BK160 hb
      have n1_ := bb BK161 hb
      have n2_ := bb BK162 hb
      have n3_ := bst HB hb
      have n4_ := Aside0.mk (hbox)
      have n5_ := Aside0.mk ((by rw [hg]; exact (below_size (bnow HB)) : w.heap.size ≤ gb164))
      have n6_ := Aside0.mk ((by rw [hg]; exact (below_size (bnow HB)) : w.heap.size ≤ gb164))
      have n7_ := Aside0.mk ((by rw [hg]; exact Nat.ne_of_lt (blk_lt (g := gb160) (o := .cells #[.int .i64 a0_0, .int .i64 a0_1, .int .i64 a0_2] 23 (0, 0)) (pk BK160)) : gb160 ≠ gb164))
      have n8_ := Aside0.mk ((by rw [hg]; exact Nat.ne_of_gt (blk_lt (g := gb160) (o := .cells #[.int .i64 a0_0, .int .i64 a0_1, .int .i64 a0_2] 23 (0, 0)) (pk BK160)) : gb164 ≠ gb160))
      have n9_ := Aside0.mk ((by rw [hg]; exact Nat.ne_of_lt (blk_lt (g := gb161) (o := .cells #[.int .i64 a1_0, .int .i64 a1_1, .int .i64 a1_2, .int .i64 a1_3] 25 (0, 0)) (pk BK161)) : gb161 ≠ gb164))
      have n10_ := Aside0.mk ((by rw [hg]; exact Nat.ne_of_gt (blk_lt (g := gb161) (o := .cells #[.int .i64 a1_0, .int .i64 a1_1, .int .i64 a1_2, .int .i64 a1_3] 25 (0, 0)) (pk BK161)) : gb164 ≠ gb161))
      have n11_ := Aside0.mk ((by rw [hg]; exact Nat.ne_of_lt (blk_lt (g := gb162) (o := .cells #[.int .i64 0, .int .i64 0, .int .i64 0] 23 (0, 0)) (pk BK162)) : gb162 ≠ gb164))
      have n12_ := Aside0.mk ((by rw [hg]; exact Nat.ne_of_gt (blk_lt (g := gb162) (o := .cells #[.int .i64 0, .int .i64 0, .int .i64 0] 23 (0, 0)) (pk BK162)) : gb164 ≠ gb162))
      have z_NB164_163 := fun (h0_ : up b 11 10 = true) (h1_ : up b 11 11 = true) => (show gb164 ≠ gb163 from (by cases hb_ : b 12 with | false => exact ((by rw [hg]; exact Nat.ne_of_gt (blk_lt (g := gb163) (o := .cells #[.int .i64 0, .int .i64 0] 81 (0, 0)) (by (with_reducible repeat (first | refine blk_drewN ?_ _ | refine blk_drew ?_ | refine blk_alloc ?_ _)); exact (Q_BK163 h0_ hb_))) : gb164 ≠ gb163)) | true => exact ((by rw [hg]; exact Nat.ne_of_gt (blk_lt (g := gb163) (by (with_reducible repeat (first | refine blk_drewN ?_ _ | refine blk_drew ?_ | refine blk_alloc ?_ _)); exact (Q_BK163_e12 hb_))) : gb164 ≠ gb163))))
      have z_NB163_164 := fun (h0_ : up b 11 10 = true) (h1_ : up b 11 11 = true) => (show gb163 ≠ gb164 from (by cases hb_ : b 12 with | false => exact ((by rw [hg]; exact Nat.ne_of_lt (blk_lt (g := gb163) (o := .cells #[.int .i64 0, .int .i64 0] 81 (0, 0)) (by (with_reducible repeat (first | refine blk_drewN ?_ _ | refine blk_drew ?_ | refine blk_alloc ?_ _)); exact (Q_BK163 h0_ hb_))) : gb163 ≠ gb164)) | true => exact ((by rw [hg]; exact Nat.ne_of_lt (blk_lt (g := gb163) (by (with_reducible repeat (first | refine blk_drewN ?_ _ | refine blk_drew ?_ | refine blk_alloc ?_ _)); exact (Q_BK163_e12 hb_))) : gb163 ≠ gb164))))
      have z_BK163 := fun (h0_ : b 10 = true) (h1_ : b 12 = false) => (show w10.heap[gb163]? = some (.cells #[.int .i64 0, .int .i64 0] 81 (0, 0)) from by first | exact (blk_below (g := gb163) (o := .cells #[.int .i64 0, .int .i64 0] 81 (0, 0)) (by (with_reducible repeat (first | refine blk_drewN ?_ _ | refine blk_drew ?_ | refine blk_alloc ?_ _)); exact (Q_BK163 h0_ h1_)) hb))
      clear BK160
      clear BK161
      clear BK162
      clear HB
      have BK160 := n0_
      have BK161 := n1_
      have BK162 := n2_
      have HB := n3_
      have BK164 := n4_
      have GW164 := n5_
      have GE164 := n6_
      have NB160_164 := n7_
      have NB164_160 := n8_
      have NB161_164 := n9_
      have NB164_161 := n10_
      have NB162_164 := n11_
      have NB164_162 := n12_
      clear n0_ n1_ n2_ n3_ n4_ n5_ n6_ n7_ n8_ n9_ n10_ n11_ n12_
      clear hb hbox hg
      refine hK.out _ _ ⟨gb163, gb164, m10_, (.pointer (some ⟨gb164, 0, none⟩)), (by rw [ha.out]; exact putSel_upk 7 hb_ rfl rfl rfl), (pk BK160), (pk BK161), (pk BK162), (bnow HB), z_NB164_163, z_NB163_164, z_BK163, Q_GW163, Q_GE163, Q_NB160_163, Q_NB163_160, Q_NB161_163, Q_NB163_161, Q_NB162_163, Q_NB163_162, fun _ _ => (pk BK164), fun _ => GW164.out, fun _ => GE164.out, fun _ => NB160_164.out, fun _ => NB164_160.out, fun _ => NB161_164.out, fun _ => NB164_161.out, fun _ => NB162_164.out, fun _ => NB164_162.out, fun h0_ => absurd ((hoff 12 (by kernel_rfl)).symm.trans h0_) (by decide), fun h0_ => absurd ((hoff 13 (by kernel_rfl)).symm.trans h0_) (by decide), Q_X10_, fun _ => rfl⟩
    refine steps_cons ?_ ?_
    · rintro b a w' ⟨gb163, gb164, m10_, m11_, ha, Q_BK160, Q_BK161, Q_BK162, Q_HB, Q_NB164_163, Q_NB163_164, Q_BK163, Q_GW163, Q_GE163, Q_NB160_163, Q_NB163_160, Q_NB161_163, Q_NB163_161, Q_NB162_163, Q_NB163_162, Q_BK164, Q_GW164, Q_GE164, Q_NB160_164, Q_NB164_160, Q_NB161_164, Q_NB164_161, Q_NB162_164, Q_NB164_162, Q_BK163_e12, Q_BK164_e13, Q_X10_, Q_X11_⟩ hb_ hon hoff
      refine ⟨_, rfl, fun K hK => ?_⟩
      have e5 : a.tmps[5]? = some (m10_) := by rw [ha]; exact putSel_on (e := (10, 5, m10_)) 6 rfl rfl (hon 10 (by kernel_rfl)) rfl
      rw [Q_X10_ (hon 10 (by kernel_rfl))] at e5
      have e11 : a.tmps[11]? = some (.agg #[.int .i64 a1_0, .int .i64 a1_2]) := by rw [ha]; exact putSel_on (e := (4, 11, .agg #[.int .i64 a1_0, .int .i64 a1_2])) 2 rfl rfl (hon 4 (by kernel_rfl)) rfl
      replace ha := Aside0.mk ha
      have BK160 := Aside0.mk Q_BK160
      have BK161 := Aside0.mk Q_BK161
      have BK162 := Aside0.mk Q_BK162
      have HB := Aside0.mk Q_HB
      have NB164_163 := Aside0.mk (Q_NB164_163 (hon 10 (by kernel_rfl)) (hon 11 (by kernel_rfl)))
      have NB163_164 := Aside0.mk (Q_NB163_164 (hon 10 (by kernel_rfl)) (hon 11 (by kernel_rfl)))
      have BK163 := Aside0.mk (Q_BK163 (hon 10 (by kernel_rfl)) hb_)
      have GW163 := Aside0.mk (Q_GW163 (hon 10 (by kernel_rfl)))
      have GE163 := Aside0.mk (Q_GE163 (hon 10 (by kernel_rfl)))
      have NB160_163 := Aside0.mk (Q_NB160_163 (hon 10 (by kernel_rfl)))
      have NB163_160 := Aside0.mk (Q_NB163_160 (hon 10 (by kernel_rfl)))
      have NB161_163 := Aside0.mk (Q_NB161_163 (hon 10 (by kernel_rfl)))
      have NB163_161 := Aside0.mk (Q_NB163_161 (hon 10 (by kernel_rfl)))
      have NB162_163 := Aside0.mk (Q_NB162_163 (hon 10 (by kernel_rfl)))
      have NB163_162 := Aside0.mk (Q_NB163_162 (hon 10 (by kernel_rfl)))
      have BK164 := Aside0.mk (Q_BK164 (hon 11 (by kernel_rfl)) (hoff 13 (by kernel_rfl)))
      have GW164 := Aside0.mk (Q_GW164 (hon 11 (by kernel_rfl)))
      have GE164 := Aside0.mk (Q_GE164 (hon 11 (by kernel_rfl)))
      have NB160_164 := Aside0.mk (Q_NB160_164 (hon 11 (by kernel_rfl)))
      have NB164_160 := Aside0.mk (Q_NB164_160 (hon 11 (by kernel_rfl)))
      have NB161_164 := Aside0.mk (Q_NB161_164 (hon 11 (by kernel_rfl)))
      have NB164_161 := Aside0.mk (Q_NB164_161 (hon 11 (by kernel_rfl)))
      have NB162_164 := Aside0.mk (Q_NB162_164 (hon 11 (by kernel_rfl)))
      have NB164_162 := Aside0.mk (Q_NB164_162 (hon 11 (by kernel_rfl)))
      have hs13 : w'.cell? ⟨gb163, 0, none⟩ = some (.int .i64 0) := (blk_cell BK163.out 0).trans rfl
      have hfs13 := blk_frozen BK163.out 0
      have hns13_0 := NB160_163.out
      have hns13_1 := NB161_163.out
      have hns13_2 := NB162_163.out
      have hns13_4 := NB164_163.out
      have hms13_0 := NB163_160.out
      have hms13_1 := NB163_161.out
      have hms13_2 := NB163_162.out
      have hms13_4 := NB163_164.out
      have hs14 : w'.cell? ⟨gb163, 1, none⟩ = some (.int .i64 0) := (blk_cell BK163.out 1).trans rfl
      have hfs14 := blk_frozen BK163.out 1
      have hns14_0 := NB160_163.out
      have hns14_1 := NB161_163.out
      have hns14_2 := NB162_163.out
      have hns14_4 := NB164_163.out
      have hms14_0 := NB163_160.out
      have hms14_1 := NB163_161.out
      have hms14_2 := NB163_162.out
      have hms14_4 := NB163_164.out
      refine skip_ (w1 := ?_) (by rfl) rfl ?_ ?_
      rotate_left
      · go_simp
        rfl
      refine hK.out _ _ ⟨gb163, gb164, m10_, m11_, (by rw [ha.out]; exact putSel_none (v := undef) rfl), (by (with_reducible repeat (first | refine blk_drewN ?_ _ | refine blk_drew ?_ | refine blk_alloc ?_ _)); refine blk_far ?_ NB160_163.out _; (with_reducible repeat (first | refine blk_drewN ?_ _ | refine blk_drew ?_ | refine blk_alloc ?_ _)); refine blk_far ?_ NB160_163.out _; (with_reducible repeat (first | refine blk_drewN ?_ _ | refine blk_drew ?_ | refine blk_alloc ?_ _)); exact BK160.out), (by (with_reducible repeat (first | refine blk_drewN ?_ _ | refine blk_drew ?_ | refine blk_alloc ?_ _)); refine blk_far ?_ NB161_163.out _; (with_reducible repeat (first | refine blk_drewN ?_ _ | refine blk_drew ?_ | refine blk_alloc ?_ _)); refine blk_far ?_ NB161_163.out _; (with_reducible repeat (first | refine blk_drewN ?_ _ | refine blk_drew ?_ | refine blk_alloc ?_ _)); exact BK161.out), (by (with_reducible repeat (first | refine blk_drewN ?_ _ | refine blk_drew ?_ | refine blk_alloc ?_ _)); refine blk_far ?_ NB162_163.out _; (with_reducible repeat (first | refine blk_drewN ?_ _ | refine blk_drew ?_ | refine blk_alloc ?_ _)); refine blk_far ?_ NB162_163.out _; (with_reducible repeat (first | refine blk_drewN ?_ _ | refine blk_drew ?_ | refine blk_alloc ?_ _)); exact BK162.out), (bnow HB), fun _ _ => NB164_163.out, fun _ _ => NB163_164.out, fun _ h1_ => absurd ((up_self b 12).symm.trans h1_) (by decide), fun _ => GW163.out, fun _ => GE163.out, fun _ => NB160_163.out, fun _ => NB163_160.out, fun _ => NB161_163.out, fun _ => NB163_161.out, fun _ => NB162_163.out, fun _ => NB163_162.out, fun _ _ => (by (with_reducible repeat (first | refine blk_drewN ?_ _ | refine blk_drew ?_ | refine blk_alloc ?_ _)); refine blk_far ?_ NB164_163.out _; (with_reducible repeat (first | refine blk_drewN ?_ _ | refine blk_drew ?_ | refine blk_alloc ?_ _)); refine blk_far ?_ NB164_163.out _; (with_reducible repeat (first | refine blk_drewN ?_ _ | refine blk_drew ?_ | refine blk_alloc ?_ _)); exact BK164.out), fun _ => GW164.out, fun _ => GE164.out, fun _ => NB160_164.out, fun _ => NB164_160.out, fun _ => NB161_164.out, fun _ => NB164_161.out, fun _ => NB162_164.out, fun _ => NB164_162.out, fun _ => (by (with_reducible repeat (first | refine blk_drewN ?_ _ | refine blk_drew ?_ | refine blk_alloc ?_ _)); refine blk_put (cs := #[.int .i64 a1_0, .int .i64 0]) ?_ 1 _ rfl; (with_reducible repeat (first | refine blk_drewN ?_ _ | refine blk_drew ?_ | refine blk_alloc ?_ _)); refine blk_put (cs := #[.int .i64 0, .int .i64 0]) ?_ 0 _ rfl; (with_reducible repeat (first | refine blk_drewN ?_ _ | refine blk_drew ?_ | refine blk_alloc ?_ _)); exact BK163.out), fun h0_ => absurd ((hoff 13 (by kernel_rfl)).symm.trans h0_) (by decide), Q_X10_, Q_X11_⟩
    refine steps_cons ?_ ?_
    · rintro b a w' ⟨gb163, gb164, m10_, m11_, ha, Q_BK160, Q_BK161, Q_BK162, Q_HB, Q_NB164_163, Q_NB163_164, Q_BK163, Q_GW163, Q_GE163, Q_NB160_163, Q_NB163_160, Q_NB161_163, Q_NB163_161, Q_NB162_163, Q_NB163_162, Q_BK164, Q_GW164, Q_GE164, Q_NB160_164, Q_NB164_160, Q_NB161_164, Q_NB164_161, Q_NB162_164, Q_NB164_162, Q_BK163_e12, Q_BK164_e13, Q_X10_, Q_X11_⟩ hb_ hon hoff
      refine ⟨_, rfl, fun K hK => ?_⟩
      have e6 : a.tmps[6]? = some (m11_) := by rw [ha]; exact putSel_on (e := (11, 6, m11_)) 7 rfl rfl (hon 11 (by kernel_rfl)) rfl
      rw [Q_X11_ (hon 11 (by kernel_rfl))] at e6
      have e16 : a.tmps[16]? = some (.agg #[.int .i64 a1_1, .int .i64 a1_3]) := by rw [ha]; exact putSel_on (e := (9, 16, .agg #[.int .i64 a1_1, .int .i64 a1_3])) 5 rfl rfl (hon 9 (by kernel_rfl)) rfl
      replace ha := Aside0.mk ha
      have BK160 := Aside0.mk Q_BK160
      have BK161 := Aside0.mk Q_BK161
      have BK162 := Aside0.mk Q_BK162
      have HB := Aside0.mk Q_HB
      have NB164_163 := Aside0.mk (Q_NB164_163 (hon 10 (by kernel_rfl)) (hon 11 (by kernel_rfl)))
      have NB163_164 := Aside0.mk (Q_NB163_164 (hon 10 (by kernel_rfl)) (hon 11 (by kernel_rfl)))
      have GW163 := Aside0.mk (Q_GW163 (hon 10 (by kernel_rfl)))
      have GE163 := Aside0.mk (Q_GE163 (hon 10 (by kernel_rfl)))
      have NB160_163 := Aside0.mk (Q_NB160_163 (hon 10 (by kernel_rfl)))
      have NB163_160 := Aside0.mk (Q_NB163_160 (hon 10 (by kernel_rfl)))
      have NB161_163 := Aside0.mk (Q_NB161_163 (hon 10 (by kernel_rfl)))
      have NB163_161 := Aside0.mk (Q_NB163_161 (hon 10 (by kernel_rfl)))
      have NB162_163 := Aside0.mk (Q_NB162_163 (hon 10 (by kernel_rfl)))
      have NB163_162 := Aside0.mk (Q_NB163_162 (hon 10 (by kernel_rfl)))
      have BK164 := Aside0.mk (Q_BK164 (hon 11 (by kernel_rfl)) hb_)
      have GW164 := Aside0.mk (Q_GW164 (hon 11 (by kernel_rfl)))
      have GE164 := Aside0.mk (Q_GE164 (hon 11 (by kernel_rfl)))
      have NB160_164 := Aside0.mk (Q_NB160_164 (hon 11 (by kernel_rfl)))
      have NB164_160 := Aside0.mk (Q_NB164_160 (hon 11 (by kernel_rfl)))
      have NB161_164 := Aside0.mk (Q_NB161_164 (hon 11 (by kernel_rfl)))
      have NB164_161 := Aside0.mk (Q_NB164_161 (hon 11 (by kernel_rfl)))
      have NB162_164 := Aside0.mk (Q_NB162_164 (hon 11 (by kernel_rfl)))
      have NB164_162 := Aside0.mk (Q_NB164_162 (hon 11 (by kernel_rfl)))
      have BK163 := Aside0.mk (Q_BK163_e12 (hon 12 (by kernel_rfl)))
      have hs15 : w'.cell? ⟨gb164, 0, none⟩ = some (.int .i64 0) := (blk_cell BK164.out 0).trans rfl
      have hfs15 := blk_frozen BK164.out 0
      have hns15_0 := NB160_164.out
      have hns15_1 := NB161_164.out
      have hns15_2 := NB162_164.out
      have hns15_3 := NB163_164.out
      have hms15_0 := NB164_160.out
      have hms15_1 := NB164_161.out
      have hms15_2 := NB164_162.out
      have hms15_3 := NB164_163.out
      have hs16 : w'.cell? ⟨gb164, 1, none⟩ = some (.int .i64 0) := (blk_cell BK164.out 1).trans rfl
      have hfs16 := blk_frozen BK164.out 1
      have hns16_0 := NB160_164.out
      have hns16_1 := NB161_164.out
      have hns16_2 := NB162_164.out
      have hns16_3 := NB163_164.out
      have hms16_0 := NB164_160.out
      have hms16_1 := NB164_161.out
      have hms16_2 := NB164_162.out
      have hms16_3 := NB164_163.out
      refine skip_ (w1 := ?_) (by rfl) rfl ?_ ?_
      rotate_left
      · go_simp
        rfl
      refine hK.out _ _ ⟨gb163, gb164, m10_, m11_, (by rw [ha.out]; exact putSel_none (v := undef) rfl), (by (with_reducible repeat (first | refine blk_drewN ?_ _ | refine blk_drew ?_ | refine blk_alloc ?_ _)); refine blk_far ?_ NB160_164.out _; (with_reducible repeat (first | refine blk_drewN ?_ _ | refine blk_drew ?_ | refine blk_alloc ?_ _)); refine blk_far ?_ NB160_164.out _; (with_reducible repeat (first | refine blk_drewN ?_ _ | refine blk_drew ?_ | refine blk_alloc ?_ _)); exact BK160.out), (by (with_reducible repeat (first | refine blk_drewN ?_ _ | refine blk_drew ?_ | refine blk_alloc ?_ _)); refine blk_far ?_ NB161_164.out _; (with_reducible repeat (first | refine blk_drewN ?_ _ | refine blk_drew ?_ | refine blk_alloc ?_ _)); refine blk_far ?_ NB161_164.out _; (with_reducible repeat (first | refine blk_drewN ?_ _ | refine blk_drew ?_ | refine blk_alloc ?_ _)); exact BK161.out), (by (with_reducible repeat (first | refine blk_drewN ?_ _ | refine blk_drew ?_ | refine blk_alloc ?_ _)); refine blk_far ?_ NB162_164.out _; (with_reducible repeat (first | refine blk_drewN ?_ _ | refine blk_drew ?_ | refine blk_alloc ?_ _)); refine blk_far ?_ NB162_164.out _; (with_reducible repeat (first | refine blk_drewN ?_ _ | refine blk_drew ?_ | refine blk_alloc ?_ _)); exact BK162.out), (bnow HB), fun _ _ => NB164_163.out, fun _ _ => NB163_164.out, fun _ h1_ => absurd ((hon 12 (by kernel_rfl)).symm.trans h1_) (by decide), fun _ => GW163.out, fun _ => GE163.out, fun _ => NB160_163.out, fun _ => NB163_160.out, fun _ => NB161_163.out, fun _ => NB163_161.out, fun _ => NB162_163.out, fun _ => NB163_162.out, fun _ h1_ => absurd ((up_self b 13).symm.trans h1_) (by decide), fun _ => GW164.out, fun _ => GE164.out, fun _ => NB160_164.out, fun _ => NB164_160.out, fun _ => NB161_164.out, fun _ => NB164_161.out, fun _ => NB162_164.out, fun _ => NB164_162.out, fun _ => (by (with_reducible repeat (first | refine blk_drewN ?_ _ | refine blk_drew ?_ | refine blk_alloc ?_ _)); refine blk_far ?_ NB163_164.out _; (with_reducible repeat (first | refine blk_drewN ?_ _ | refine blk_drew ?_ | refine blk_alloc ?_ _)); refine blk_far ?_ NB163_164.out _; (with_reducible repeat (first | refine blk_drewN ?_ _ | refine blk_drew ?_ | refine blk_alloc ?_ _)); exact BK163.out), fun _ => (by (with_reducible repeat (first | refine blk_drewN ?_ _ | refine blk_drew ?_ | refine blk_alloc ?_ _)); refine blk_put (cs := #[.int .i64 a1_1, .int .i64 0]) ?_ 1 _ rfl; (with_reducible repeat (first | refine blk_drewN ?_ _ | refine blk_drew ?_ | refine blk_alloc ?_ _)); refine blk_put (cs := #[.int .i64 0, .int .i64 0]) ?_ 0 _ rfl; (with_reducible repeat (first | refine blk_drewN ?_ _ | refine blk_drew ?_ | refine blk_alloc ?_ _)); exact BK164.out), Q_X10_, Q_X11_⟩
    exact steps_nil
  rintro b a w16 hall ⟨gb163, gb164, m10_, m11_, ha, Q_BK160, Q_BK161, Q_BK162, Q_HB, Q_NB164_163, Q_NB163_164, Q_BK163, Q_GW163, Q_GE163, Q_NB160_163, Q_NB163_160, Q_NB161_163, Q_NB163_161, Q_NB162_163, Q_NB163_162, Q_BK164, Q_GW164, Q_GE164, Q_NB160_164, Q_NB164_160, Q_NB161_164, Q_NB164_161, Q_NB162_164, Q_NB164_162, Q_BK163_e12, Q_BK164_e13, Q_X10_, Q_X11_⟩
  clear BK160 BK161 BK162 HB
  have hb1_ := hall 1 (by kernel_rfl)
  have hb3_ := hall 3 (by kernel_rfl)
  have hb4_ := hall 4 (by kernel_rfl)
  have hb6_ := hall 6 (by kernel_rfl)
  have hb8_ := hall 8 (by kernel_rfl)
  have hb9_ := hall 9 (by kernel_rfl)
  have hb10_ := hall 10 (by kernel_rfl)
  have hb11_ := hall 11 (by kernel_rfl)
  have hb12_ := hall 12 (by kernel_rfl)
  have hb13_ := hall 13 (by kernel_rfl)
  subst ha
  obtain rfl := Q_X10_ hb10_
  obtain rfl := Q_X11_ hb11_
  simp only [putSel, hb1_, hb3_, hb4_, hb6_, hb8_, hb9_, hb10_, hb11_, hb12_, hb13_, if_true, Act.put, List.setIfInBounds_toArray, List.set_cons_zero, List.set_cons_succ]
  have BK160 := Aside0.mk Q_BK160
  clear Q_BK160
  have BK161 := Aside0.mk Q_BK161
  clear Q_BK161
  have BK162 := Aside0.mk Q_BK162
  clear Q_BK162
  have HB := Aside0.mk Q_HB
  clear Q_HB
  have NB164_163 := Aside0.mk (Q_NB164_163 hb10_ hb11_)
  clear Q_NB164_163
  have NB163_164 := Aside0.mk (Q_NB163_164 hb10_ hb11_)
  clear Q_NB163_164
  clear Q_BK163
  have GW163 := Aside0.mk (Q_GW163 hb10_)
  clear Q_GW163
  have GE163 := Aside0.mk (Q_GE163 hb10_)
  clear Q_GE163
  have NB160_163 := Aside0.mk (Q_NB160_163 hb10_)
  clear Q_NB160_163
  have NB163_160 := Aside0.mk (Q_NB163_160 hb10_)
  clear Q_NB163_160
  have NB161_163 := Aside0.mk (Q_NB161_163 hb10_)
  clear Q_NB161_163
  have NB163_161 := Aside0.mk (Q_NB163_161 hb10_)
  clear Q_NB163_161
  have NB162_163 := Aside0.mk (Q_NB162_163 hb10_)
  clear Q_NB162_163
  have NB163_162 := Aside0.mk (Q_NB163_162 hb10_)
  clear Q_NB163_162
  clear Q_BK164
  have GW164 := Aside0.mk (Q_GW164 hb11_)
  clear Q_GW164
  have GE164 := Aside0.mk (Q_GE164 hb11_)
  clear Q_GE164
  have NB160_164 := Aside0.mk (Q_NB160_164 hb11_)
  clear Q_NB160_164
  have NB164_160 := Aside0.mk (Q_NB164_160 hb11_)
  clear Q_NB164_160
  have NB161_164 := Aside0.mk (Q_NB161_164 hb11_)
  clear Q_NB161_164
  have NB164_161 := Aside0.mk (Q_NB164_161 hb11_)
  clear Q_NB164_161
  have NB162_164 := Aside0.mk (Q_NB162_164 hb11_)
  clear Q_NB162_164
  have NB164_162 := Aside0.mk (Q_NB164_162 hb11_)
  clear Q_NB164_162
  have BK163 := Aside0.mk (Q_BK163_e12 hb12_)
  clear Q_BK163_e12
  have BK164 := Aside0.mk (Q_BK164_e13 hb13_)
  clear Q_BK164_e13
  clear hall hb1_ hb3_ hb4_ hb6_ hb8_ hb9_ hb10_ hb11_ hb12_ hb13_
  try go_wp2
  have n0_ := Aside0.mk (blk_drew BK160.out)
  have n1_ := Aside0.mk (blk_drew BK161.out)
  have n2_ := Aside0.mk (blk_drew BK162.out)
  have n3_ := Aside0.mk (blk_drew BK163.out)
  have n4_ := Aside0.mk (blk_drew BK164.out)
  have n5_ := Aside0.mk (below_drew1 HB.out)
  clear BK160
  clear BK161
  clear BK162
  clear BK163
  clear BK164
  clear HB
  have BK160 := n0_
  have BK161 := n1_
  have BK162 := n2_
  have BK163 := n3_
  have BK164 := n4_
  have HB := n5_
  clear n0_ n1_ n2_ n3_ n4_ n5_
  refine start_ (n := 14) (S := fun w' => w'.cell? ⟨gb163, 0, none⟩ = some (.int .i64 a1_0) ∧ w'.cell? ⟨gb163, 1, none⟩ = some (.int .i64 a1_2) ∧ w'.cell? ⟨gb160, 0, none⟩ = some (.int .i64 a0_0) ∧ w'.cell? ⟨gb160, 1, none⟩ = some (.int .i64 a0_1) ∧ w'.cell? ⟨gb160, 2, none⟩ = some (.int .i64 a0_2) ∧ w'.cell? ⟨gb164, 0, none⟩ = some (.int .i64 a1_1) ∧ w'.cell? ⟨gb164, 1, none⟩ = some (.int .i64 a1_3)) (ds := []) #[false, false, false, false, false, false, false, false, false, false, false, false, false, false] (by kernel_rfl) rfl rfl ⟨(blk_cell BK163.out 0).trans rfl, (blk_cell BK163.out 1).trans rfl, (blk_cell BK160.out 0).trans rfl, (blk_cell BK160.out 1).trans rfl, (blk_cell BK160.out 2).trans rfl, (blk_cell BK164.out 0).trans rfl, (blk_cell BK164.out 1).trans rfl⟩ (fun hHeld => ?_); refine with_tabW grids_lead.tab2 grids_lead.bits2 (fun HT_ HW_ => ?_)
  generalize w16.drew = w17 at BK160 BK161 BK162 BK163 BK164 HB hHeld ⊢
  refine take_ (i := 0) (N := some 17) (v := ?_) (a' := ?_) #[true, false, false, false, false, false, false, false, false, false, false, false, false, false] rfl rfl (take_ofW HT_.out HW_.out (by kernel_rfl)) (fun _ _ _ h => h) (Or.inl ⟨by rfl, ?_⟩) hHeld ?_ ?_
  rotate_left
  · rintro w' ⟨s0, s1, s2, s3, s4, s5, s6⟩
    go_simp
    with_reducible rfl
  rotate_left
  · simp only [Act.put, List.setIfInBounds_toArray, List.set_cons_zero, List.set_cons_succ, i64_w, i32_w]
    rfl
  refine take_ (i := 1) (N := some 18) (v := ?_) (a' := ?_) #[true, true, false, false, false, false, false, false, false, false, false, false, false, false] rfl rfl (take_ofW HT_.out HW_.out (by kernel_rfl)) (fun _ _ _ h => h) (Or.inl ⟨by rfl, ?_⟩) hHeld ?_ ?_
  rotate_left
  · rintro w' ⟨s0, s1, s2, s3, s4, s5, s6⟩
    go_simp
    with_reducible rfl
  rotate_left
  · simp only [Act.put, List.setIfInBounds_toArray, List.set_cons_zero, List.set_cons_succ, i64_w, i32_w]
    rfl
  refine take_ (i := 2) (N := some 19) (v := ?_) (a' := ?_) #[true, true, true, false, false, false, false, false, false, false, false, false, false, false] rfl rfl (take_ofW HT_.out HW_.out (by kernel_rfl)) (fun _ _ _ h => h) (Or.inl ⟨by rfl, ?_⟩) hHeld ?_ ?_
  rotate_left
  · rintro w' ⟨s0, s1, s2, s3, s4, s5, s6⟩
    go_simp
    with_reducible rfl
  rotate_left
  · simp only [Act.put, List.setIfInBounds_toArray, List.set_cons_zero, List.set_cons_succ, i64_w, i32_w]
    rfl
  refine take_ (i := 4) (N := some 21) (v := ?_) (a' := ?_) #[true, true, true, false, true, false, false, false, false, false, false, false, false, false] rfl rfl (take_ofW HT_.out HW_.out (by kernel_rfl)) (fun _ _ _ h => h) (Or.inl ⟨by rfl, ?_⟩) hHeld ?_ ?_
  rotate_left
  · rintro w' ⟨s0, s1, s2, s3, s4, s5, s6⟩
    go_simp
    with_reducible rfl
  rotate_left
  · simp only [Act.put, List.setIfInBounds_toArray, List.set_cons_zero, List.set_cons_succ, i64_w, i32_w]
    rfl
  refine take_ (i := 5) (N := some 22) (v := ?_) (a' := ?_) #[true, true, true, false, true, true, false, false, false, false, false, false, false, false] rfl rfl (take_ofW HT_.out HW_.out (by kernel_rfl)) (fun _ _ _ h => h) (Or.inl ⟨by rfl, ?_⟩) hHeld ?_ ?_
  rotate_left
  · rintro w' ⟨s0, s1, s2, s3, s4, s5, s6⟩
    go_simp
    with_reducible rfl
  rotate_left
  · simp only [Act.put, List.setIfInBounds_toArray, List.set_cons_zero, List.set_cons_succ, i64_w, i32_w]
    rfl
  refine take_ (i := 6) (N := some 23) (v := ?_) (a' := ?_) #[true, true, true, false, true, true, true, false, false, false, false, false, false, false] rfl rfl (take_ofW HT_.out HW_.out (by kernel_rfl)) (fun _ _ _ h => h) (Or.inl ⟨by rfl, ?_⟩) hHeld ?_ ?_
  rotate_left
  · rintro w' ⟨s0, s1, s2, s3, s4, s5, s6⟩
    go_simp
    with_reducible rfl
  rotate_left
  · simp only [Act.put, List.setIfInBounds_toArray, List.set_cons_zero, List.set_cons_succ, i64_w, i32_w]
    rfl
  refine take_ (i := 8) (N := some 25) (v := ?_) (a' := ?_) #[true, true, true, false, true, true, true, false, true, false, false, false, false, false] rfl rfl (take_ofW HT_.out HW_.out (by kernel_rfl)) (fun _ _ _ h => h) (Or.inl ⟨by rfl, ?_⟩) hHeld ?_ ?_
  rotate_left
  · rintro w' ⟨s0, s1, s2, s3, s4, s5, s6⟩
    go_simp
    with_reducible rfl
  rotate_left
  · simp only [Act.put, List.setIfInBounds_toArray, List.set_cons_zero, List.set_cons_succ, i64_w, i32_w]
    rfl
  refine take_ (i := 9) (N := some 26) (v := ?_) (a' := ?_) #[true, true, true, false, true, true, true, false, true, true, false, false, false, false] rfl rfl (take_ofW HT_.out HW_.out (by kernel_rfl)) (fun _ _ _ h => h) (Or.inl ⟨by rfl, ?_⟩) hHeld ?_ ?_
  rotate_left
  · rintro w' ⟨s0, s1, s2, s3, s4, s5, s6⟩
    go_simp
    with_reducible rfl
  rotate_left
  · simp only [Act.put, List.setIfInBounds_toArray, List.set_cons_zero, List.set_cons_succ, i64_w, i32_w]
    rfl
  refine take_ (i := 10) (N := some 27) (v := ?_) (a' := ?_) #[true, true, true, false, true, true, true, false, true, true, true, false, false, false] rfl rfl (take_ofW HT_.out HW_.out (by kernel_rfl)) (fun _ _ _ h => h) (Or.inl ⟨by rfl, ?_⟩) hHeld ?_ ?_
  rotate_left
  · rintro w' ⟨s0, s1, s2, s3, s4, s5, s6⟩
    go_simp
    with_reducible rfl
  rotate_left
  · simp only [Act.put, List.setIfInBounds_toArray, List.set_cons_zero, List.set_cons_succ, i64_w, i32_w]
    rfl
  refine one_ (i := 3) (N := some 20) #[true, true, true, true, true, true, true, false, true, true, true, false, false, false] rfl rfl (one_of HT_.out (by kernel_rfl)) (by decide) (fun K hK => ?_)
  refine goes_ Try.func80 (by kernel_rfl) rfl #[.agg #[.int .i64 a1_0, .int .i64 a1_2], .agg #[.int .i64 a0_0, .int .i64 a0_1, .int .i64 a0_2], .agg #[.int .i64 a1_0, .int .i64 a1_2]] (by rfl) rfl rfl am ?_
  with_reducible refine (grids_step_product.calls a1_0 a1_2 a0_0 a0_1 a0_2 a1_0 a1_2 t165 _ A3.out).mono ?_
  rintro e w18 ⟨rfl, hb⟩
  refine ⟨_, rfl, ?_⟩
  replace BK160 := bb BK160 hb
  replace BK161 := bb BK161 hb
  replace BK162 := bb BK162 hb
  replace BK163 := bb BK163 hb
  replace BK164 := bb BK164 hb
  replace HB := bst HB hb
  (try clear hb)
  (try clear hb2)
  (try clear hk)
  (try clear hi)
  refine hK.out _ _ ⟨(blk_cell BK163.out 0).trans rfl, (blk_cell BK163.out 1).trans rfl, (blk_cell BK160.out 0).trans rfl, (blk_cell BK160.out 1).trans rfl, (blk_cell BK160.out 2).trans rfl, (blk_cell BK164.out 0).trans rfl, (blk_cell BK164.out 1).trans rfl⟩ (fun hHeld => ?_)
  clear hK K
  refine norm_ (a' := ?_) ?_ ?_
  rotate_left
  · show Act.put _ (some 20) _ = _
    simp only [Act.put, List.setIfInBounds_toArray, List.set_cons_zero, List.set_cons_succ, i64_w, i32_w]
    rfl
  refine one_ (i := 7) (N := some 24) #[true, true, true, true, true, true, true, true, true, true, true, false, false, false] rfl rfl (one_of HT_.out (by kernel_rfl)) (by decide) (fun K hK => ?_)
  refine goes_ Try.func80 (by kernel_rfl) rfl #[.agg #[.int .i64 a1_0, .int .i64 a1_2], .agg #[.int .i64 a0_0, .int .i64 a0_1, .int .i64 a0_2], .agg #[.int .i64 a1_1, .int .i64 a1_3]] (by rfl) rfl rfl am ?_
  with_reducible refine (grids_step_product.calls a1_0 a1_2 a0_0 a0_1 a0_2 a1_1 a1_3 t166 _ A4.out).mono ?_
  rintro e w19 ⟨rfl, hb⟩
  refine ⟨_, rfl, ?_⟩
  replace BK160 := bb BK160 hb
  replace BK161 := bb BK161 hb
  replace BK162 := bb BK162 hb
  replace BK163 := bb BK163 hb
  replace BK164 := bb BK164 hb
  replace HB := bst HB hb
  (try clear hb)
  (try clear hb2)
  (try clear hk)
  (try clear hi)
  refine hK.out _ _ ⟨(blk_cell BK163.out 0).trans rfl, (blk_cell BK163.out 1).trans rfl, (blk_cell BK160.out 0).trans rfl, (blk_cell BK160.out 1).trans rfl, (blk_cell BK160.out 2).trans rfl, (blk_cell BK164.out 0).trans rfl, (blk_cell BK164.out 1).trans rfl⟩ (fun hHeld => ?_)
  clear hK K
  refine norm_ (a' := ?_) ?_ ?_
  rotate_left
  · show Act.put _ (some 24) _ = _
    simp only [Act.put, List.setIfInBounds_toArray, List.set_cons_zero, List.set_cons_succ, i64_w, i32_w]
    rfl
  refine one_ (i := 11) (N := some 28) #[true, true, true, true, true, true, true, true, true, true, true, true, false, false] rfl rfl (one_of HT_.out (by kernel_rfl)) (by decide) (fun K hK => ?_)
  refine goes_ Try.func80 (by kernel_rfl) rfl #[.agg #[.int .i64 a1_1, .int .i64 a1_3], .agg #[.int .i64 a0_0, .int .i64 a0_1, .int .i64 a0_2], .agg #[.int .i64 a1_1, .int .i64 a1_3]] (by rfl) rfl rfl am ?_
  with_reducible refine (grids_step_product.calls a1_1 a1_3 a0_0 a0_1 a0_2 a1_1 a1_3 t167 _ A5.out).mono ?_
  rintro e w20 ⟨rfl, hb⟩
  refine ⟨_, rfl, ?_⟩
  replace BK160 := bb BK160 hb
  replace BK161 := bb BK161 hb
  replace BK162 := bb BK162 hb
  replace BK163 := bb BK163 hb
  replace BK164 := bb BK164 hb
  replace HB := bst HB hb
  (try clear hb)
  (try clear hb2)
  (try clear hk)
  (try clear hi)
  refine hK.out _ _ ⟨(blk_cell BK163.out 0).trans rfl, (blk_cell BK163.out 1).trans rfl, (blk_cell BK160.out 0).trans rfl, (blk_cell BK160.out 1).trans rfl, (blk_cell BK160.out 2).trans rfl, (blk_cell BK164.out 0).trans rfl, (blk_cell BK164.out 1).trans rfl⟩ (fun hHeld => ?_)
  clear hK K
  refine norm_ (a' := ?_) ?_ ?_
  rotate_left
  · show Act.put _ (some 28) _ = _
    simp only [Act.put, List.setIfInBounds_toArray, List.set_cons_zero, List.set_cons_succ, i64_w, i32_w]
    rfl
  refine pure_ (i := 12) (N := some 29) (v := ?_) (a' := ?_) #[true, true, true, true, true, true, true, true, true, true, true, true, true, false] rfl rfl (any_of HT_.out (by kernel_rfl)) (fun _ _ _ h => h) (Or.inl ⟨by rfl, ?_⟩) ?_ ?_
  rotate_left
  · intro w'
    go_simp
    with_reducible rfl
  rotate_left
  · simp only [Act.put, List.setIfInBounds_toArray, List.set_cons_zero, List.set_cons_succ, i64_w, i32_w]
    rfl
  refine one_ (i := 13) (N := none) #[true, true, true, true, true, true, true, true, true, true, true, true, true, true] rfl rfl (one_of HT_.out (by kernel_rfl)) (by decide) (fun K hK => ?_)
  have hs21 : w20.cell? ⟨gb162, 0, none⟩ = some (.int .i64 0) := (blk_cell BK162.out 0).trans rfl
  have hfs21 := blk_frozen BK162.out 0
  have hns21_0 := NB160_162.out
  have hns21_1 := NB161_162.out
  have hns21_3 := NB163_162.out
  have hns21_4 := NB164_162.out
  have hms21_0 := NB162_160.out
  have hms21_1 := NB162_161.out
  have hms21_3 := NB162_163.out
  have hms21_4 := NB162_164.out
  have hs22 : w20.cell? ⟨gb162, 1, none⟩ = some (.int .i64 0) := (blk_cell BK162.out 1).trans rfl
  have hfs22 := blk_frozen BK162.out 1
  have hns22_0 := NB160_162.out
  have hns22_1 := NB161_162.out
  have hns22_3 := NB163_162.out
  have hns22_4 := NB164_162.out
  have hms22_0 := NB162_160.out
  have hms22_1 := NB162_161.out
  have hms22_3 := NB162_163.out
  have hms22_4 := NB162_164.out
  have hs23 : w20.cell? ⟨gb162, 2, none⟩ = some (.int .i64 0) := (blk_cell BK162.out 2).trans rfl
  have hfs23 := blk_frozen BK162.out 2
  have hns23_0 := NB160_162.out
  have hns23_1 := NB161_162.out
  have hns23_3 := NB163_162.out
  have hns23_4 := NB164_162.out
  have hms23_0 := NB162_160.out
  have hms23_1 := NB162_161.out
  have hms23_3 := NB162_163.out
  have hms23_4 := NB162_164.out
  refine skip_ (w1 := ?_) (by rfl) rfl ?_ ?_
  rotate_left
  · go_simp
    rfl
  refine hK.out _ _ ⟨((cell_far (p := ⟨gb162, _, none⟩) NB163_162.out _).trans (((cell_far (p := ⟨gb162, _, none⟩) NB163_162.out _).trans (((cell_far (p := ⟨gb162, _, none⟩) NB163_162.out _).trans (hHeld.1)))))), ((cell_far (p := ⟨gb162, _, none⟩) NB163_162.out _).trans (((cell_far (p := ⟨gb162, _, none⟩) NB163_162.out _).trans (((cell_far (p := ⟨gb162, _, none⟩) NB163_162.out _).trans (hHeld.2.1)))))), ((cell_far (p := ⟨gb162, _, none⟩) NB160_162.out _).trans (((cell_far (p := ⟨gb162, _, none⟩) NB160_162.out _).trans (((cell_far (p := ⟨gb162, _, none⟩) NB160_162.out _).trans (hHeld.2.2.1)))))), ((cell_far (p := ⟨gb162, _, none⟩) NB160_162.out _).trans (((cell_far (p := ⟨gb162, _, none⟩) NB160_162.out _).trans (((cell_far (p := ⟨gb162, _, none⟩) NB160_162.out _).trans (hHeld.2.2.2.1)))))), ((cell_far (p := ⟨gb162, _, none⟩) NB160_162.out _).trans (((cell_far (p := ⟨gb162, _, none⟩) NB160_162.out _).trans (((cell_far (p := ⟨gb162, _, none⟩) NB160_162.out _).trans (hHeld.2.2.2.2.1)))))), ((cell_far (p := ⟨gb162, _, none⟩) NB164_162.out _).trans (((cell_far (p := ⟨gb162, _, none⟩) NB164_162.out _).trans (((cell_far (p := ⟨gb162, _, none⟩) NB164_162.out _).trans (hHeld.2.2.2.2.2.1)))))), ((cell_far (p := ⟨gb162, _, none⟩) NB164_162.out _).trans (((cell_far (p := ⟨gb162, _, none⟩) NB164_162.out _).trans (((cell_far (p := ⟨gb162, _, none⟩) NB164_162.out _).trans (hHeld.2.2.2.2.2.2))))))⟩ (fun hHeld => ?_)
  clear hK K
  refine done_ (done_of HT_.out (by kernel_rfl)) ?_
  try go_wp2
  refine bodyPost_ret (results_cell_row rfl _ _ gb162 23 #[.int .i64 t165, .int .i64 t166, .int .i64 t167] (0, 0) _ rfl (by (with_reducible repeat (first | refine blk_drewN ?_ _ | refine blk_drew ?_ | refine blk_alloc ?_ _)); refine blk_put (cs := #[.int .i64 t165, .int .i64 t166, .int .i64 0]) ?_ 2 _ rfl; (with_reducible repeat (first | refine blk_drewN ?_ _ | refine blk_drew ?_ | refine blk_alloc ?_ _)); refine blk_put (cs := #[.int .i64 t165, .int .i64 0, .int .i64 0]) ?_ 1 _ rfl; (with_reducible repeat (first | refine blk_drewN ?_ _ | refine blk_drew ?_ | refine blk_alloc ?_ _)); refine blk_put (cs := #[.int .i64 0, .int .i64 0, .int .i64 0]) ?_ 0 _ rfl; (with_reducible repeat (first | refine blk_drewN ?_ _ | refine blk_drew ?_ | refine blk_alloc ?_ _)); exact BK162.out) Try.underlying23 rfl (by kernel_rfl)) rfl ?_
  exact ⟨by first | rfl | (simp [errW_none, errW_some] <;> rfl) | (simp [*, errW_none, errW_some] <;> rfl), by repeat (first | (with_reducible first | exact HB.out | apply below_alloc | apply pw_below_drewN | apply below_drew1 | refine below_set ?_ GE160.out | refine below_set ?_ GE161.out | refine below_set ?_ GE162.out | refine below_set ?_ GE163.out | refine below_set ?_ GE164.out) | exact HB.out)⟩
end
section
attribute [local go_sem high] eqA23
/-! ### grids_group: function 39 -/
def grids_group.l0 : Nat → List (S25) → Int → Int → Int → Int → Option ((List (S25)))
  | 0, _, _, _, _, _ => none
  | k + 1, x3, x6, x169000, x169001, x169002 => if x6 < 81 then ((some (Int.tmod x6 3)).bind fun z169 => ((some (wrap64 (z169 - 1))).bind fun z170 => ((some (wrap64 (Int.tdiv x6 3))).bind fun z171 => ((some (Int.tmod z171 3)).bind fun z172 => ((some (wrap64 (z172 - 1))).bind fun z173 => ((some (wrap64 (Int.tdiv x6 9))).bind fun z174 => ((some (Int.tmod z174 3)).bind fun z175 => ((some (wrap64 (z175 - 1))).bind fun z176 => ((some (wrap64 (Int.tdiv x6 27))).bind fun z177 => ((some (wrap64 (z177 - 1))).bind fun z178 => ((grids_lead.f x169000 x169001 x169002 z170 z173 z176 z178).bind fun bt180 => (if (bt180.1 == x169000 && (bt180.2.1 == x169001 && (bt180.2.2 == x169002))) = true then (if x3.length < 4398046511104 then ((some (wrap64 (x6 + 1))).bind fun z186 => (grids_group.l0 k (x3 ++ [(⟨z170, z173, z176, z178⟩ : S25)]) z186 x169000 x169001 x169002)) else (none)) else ((some (wrap64 (x6 + 1))).bind fun z187 => (grids_group.l0 k x3 z187 x169000 x169001 x169002)))))))))))))) else (some x3)
def grids_group.f (k : Nat) (a0_0 : Int) (a0_1 : Int) (a0_2 : Int) : Option ((List (S25))) := grids_group.l0 k ([] : List (S25)) 0 a0_0 a0_1 a0_2
theorem grids_group.mono_l : ∀ k, (∀ y0 y1 y2 y3 y4, LeO (grids_group.l0 k y0 y1 y2 y3 y4) (grids_group.l0 (k + 1) y0 y1 y2 y3 y4))
  | 0 => fun _ _ _ _ _ r h => by simp [grids_group.l0] at h
  | k + 1 => by
    have ih0 := grids_group.mono_l k
    · intro y0 y1 y2 y3 y4
      unfold grids_group.l0
      repeat' first
      | (with_reducible exact ih0 _ _ _ _ _)
      | (with_reducible exact LeO.refl _)
      | (with_reducible exact LeO.none _)
      | (with_reducible refine LeO.ite ?_ ?_)
      | (with_reducible refine LeO.bind ?_ (fun _ => ?_))
      | exact ih0 _ _ _ _ _
      | exact LeO.none _
      | refine LeO.ite ?_ ?_
      | refine LeO.bind ?_ (fun _ => ?_)
theorem grids_group.mono : ∀ a0 a1 a2 k, LeO (grids_group.f k a0 a1 a2) (grids_group.f (k + 1) a0 a1 a2) := by
  intro a0 a1 a2 k
  have ih0 := grids_group.mono_l k
  unfold grids_group.f
  repeat' first
      | (with_reducible exact ih0 _ _ _ _ _)
      | (with_reducible exact LeO.refl _)
      | (with_reducible exact LeO.none _)
      | (with_reducible refine LeO.ite ?_ ?_)
      | (with_reducible refine LeO.bind ?_ (fun _ => ?_))
      | exact ih0 _ _ _ _ _
      | exact LeO.none _
      | refine LeO.ite ?_ ?_
      | refine LeO.bind ?_ (fun _ => ?_)
set_option maxHeartbeats 8000000 in
set_option maxRecDepth 100000 in
theorem grids_group.calls (k : Nat) (a0_0 : Int) (a0_1 : Int) (a0_2 : Int) (r : List (S25)) (w : World) (h : grids_group.f k a0_0 a0_1 a0_2 = some r) :
    Calls Try.prog 39 #[.agg #[.int .i64 a0_0, .int .i64 a0_1, .int .i64 a0_2]] w fun e w' => ∃ v0_ : Value, e = .returned (v0_) ∧ Kd.R k25 25 w' w.heap.size (fun _ => True) v0_ r ∧ Below w.heap.size w w' := by
  have hu23 := Try.underlying23
  have hu25 := Try.underlying25
  have HB := Aside0.mk (Below.refl w.heap.size w)
  have H : (grids_group.l0 k ([] : List (S25)) 0 a0_0 a0_1 a0_2) = some r := h
  clear h
  have H' := Aside0.mk H
  clear H
  go_enter Try.func39, Try.ntmps39
  go_wp2_with (first | ((with_reducible refine gate_dst (N := 1) rfl ?_); refine box_event ?hg (N := 1) ?hd (cs := #[.int .i64 a0_0, .int .i64 a0_1, .int .i64 a0_2]) (t := 23) ?hr ?_; (case hd => rfl); (case hg => rfl); (case hr => first | (go_simp; done) | (go_simp; rfl)); intro gb168 hg w2 hbox hb; have BK168 := Aside0.mk (hbox); have GW168 := Aside0.mk ((by rw [hg]; exact (below_size (bnow HB)) : w.heap.size ≤ gb168)); have GE168 := Aside0.mk ((by rw [hg]; exact (below_size (bnow HB)) : w.heap.size ≤ gb168)); replace HB := bst HB hb; clear hb hbox hg))
  (try simp only [Act.put, List.setIfInBounds_toArray, List.set_cons_zero, List.set_cons_succ])
  go_loopg [3, 6] k (fun kq v3 v6 w' => ∃ (x3_1 : List (S25)) (x6_1 : Int), v6 = .int .i64 x6_1 ∧ Aside0 (grids_group.l0 kq x3_1 x6_1 a0_0 a0_1 a0_2 = some r) ∧ Aside0 (kq ≤ k) ∧ Aside0 (Kd.R k25 25 w' w.heap.size (fun _ => True) v3 x3_1) ∧ Aside0 (w'.heap[gb168]? = some (.cells #[.int .i64 a0_0, .int .i64 a0_1, .int .i64 a0_2] 23 (0, 0))) ∧ Aside0 (Below w.heap.size w w'))
  case atStart => exact ⟨(([] : List (S25))), (0), (by first | rfl | (simp; done) | (simp [*]; done)), H', ⟨Nat.le_refl _⟩, ⟨by first | exact Kd.R_nil _ _ _ _ _ | exact Kd.N_nil _ _ _ _ _ | exact Kd.V_nil _ _ _ _ _ | exact Kd.Q_nil _ _ _ _ _ | exact Kd.S_nil _ _ _ _ _⟩, ⟨pk BK168⟩, ⟨bnow HB⟩⟩
  case round =>
    clear H'
    try clear p2
    obtain ⟨x3_1, x6_1, rfl, HA, HK1, HO_3, BK168, HB⟩ := hrel
    cases gk with
    | zero => exact absurd HA.out (by simp [grids_group.l0])
    | succ k1 =>
      have H := HA.out
      clear HA
      simp only [grids_group.l0] at H
      by_cases c3 : x6_1 < 81
      · rw [if_pos c3] at H
        have c3b0 : decide (x6_1 < 81) = true := decide_eq_true c3
        clear c3
        replace H := Option.bind_eq_some_iff.mp H
        obtain ⟨z169, E40, H⟩ := H
        replace H : ((some (wrap64 (z169 - 1))).bind fun z170 => ((some (wrap64 (Int.tdiv x6_1 3))).bind fun z171 => ((some (Int.tmod z171 3)).bind fun z172 => ((some (wrap64 (z172 - 1))).bind fun z173 => ((some (wrap64 (Int.tdiv x6_1 9))).bind fun z174 => ((some (Int.tmod z174 3)).bind fun z175 => ((some (wrap64 (z175 - 1))).bind fun z176 => ((some (wrap64 (Int.tdiv x6_1 27))).bind fun z177 => ((some (wrap64 (z177 - 1))).bind fun z178 => ((grids_lead.f a0_0 a0_1 a0_2 z170 z173 z176 z178).bind fun bt180 => (if (bt180.1 == a0_0 && (bt180.2.1 == a0_1 && (bt180.2.2 == a0_2))) = true then (if x3_1.length < 4398046511104 then ((some (wrap64 (x6_1 + 1))).bind fun z186 => (grids_group.l0 k1 (x3_1 ++ [(⟨z170, z173, z176, z178⟩ : S25)]) z186 a0_0 a0_1 a0_2)) else (none)) else ((some (wrap64 (x6_1 + 1))).bind fun z187 => (grids_group.l0 k1 x3_1 z187 a0_0 a0_1 a0_2))))))))))))) = some r := H
        replace E40 := Option.some.inj E40
        replace H := Option.bind_eq_some_iff.mp H
        obtain ⟨z170, E50, H⟩ := H
        replace H : ((some (wrap64 (Int.tdiv x6_1 3))).bind fun z171 => ((some (Int.tmod z171 3)).bind fun z172 => ((some (wrap64 (z172 - 1))).bind fun z173 => ((some (wrap64 (Int.tdiv x6_1 9))).bind fun z174 => ((some (Int.tmod z174 3)).bind fun z175 => ((some (wrap64 (z175 - 1))).bind fun z176 => ((some (wrap64 (Int.tdiv x6_1 27))).bind fun z177 => ((some (wrap64 (z177 - 1))).bind fun z178 => ((grids_lead.f a0_0 a0_1 a0_2 z170 z173 z176 z178).bind fun bt180 => (if (bt180.1 == a0_0 && (bt180.2.1 == a0_1 && (bt180.2.2 == a0_2))) = true then (if x3_1.length < 4398046511104 then ((some (wrap64 (x6_1 + 1))).bind fun z186 => (grids_group.l0 k1 (x3_1 ++ [(⟨z170, z173, z176, z178⟩ : S25)]) z186 a0_0 a0_1 a0_2)) else (none)) else ((some (wrap64 (x6_1 + 1))).bind fun z187 => (grids_group.l0 k1 x3_1 z187 a0_0 a0_1 a0_2)))))))))))) = some r := H
        replace E50 := Option.some.inj E50
        have E5w : (IntKind.i64.wrap (z169 - 1)) = z170 := (i64_w _).trans E50
        replace H := Option.bind_eq_some_iff.mp H
        obtain ⟨z171, E60, H⟩ := H
        replace H : ((some (Int.tmod z171 3)).bind fun z172 => ((some (wrap64 (z172 - 1))).bind fun z173 => ((some (wrap64 (Int.tdiv x6_1 9))).bind fun z174 => ((some (Int.tmod z174 3)).bind fun z175 => ((some (wrap64 (z175 - 1))).bind fun z176 => ((some (wrap64 (Int.tdiv x6_1 27))).bind fun z177 => ((some (wrap64 (z177 - 1))).bind fun z178 => ((grids_lead.f a0_0 a0_1 a0_2 z170 z173 z176 z178).bind fun bt180 => (if (bt180.1 == a0_0 && (bt180.2.1 == a0_1 && (bt180.2.2 == a0_2))) = true then (if x3_1.length < 4398046511104 then ((some (wrap64 (x6_1 + 1))).bind fun z186 => (grids_group.l0 k1 (x3_1 ++ [(⟨z170, z173, z176, z178⟩ : S25)]) z186 a0_0 a0_1 a0_2)) else (none)) else ((some (wrap64 (x6_1 + 1))).bind fun z187 => (grids_group.l0 k1 x3_1 z187 a0_0 a0_1 a0_2))))))))))) = some r := H
        replace E60 := Option.some.inj E60
        have E6w : (IntKind.i64.wrap (Int.tdiv x6_1 3)) = z171 := (i64_w _).trans E60
        replace H := Option.bind_eq_some_iff.mp H
        obtain ⟨z172, E70, H⟩ := H
        replace H : ((some (wrap64 (z172 - 1))).bind fun z173 => ((some (wrap64 (Int.tdiv x6_1 9))).bind fun z174 => ((some (Int.tmod z174 3)).bind fun z175 => ((some (wrap64 (z175 - 1))).bind fun z176 => ((some (wrap64 (Int.tdiv x6_1 27))).bind fun z177 => ((some (wrap64 (z177 - 1))).bind fun z178 => ((grids_lead.f a0_0 a0_1 a0_2 z170 z173 z176 z178).bind fun bt180 => (if (bt180.1 == a0_0 && (bt180.2.1 == a0_1 && (bt180.2.2 == a0_2))) = true then (if x3_1.length < 4398046511104 then ((some (wrap64 (x6_1 + 1))).bind fun z186 => (grids_group.l0 k1 (x3_1 ++ [(⟨z170, z173, z176, z178⟩ : S25)]) z186 a0_0 a0_1 a0_2)) else (none)) else ((some (wrap64 (x6_1 + 1))).bind fun z187 => (grids_group.l0 k1 x3_1 z187 a0_0 a0_1 a0_2)))))))))) = some r := H
        replace E70 := Option.some.inj E70
        replace H := Option.bind_eq_some_iff.mp H
        obtain ⟨z173, E80, H⟩ := H
        replace H : ((some (wrap64 (Int.tdiv x6_1 9))).bind fun z174 => ((some (Int.tmod z174 3)).bind fun z175 => ((some (wrap64 (z175 - 1))).bind fun z176 => ((some (wrap64 (Int.tdiv x6_1 27))).bind fun z177 => ((some (wrap64 (z177 - 1))).bind fun z178 => ((grids_lead.f a0_0 a0_1 a0_2 z170 z173 z176 z178).bind fun bt180 => (if (bt180.1 == a0_0 && (bt180.2.1 == a0_1 && (bt180.2.2 == a0_2))) = true then (if x3_1.length < 4398046511104 then ((some (wrap64 (x6_1 + 1))).bind fun z186 => (grids_group.l0 k1 (x3_1 ++ [(⟨z170, z173, z176, z178⟩ : S25)]) z186 a0_0 a0_1 a0_2)) else (none)) else ((some (wrap64 (x6_1 + 1))).bind fun z187 => (grids_group.l0 k1 x3_1 z187 a0_0 a0_1 a0_2))))))))) = some r := H
        replace E80 := Option.some.inj E80
        have E8w : (IntKind.i64.wrap (z172 - 1)) = z173 := (i64_w _).trans E80
        replace H := Option.bind_eq_some_iff.mp H
        obtain ⟨z174, E90, H⟩ := H
        replace H : ((some (Int.tmod z174 3)).bind fun z175 => ((some (wrap64 (z175 - 1))).bind fun z176 => ((some (wrap64 (Int.tdiv x6_1 27))).bind fun z177 => ((some (wrap64 (z177 - 1))).bind fun z178 => ((grids_lead.f a0_0 a0_1 a0_2 z170 z173 z176 z178).bind fun bt180 => (if (bt180.1 == a0_0 && (bt180.2.1 == a0_1 && (bt180.2.2 == a0_2))) = true then (if x3_1.length < 4398046511104 then ((some (wrap64 (x6_1 + 1))).bind fun z186 => (grids_group.l0 k1 (x3_1 ++ [(⟨z170, z173, z176, z178⟩ : S25)]) z186 a0_0 a0_1 a0_2)) else (none)) else ((some (wrap64 (x6_1 + 1))).bind fun z187 => (grids_group.l0 k1 x3_1 z187 a0_0 a0_1 a0_2)))))))) = some r := H
        replace E90 := Option.some.inj E90
        have E9w : (IntKind.i64.wrap (Int.tdiv x6_1 9)) = z174 := (i64_w _).trans E90
        replace H := Option.bind_eq_some_iff.mp H
        obtain ⟨z175, E100, H⟩ := H
        replace H : ((some (wrap64 (z175 - 1))).bind fun z176 => ((some (wrap64 (Int.tdiv x6_1 27))).bind fun z177 => ((some (wrap64 (z177 - 1))).bind fun z178 => ((grids_lead.f a0_0 a0_1 a0_2 z170 z173 z176 z178).bind fun bt180 => (if (bt180.1 == a0_0 && (bt180.2.1 == a0_1 && (bt180.2.2 == a0_2))) = true then (if x3_1.length < 4398046511104 then ((some (wrap64 (x6_1 + 1))).bind fun z186 => (grids_group.l0 k1 (x3_1 ++ [(⟨z170, z173, z176, z178⟩ : S25)]) z186 a0_0 a0_1 a0_2)) else (none)) else ((some (wrap64 (x6_1 + 1))).bind fun z187 => (grids_group.l0 k1 x3_1 z187 a0_0 a0_1 a0_2))))))) = some r := H
        replace E100 := Option.some.inj E100
        replace H := Option.bind_eq_some_iff.mp H
        obtain ⟨z176, E110, H⟩ := H
        replace H : ((some (wrap64 (Int.tdiv x6_1 27))).bind fun z177 => ((some (wrap64 (z177 - 1))).bind fun z178 => ((grids_lead.f a0_0 a0_1 a0_2 z170 z173 z176 z178).bind fun bt180 => (if (bt180.1 == a0_0 && (bt180.2.1 == a0_1 && (bt180.2.2 == a0_2))) = true then (if x3_1.length < 4398046511104 then ((some (wrap64 (x6_1 + 1))).bind fun z186 => (grids_group.l0 k1 (x3_1 ++ [(⟨z170, z173, z176, z178⟩ : S25)]) z186 a0_0 a0_1 a0_2)) else (none)) else ((some (wrap64 (x6_1 + 1))).bind fun z187 => (grids_group.l0 k1 x3_1 z187 a0_0 a0_1 a0_2)))))) = some r := H
        replace E110 := Option.some.inj E110
        have E11w : (IntKind.i64.wrap (z175 - 1)) = z176 := (i64_w _).trans E110
        replace H := Option.bind_eq_some_iff.mp H
        obtain ⟨z177, E120, H⟩ := H
        replace H : ((some (wrap64 (z177 - 1))).bind fun z178 => ((grids_lead.f a0_0 a0_1 a0_2 z170 z173 z176 z178).bind fun bt180 => (if (bt180.1 == a0_0 && (bt180.2.1 == a0_1 && (bt180.2.2 == a0_2))) = true then (if x3_1.length < 4398046511104 then ((some (wrap64 (x6_1 + 1))).bind fun z186 => (grids_group.l0 k1 (x3_1 ++ [(⟨z170, z173, z176, z178⟩ : S25)]) z186 a0_0 a0_1 a0_2)) else (none)) else ((some (wrap64 (x6_1 + 1))).bind fun z187 => (grids_group.l0 k1 x3_1 z187 a0_0 a0_1 a0_2))))) = some r := H
        replace E120 := Option.some.inj E120
        have E12w : (IntKind.i64.wrap (Int.tdiv x6_1 27)) = z177 := (i64_w _).trans E120
        replace H := Option.bind_eq_some_iff.mp H
        obtain ⟨z178, E130, H⟩ := H
        replace H : ((grids_lead.f a0_0 a0_1 a0_2 z170 z173 z176 z178).bind fun bt180 => (if (bt180.1 == a0_0 && (bt180.2.1 == a0_1 && (bt180.2.2 == a0_2))) = true then (if x3_1.length < 4398046511104 then ((some (wrap64 (x6_1 + 1))).bind fun z186 => (grids_group.l0 k1 (x3_1 ++ [(⟨z170, z173, z176, z178⟩ : S25)]) z186 a0_0 a0_1 a0_2)) else (none)) else ((some (wrap64 (x6_1 + 1))).bind fun z187 => (grids_group.l0 k1 x3_1 z187 a0_0 a0_1 a0_2)))) = some r := H
        replace E130 := Option.some.inj E130
        have E13w : (IntKind.i64.wrap (z177 - 1)) = z178 := (i64_w _).trans E130
        replace H := Option.bind_eq_some_iff.mp H
        obtain ⟨⟨t180, t181, t182⟩, A140, H⟩ := H
        replace H : (if (t180 == a0_0 && (t181 == a0_1 && (t182 == a0_2))) = true then (if x3_1.length < 4398046511104 then ((some (wrap64 (x6_1 + 1))).bind fun z186 => (grids_group.l0 k1 (x3_1 ++ [(⟨z170, z173, z176, z178⟩ : S25)]) z186 a0_0 a0_1 a0_2)) else (none)) else ((some (wrap64 (x6_1 + 1))).bind fun z187 => (grids_group.l0 k1 x3_1 z187 a0_0 a0_1 a0_2))) = some r := H
        have A14 := Aside0.mk A140
        clear A140
        by_cases c15 : (t180 == a0_0 && (t181 == a0_1 && (t182 == a0_2))) = true
        · rw [if_pos c15] at H
          have c15b0 : (t180 == a0_0 && (t181 == a0_1 && (t182 == a0_2))) = true := c15
          (try (have c15b1 : decide (t180 = a0_0 && (t181 == a0_1 && (t182 == a0_2))) = true := by simpa using c15))
          (try (have c15b2 : (t180 == a0_0 && (t181 == a0_1 && (t182 == a0_2))) = true := by simpa using c15))
          clear c15
          by_cases c16 : x3_1.length < 4398046511104
          · rw [if_pos c16] at H
            have LMc16 := Aside0.mk c16
            clear c16
            obtain ⟨y183, hy183⟩ : ∃ y_ : List (S25), y_ = (x3_1 ++ [(⟨z170, z173, z176, z178⟩ : S25)]) := ⟨_, rfl⟩
            replace H : ((some (wrap64 (x6_1 + 1))).bind fun z186 => (grids_group.l0 k1 y183 z186 a0_0 a0_1 a0_2)) = some r := by first | (rw [hy183]; with_reducible exact H) | (have H2_ := (Option.bind_some _ _).symm.trans H; rw [hy183]; with_reducible exact H2_) | (have H2_ := (Option.bind_some _ _).symm.trans H; with_reducible exact H2_) | with_reducible exact H | (rw [hy183]; exact H) | exact H
            have Ny183 := Aside0.mk hy183
            clear hy183
            replace H := Option.bind_eq_some_iff.mp H
            obtain ⟨z186, E170, H⟩ := H
            replace H : (grids_group.l0 k1 y183 z186 a0_0 a0_1 a0_2) = some r := H
            replace E170 := Option.some.inj E170
            have E17w : (IntKind.i64.wrap (x6_1 + 1)) = z186 := (i64_w _).trans E170
            have H' := Aside0.mk H
            clear H
            try go_wp2_with (first | ((with_reducible refine gate_dst (N := 5) rfl ?_); refine box_event ?hg (N := 5) ?hd (cs := #[.int .i64 0, .int .i64 0, .int .i64 0, .int .i64 0]) (t := 25) ?hr ?_; (case hd => rfl); (case hg => rfl); (case hr => first | (go_simp; done) | (go_simp; rfl)); intro gb179 hg w18 hbox hb; have n0_ := Aside0.mk (Kd.R_below (Kd.R_elderB (by (with_reducible repeat (first | apply Kd.R_alloc | apply Kd.R_drewN | apply Kd.R_drew)); exact HO_3.out) gb179 (Nat.le_of_eq hg.symm)) hb); have n1_ := bb BK168 hb; have n2_ := bst HB hb; have n3_ := Aside0.mk (hbox); have n4_ := Aside0.mk ((by rw [hg]; exact (below_size (bnow HB)) : w.heap.size ≤ gb179)); have n5_ := Aside0.mk ((by rw [hg]; exact (below_size (bnow HB)) : w.heap.size ≤ gb179)); have n6_ := Aside0.mk ((by rw [hg]; exact Nat.ne_of_lt (blk_lt (g := gb168) (o := .cells #[.int .i64 a0_0, .int .i64 a0_1, .int .i64 a0_2] 23 (0, 0)) (pk BK168)) : gb168 ≠ gb179)); have n7_ := Aside0.mk ((by rw [hg]; exact Nat.ne_of_gt (blk_lt (g := gb168) (o := .cells #[.int .i64 a0_0, .int .i64 a0_1, .int .i64 a0_2] 23 (0, 0)) (pk BK168)) : gb179 ≠ gb168)); clear HO_3; clear BK168; clear HB; have HO_3 := n0_; have BK168 := n1_; have HB := n2_; have BK179 := n3_; have GW179 := n4_; have GE179 := n5_; have NB168_179 := n6_; have NB179_168 := n7_; clear n0_ n1_ n2_ n3_ n4_ n5_ n6_ n7_; clear hb hbox hg; have hnb19 := NB179_168.out; have hnc19 := NB168_179.out; have hcz20_0 : w18.cell? ⟨gb179, 0, none⟩ = some (.int .i64 0) := (blk_cell BK179.out 0).trans rfl; have hcz20_1 : w18.cell? ⟨gb179, 1, none⟩ = some (.int .i64 0) := (blk_cell BK179.out 1).trans rfl; have hcz20_2 : w18.cell? ⟨gb179, 2, none⟩ = some (.int .i64 0) := (blk_cell BK179.out 2).trans rfl; have hcz20_3 : w18.cell? ⟨gb179, 3, none⟩ = some (.int .i64 0) := (blk_cell BK179.out 3).trans rfl; have hfz20_0 := blk_frozen BK179.out 0; have hfz20_1 := blk_frozen BK179.out 1; have hfz20_2 := blk_frozen BK179.out 2; have hfz20_3 := blk_frozen BK179.out 3) | ((with_reducible refine gate_store (t := 25) (p := 5) rfl ?_); refine store_event (t := 25) (p := 5) (v := ?vo_w21) (w1 := ((((w18.setCell ⟨gb179, 0, none⟩ (.int .i64 z170)).setCell ⟨gb179, 1, none⟩ (.int .i64 z173)).setCell ⟨gb179, 2, none⟩ (.int .i64 z176)).setCell ⟨gb179, 3, none⟩ (.int .i64 z178))) ?hg ?ho ?hn ?hr ?_; (case ho => rfl); (case hg => rfl); (case hn => rfl); (case hr => first | (go_simp; done) | (go_simp; rfl)); intro w21 hw; have n0_ : Aside0 (Kd.R k25 25 w21 w.heap.size (fun k_ => k_ ≠ gb179) u3 x3_1) := ⟨(by rw [hw]; exact (by (with_reducible repeat (first | apply Kd.R_alloc | apply Kd.R_drewN | apply Kd.R_drew)); exact Kd.R_mono (Kd.R_far (p := ⟨gb179, 3, none⟩) (Kd.R_far (p := ⟨gb179, 2, none⟩) (Kd.R_far (p := ⟨gb179, 1, none⟩) (Kd.R_far (p := ⟨gb179, 0, none⟩) (Kd.R_mono HO_3.out (fun k_ hk => (⟨hk, hk.2⟩ : _ ∧ k_ ≠ gb179))) (fun _ hk => hk.2) (.int .i64 z170)) (fun _ hk => hk.2) (.int .i64 z173)) (fun _ hk => hk.2) (.int .i64 z176)) (fun _ hk => hk.2) (.int .i64 z178)) (fun _ hk => hk.1.2)))⟩; have n1_ : Aside0 (w21.heap[gb168]? = some (.cells #[.int .i64 a0_0, .int .i64 a0_1, .int .i64 a0_2] 23 (0, 0))) := ⟨(by rw [hw]; exact (by (with_reducible repeat (first | refine blk_drewN ?_ _ | refine blk_drew ?_ | refine blk_alloc ?_ _)); refine blk_far ?_ NB168_179.out _; (with_reducible repeat (first | refine blk_drewN ?_ _ | refine blk_drew ?_ | refine blk_alloc ?_ _)); refine blk_far ?_ NB168_179.out _; (with_reducible repeat (first | refine blk_drewN ?_ _ | refine blk_drew ?_ | refine blk_alloc ?_ _)); refine blk_far ?_ NB168_179.out _; (with_reducible repeat (first | refine blk_drewN ?_ _ | refine blk_drew ?_ | refine blk_alloc ?_ _)); refine blk_far ?_ NB168_179.out _; (with_reducible repeat (first | refine blk_drewN ?_ _ | refine blk_drew ?_ | refine blk_alloc ?_ _)); exact BK168.out))⟩; have n2_ : Aside0 (w21.heap[gb179]? = some (.cells #[.int .i64 z170, .int .i64 z173, .int .i64 z176, .int .i64 z178] 25 (0, 0))) := ⟨(by rw [hw]; exact (by (with_reducible repeat (first | refine blk_drewN ?_ _ | refine blk_drew ?_ | refine blk_alloc ?_ _)); refine blk_put (cs := #[.int .i64 z170, .int .i64 z173, .int .i64 z176, .int .i64 0]) ?_ 3 _ rfl; (with_reducible repeat (first | refine blk_drewN ?_ _ | refine blk_drew ?_ | refine blk_alloc ?_ _)); refine blk_put (cs := #[.int .i64 z170, .int .i64 z173, .int .i64 0, .int .i64 0]) ?_ 2 _ rfl; (with_reducible repeat (first | refine blk_drewN ?_ _ | refine blk_drew ?_ | refine blk_alloc ?_ _)); refine blk_put (cs := #[.int .i64 z170, .int .i64 0, .int .i64 0, .int .i64 0]) ?_ 1 _ rfl; (with_reducible repeat (first | refine blk_drewN ?_ _ | refine blk_drew ?_ | refine blk_alloc ?_ _)); refine blk_put (cs := #[.int .i64 0, .int .i64 0, .int .i64 0, .int .i64 0]) ?_ 0 _ rfl; (with_reducible repeat (first | refine blk_drewN ?_ _ | refine blk_drew ?_ | refine blk_alloc ?_ _)); exact BK179.out))⟩; have n3_ : Aside0 (Below w.heap.size w w21) := ⟨(by rw [hw]; exact (bnow HB))⟩; clear hw; clear HO_3; clear BK168; clear BK179; clear HB; have HO_3 := n0_; have BK168 := n1_; have BK179 := n2_; have HB := n3_; clear n0_ n1_ n2_ n3_))
            have n0_ := Aside0.mk (Kd.R_drew HO_3.out)
            have n1_ := Aside0.mk (blk_drew BK168.out)
            have n2_ := Aside0.mk (blk_drew BK179.out)
            have n3_ := Aside0.mk (below_drew1 HB.out)
            clear HO_3
            clear BK168
            clear BK179
            clear HB
            have HO_3 := n0_
            have BK168 := n1_
            have BK179 := n2_
            have HB := n3_
            clear n0_ n1_ n2_ n3_
            refine start_ (n := 5) (S := fun w' => w'.cell? ⟨gb168, 0, none⟩ = some (.int .i64 a0_0) ∧ w'.cell? ⟨gb168, 1, none⟩ = some (.int .i64 a0_1) ∧ w'.cell? ⟨gb168, 2, none⟩ = some (.int .i64 a0_2) ∧ w'.cell? ⟨gb179, 0, none⟩ = some (.int .i64 z170) ∧ w'.cell? ⟨gb179, 1, none⟩ = some (.int .i64 z173) ∧ w'.cell? ⟨gb179, 2, none⟩ = some (.int .i64 z176) ∧ w'.cell? ⟨gb179, 3, none⟩ = some (.int .i64 z178)) (ds := []) #[false, false, false, false, false] (by kernel_rfl) rfl rfl ⟨(blk_cell BK168.out 0).trans rfl, (blk_cell BK168.out 1).trans rfl, (blk_cell BK168.out 2).trans rfl, (blk_cell BK179.out 0).trans rfl, (blk_cell BK179.out 1).trans rfl, (blk_cell BK179.out 2).trans rfl, (blk_cell BK179.out 3).trans rfl⟩ (fun hHeld => ?_)
            generalize w21.drew = w22 at HO_3 BK168 BK179 HB hHeld ⊢
            refine take_ (i := 0) (N := some 24) (v := ?_) (a' := ?_) #[true, false, false, false, false] rfl rfl (by kernel_rfl) (fun _ _ _ h => h) (Or.inl ⟨by rfl, ?_⟩) hHeld ?_ ?_
            rotate_left
            · rintro w' ⟨s0, s1, s2, s3, s4, s5, s6⟩
              go_simp
              with_reducible rfl
            rotate_left
            · simp only [Act.put, List.setIfInBounds_toArray, List.set_cons_zero, List.set_cons_succ, i64_w, i32_w]
              rfl
            refine take_ (i := 1) (N := some 25) (v := ?_) (a' := ?_) #[true, true, false, false, false] rfl rfl (by kernel_rfl) (fun _ _ _ h => h) (Or.inl ⟨by rfl, ?_⟩) hHeld ?_ ?_
            rotate_left
            · rintro w' ⟨s0, s1, s2, s3, s4, s5, s6⟩
              go_simp
              with_reducible rfl
            rotate_left
            · simp only [Act.put, List.setIfInBounds_toArray, List.set_cons_zero, List.set_cons_succ, i64_w, i32_w]
              rfl
            refine take_ (i := 3) (N := some 27) (v := ?_) (a' := ?_) #[true, true, false, true, false] rfl rfl (by kernel_rfl) (fun _ _ _ h => h) (Or.inl ⟨by rfl, ?_⟩) hHeld ?_ ?_
            rotate_left
            · rintro w' ⟨s0, s1, s2, s3, s4, s5, s6⟩
              go_simp
              with_reducible rfl
            rotate_left
            · simp only [Act.put, List.setIfInBounds_toArray, List.set_cons_zero, List.set_cons_succ, i64_w, i32_w]
              rfl
            refine one_ (i := 2) (N := some 26) #[true, true, true, true, false] rfl rfl (by kernel_rfl) (by decide) (fun K hK => ?_)
            refine goes_ Try.func60 (by kernel_rfl) rfl #[.agg #[.int .i64 a0_0, .int .i64 a0_1, .int .i64 a0_2], .agg #[.int .i64 z170, .int .i64 z173, .int .i64 z176, .int .i64 z178]] (by rfl) rfl rfl am ?_
            with_reducible refine (grids_lead.calls a0_0 a0_1 a0_2 z170 z173 z176 z178 t180 t181 t182 _ A14.out).mono ?_
            rintro e w23 ⟨rfl, hb⟩
            refine ⟨_, rfl, ?_⟩
            have n0_ := Aside0.mk (Kd.R_below (by (with_reducible repeat (first | apply Kd.R_alloc | apply Kd.R_drewN | apply Kd.R_drew)); exact HO_3.out) hb)
            have n1_ := bb BK168 hb
            have n2_ := bb BK179 hb
            have n3_ := bst HB hb
            clear HO_3
            clear BK168
            clear BK179
            clear HB
            have HO_3 := n0_
            have BK168 := n1_
            have BK179 := n2_
            have HB := n3_
            clear n0_ n1_ n2_ n3_
            (try clear hb)
            (try clear hb2)
            (try clear hk)
            (try clear hi)
            refine hK.out _ _ ⟨(blk_cell BK168.out 0).trans rfl, (blk_cell BK168.out 1).trans rfl, (blk_cell BK168.out 2).trans rfl, (blk_cell BK179.out 0).trans rfl, (blk_cell BK179.out 1).trans rfl, (blk_cell BK179.out 2).trans rfl, (blk_cell BK179.out 3).trans rfl⟩ (fun hHeld => ?_)
            clear hK K
            refine norm_ (a' := ?_) ?_ ?_
            rotate_left
            · show Act.put _ (some 26) _ = _
              simp only [Act.put, List.setIfInBounds_toArray, List.set_cons_zero, List.set_cons_succ, i64_w, i32_w]
              rfl
            refine pure_ (i := 4) (N := some 28) (v := ?_) (a' := ?_) #[true, true, true, true, true] rfl rfl (by kernel_rfl) (fun _ _ _ h => h) (Or.inl ⟨by rfl, ?_⟩) ?_ ?_
            rotate_left
            · intro w'
              go_simp
              with_reducible rfl
            rotate_left
            · simp only [Act.put, List.setIfInBounds_toArray, List.set_cons_zero, List.set_cons_succ, i64_w, i32_w]
              rfl
            refine done_ (by kernel_rfl) ?_
            have hcz24_0 : w23.cell? ⟨gb179, 0, none⟩ = some (.int .i64 z170) := (blk_cell BK179.out 0).trans rfl
            have hcz24_1 : w23.cell? ⟨gb179, 1, none⟩ = some (.int .i64 z173) := (blk_cell BK179.out 1).trans rfl
            have hcz24_2 : w23.cell? ⟨gb179, 2, none⟩ = some (.int .i64 z176) := (blk_cell BK179.out 2).trans rfl
            have hcz24_3 : w23.cell? ⟨gb179, 3, none⟩ = some (.int .i64 z178) := (blk_cell BK179.out 3).trans rfl
            have hfz24_0 := blk_frozen BK179.out 0
            have hfz24_1 := blk_frozen BK179.out 1
            have hfz24_2 := blk_frozen BK179.out 2
            have hfz24_3 := blk_frozen BK179.out 3
            try go_wp2_with (first | ((with_reducible refine gate_builtin (b := .append) (xs := #[.tmp 29, .tmp 31]) rfl ?_); at_builtin; refine Kd.R_append k25 (w0 := w) w.heap.size rfl (.tmp 29) (.tmp 31) 48 25 (.agg #[(.int .i64 0), (.int .i64 0), (.int .i64 0), (.int .i64 0)]) 32 rfl Try.underlying48 info25 rfl (by decide) (by omega) u3 x3_1 (⟨z170, z173, z176, z178⟩ : S25) [.int .i64 z170, .int .i64 z173, .int .i64 z176, .int .i64 z178] (fun k_ => k_ ≠ gb179) (fun _ => False) rfl rfl ?aP (fun _ hk => hk.elim) ?aF ?aO ?aB ?aS ?aL ?_; (case aP => exact k25_mkM _ _ _ (⟨z170, z173, z176, z178⟩ : S25)); (case aB => exact (bnow HB)); (case aF => exact (fun k_ hk => Kd.freshB (g := gb179) (o := .cells #[.int .i64 z170, .int .i64 z173, .int .i64 z176, .int .i64 z178] 25 (0, 0)) (pk BK179) k_ hk)); (case aO => exact (by (with_reducible repeat (first | apply Kd.R_alloc | apply Kd.R_drewN | apply Kd.R_drew)); exact HO_3.out)); (case aS => exact (below_size (bnow HB))); (case aL => have := LMc16.out; omega); intro v184 w25 ho hb hg hat; rw [← Ny183.out] at ho; have n0_ := Aside0.mk (blk_grown (g := gb168) (o := .cells #[.int .i64 a0_0, .int .i64 a0_1, .int .i64 a0_2] 23 (0, 0)) (pk BK168) hg (Kd.R_ne HO_3.out BK168.out (by decide))); have n1_ := Aside0.mk (blk_grown (g := gb179) (o := .cells #[.int .i64 z170, .int .i64 z173, .int .i64 z176, .int .i64 z178] 25 (0, 0)) (pk BK179) hg (Kd.R_away HO_3.out (fun _ hk => hk))); have n2_ := Aside0.mk (hb); have n3_ := Aside0.mk (ho); clear BK168; clear BK179; clear HB; clear HO_3; have BK168 := n0_; have BK179 := n1_; have HB := n2_; have HO185 := n3_; clear n0_ n1_ n2_ n3_; clear ho hb hg hat))
            go_roundg k1
            case measure => have := HK1.out; omega
            case rel => exact ⟨(y183), (z186), (by first | rfl | (simp; done) | (simp [*]; done)), H', ⟨by have := HK1.out; omega⟩, ⟨by (with_reducible repeat (first | apply Kd.R_alloc | apply Kd.R_drewN | apply Kd.R_drew)); exact Kd.R_mono HO185.out (fun _ hk => trivial)⟩, ⟨pk BK168⟩, ⟨bnow HB⟩⟩
          · rw [if_neg c16] at H
            exact absurd H (by simp)
        · rw [if_neg c15] at H
          have c15b0 : (t180 == a0_0 && (t181 == a0_1 && (t182 == a0_2))) = false := by simpa using c15
          (try (have c15b1 : decide (t180 = a0_0 && (t181 == a0_1 && (t182 == a0_2))) = false := by simpa using c15))
          (try (have c15b2 : (t180 == a0_0 && (t181 == a0_1 && (t182 == a0_2))) = false := by simpa using c15))
          (try (have c15b3 : ¬ (t180 = a0_0 && (t181 == a0_1 && (t182 == a0_2))) := by simpa using c15))
          clear c15
          replace H := Option.bind_eq_some_iff.mp H
          obtain ⟨z187, E260, H⟩ := H
          replace H : (grids_group.l0 k1 x3_1 z187 a0_0 a0_1 a0_2) = some r := H
          replace E260 := Option.some.inj E260
          have E26w : (IntKind.i64.wrap (x6_1 + 1)) = z187 := (i64_w _).trans E260
          have H' := Aside0.mk H
          clear H
          try go_wp2_with (first | ((with_reducible refine gate_dst (N := 5) rfl ?_); refine box_event ?hg (N := 5) ?hd (cs := #[.int .i64 0, .int .i64 0, .int .i64 0, .int .i64 0]) (t := 25) ?hr ?_; (case hd => rfl); (case hg => rfl); (case hr => first | (go_simp; done) | (go_simp; rfl)); intro gb179 hg w27 hbox hb; have n0_ := Aside0.mk (Kd.R_below (Kd.R_elderB (by (with_reducible repeat (first | apply Kd.R_alloc | apply Kd.R_drewN | apply Kd.R_drew)); exact HO_3.out) gb179 (Nat.le_of_eq hg.symm)) hb); have n1_ := bb BK168 hb; have n2_ := bst HB hb; have n3_ := Aside0.mk (hbox); have n4_ := Aside0.mk ((by rw [hg]; exact (below_size (bnow HB)) : w.heap.size ≤ gb179)); have n5_ := Aside0.mk ((by rw [hg]; exact (below_size (bnow HB)) : w.heap.size ≤ gb179)); have n6_ := Aside0.mk ((by rw [hg]; exact Nat.ne_of_lt (blk_lt (g := gb168) (o := .cells #[.int .i64 a0_0, .int .i64 a0_1, .int .i64 a0_2] 23 (0, 0)) (pk BK168)) : gb168 ≠ gb179)); have n7_ := Aside0.mk ((by rw [hg]; exact Nat.ne_of_gt (blk_lt (g := gb168) (o := .cells #[.int .i64 a0_0, .int .i64 a0_1, .int .i64 a0_2] 23 (0, 0)) (pk BK168)) : gb179 ≠ gb168)); clear HO_3; clear BK168; clear HB; have HO_3 := n0_; have BK168 := n1_; have HB := n2_; have BK179 := n3_; have GW179 := n4_; have GE179 := n5_; have NB168_179 := n6_; have NB179_168 := n7_; clear n0_ n1_ n2_ n3_ n4_ n5_ n6_ n7_; clear hb hbox hg; have hnb28 := NB179_168.out; have hnc28 := NB168_179.out; have hcz29_0 : w27.cell? ⟨gb179, 0, none⟩ = some (.int .i64 0) := (blk_cell BK179.out 0).trans rfl; have hcz29_1 : w27.cell? ⟨gb179, 1, none⟩ = some (.int .i64 0) := (blk_cell BK179.out 1).trans rfl; have hcz29_2 : w27.cell? ⟨gb179, 2, none⟩ = some (.int .i64 0) := (blk_cell BK179.out 2).trans rfl; have hcz29_3 : w27.cell? ⟨gb179, 3, none⟩ = some (.int .i64 0) := (blk_cell BK179.out 3).trans rfl; have hfz29_0 := blk_frozen BK179.out 0; have hfz29_1 := blk_frozen BK179.out 1; have hfz29_2 := blk_frozen BK179.out 2; have hfz29_3 := blk_frozen BK179.out 3) | ((with_reducible refine gate_store (t := 25) (p := 5) rfl ?_); refine store_event (t := 25) (p := 5) (v := ?vo_w30) (w1 := ((((w27.setCell ⟨gb179, 0, none⟩ (.int .i64 z170)).setCell ⟨gb179, 1, none⟩ (.int .i64 z173)).setCell ⟨gb179, 2, none⟩ (.int .i64 z176)).setCell ⟨gb179, 3, none⟩ (.int .i64 z178))) ?hg ?ho ?hn ?hr ?_; (case ho => rfl); (case hg => rfl); (case hn => rfl); (case hr => first | (go_simp; done) | (go_simp; rfl)); intro w30 hw; have n0_ : Aside0 (Kd.R k25 25 w30 w.heap.size (fun k_ => k_ ≠ gb179) u3 x3_1) := ⟨(by rw [hw]; exact (by (with_reducible repeat (first | apply Kd.R_alloc | apply Kd.R_drewN | apply Kd.R_drew)); exact Kd.R_mono (Kd.R_far (p := ⟨gb179, 3, none⟩) (Kd.R_far (p := ⟨gb179, 2, none⟩) (Kd.R_far (p := ⟨gb179, 1, none⟩) (Kd.R_far (p := ⟨gb179, 0, none⟩) (Kd.R_mono HO_3.out (fun k_ hk => (⟨hk, hk.2⟩ : _ ∧ k_ ≠ gb179))) (fun _ hk => hk.2) (.int .i64 z170)) (fun _ hk => hk.2) (.int .i64 z173)) (fun _ hk => hk.2) (.int .i64 z176)) (fun _ hk => hk.2) (.int .i64 z178)) (fun _ hk => hk.1.2)))⟩; have n1_ : Aside0 (w30.heap[gb168]? = some (.cells #[.int .i64 a0_0, .int .i64 a0_1, .int .i64 a0_2] 23 (0, 0))) := ⟨(by rw [hw]; exact (by (with_reducible repeat (first | refine blk_drewN ?_ _ | refine blk_drew ?_ | refine blk_alloc ?_ _)); refine blk_far ?_ NB168_179.out _; (with_reducible repeat (first | refine blk_drewN ?_ _ | refine blk_drew ?_ | refine blk_alloc ?_ _)); refine blk_far ?_ NB168_179.out _; (with_reducible repeat (first | refine blk_drewN ?_ _ | refine blk_drew ?_ | refine blk_alloc ?_ _)); refine blk_far ?_ NB168_179.out _; (with_reducible repeat (first | refine blk_drewN ?_ _ | refine blk_drew ?_ | refine blk_alloc ?_ _)); refine blk_far ?_ NB168_179.out _; (with_reducible repeat (first | refine blk_drewN ?_ _ | refine blk_drew ?_ | refine blk_alloc ?_ _)); exact BK168.out))⟩; have n2_ : Aside0 (w30.heap[gb179]? = some (.cells #[.int .i64 z170, .int .i64 z173, .int .i64 z176, .int .i64 z178] 25 (0, 0))) := ⟨(by rw [hw]; exact (by (with_reducible repeat (first | refine blk_drewN ?_ _ | refine blk_drew ?_ | refine blk_alloc ?_ _)); refine blk_put (cs := #[.int .i64 z170, .int .i64 z173, .int .i64 z176, .int .i64 0]) ?_ 3 _ rfl; (with_reducible repeat (first | refine blk_drewN ?_ _ | refine blk_drew ?_ | refine blk_alloc ?_ _)); refine blk_put (cs := #[.int .i64 z170, .int .i64 z173, .int .i64 0, .int .i64 0]) ?_ 2 _ rfl; (with_reducible repeat (first | refine blk_drewN ?_ _ | refine blk_drew ?_ | refine blk_alloc ?_ _)); refine blk_put (cs := #[.int .i64 z170, .int .i64 0, .int .i64 0, .int .i64 0]) ?_ 1 _ rfl; (with_reducible repeat (first | refine blk_drewN ?_ _ | refine blk_drew ?_ | refine blk_alloc ?_ _)); refine blk_put (cs := #[.int .i64 0, .int .i64 0, .int .i64 0, .int .i64 0]) ?_ 0 _ rfl; (with_reducible repeat (first | refine blk_drewN ?_ _ | refine blk_drew ?_ | refine blk_alloc ?_ _)); exact BK179.out))⟩; have n3_ : Aside0 (Below w.heap.size w w30) := ⟨(by rw [hw]; exact (bnow HB))⟩; clear hw; clear HO_3; clear BK168; clear BK179; clear HB; have HO_3 := n0_; have BK168 := n1_; have BK179 := n2_; have HB := n3_; clear n0_ n1_ n2_ n3_))
          have n0_ := Aside0.mk (Kd.R_drew HO_3.out)
          have n1_ := Aside0.mk (blk_drew BK168.out)
          have n2_ := Aside0.mk (blk_drew BK179.out)
          have n3_ := Aside0.mk (below_drew1 HB.out)
          clear HO_3
          clear BK168
          clear BK179
          clear HB
          have HO_3 := n0_
          have BK168 := n1_
          have BK179 := n2_
          have HB := n3_
          clear n0_ n1_ n2_ n3_
          refine start_ (n := 5) (S := fun w' => w'.cell? ⟨gb168, 0, none⟩ = some (.int .i64 a0_0) ∧ w'.cell? ⟨gb168, 1, none⟩ = some (.int .i64 a0_1) ∧ w'.cell? ⟨gb168, 2, none⟩ = some (.int .i64 a0_2) ∧ w'.cell? ⟨gb179, 0, none⟩ = some (.int .i64 z170) ∧ w'.cell? ⟨gb179, 1, none⟩ = some (.int .i64 z173) ∧ w'.cell? ⟨gb179, 2, none⟩ = some (.int .i64 z176) ∧ w'.cell? ⟨gb179, 3, none⟩ = some (.int .i64 z178)) (ds := []) #[false, false, false, false, false] (by kernel_rfl) rfl rfl ⟨(blk_cell BK168.out 0).trans rfl, (blk_cell BK168.out 1).trans rfl, (blk_cell BK168.out 2).trans rfl, (blk_cell BK179.out 0).trans rfl, (blk_cell BK179.out 1).trans rfl, (blk_cell BK179.out 2).trans rfl, (blk_cell BK179.out 3).trans rfl⟩ (fun hHeld => ?_)
          generalize w30.drew = w31 at HO_3 BK168 BK179 HB hHeld ⊢
          refine take_ (i := 0) (N := some 24) (v := ?_) (a' := ?_) #[true, false, false, false, false] rfl rfl (by kernel_rfl) (fun _ _ _ h => h) (Or.inl ⟨by rfl, ?_⟩) hHeld ?_ ?_
          rotate_left
          · rintro w' ⟨s0, s1, s2, s3, s4, s5, s6⟩
            go_simp
            with_reducible rfl
          rotate_left
          · simp only [Act.put, List.setIfInBounds_toArray, List.set_cons_zero, List.set_cons_succ, i64_w, i32_w]
            rfl
          refine take_ (i := 1) (N := some 25) (v := ?_) (a' := ?_) #[true, true, false, false, false] rfl rfl (by kernel_rfl) (fun _ _ _ h => h) (Or.inl ⟨by rfl, ?_⟩) hHeld ?_ ?_
          rotate_left
          · rintro w' ⟨s0, s1, s2, s3, s4, s5, s6⟩
            go_simp
            with_reducible rfl
          rotate_left
          · simp only [Act.put, List.setIfInBounds_toArray, List.set_cons_zero, List.set_cons_succ, i64_w, i32_w]
            rfl
          refine take_ (i := 3) (N := some 27) (v := ?_) (a' := ?_) #[true, true, false, true, false] rfl rfl (by kernel_rfl) (fun _ _ _ h => h) (Or.inl ⟨by rfl, ?_⟩) hHeld ?_ ?_
          rotate_left
          · rintro w' ⟨s0, s1, s2, s3, s4, s5, s6⟩
            go_simp
            with_reducible rfl
          rotate_left
          · simp only [Act.put, List.setIfInBounds_toArray, List.set_cons_zero, List.set_cons_succ, i64_w, i32_w]
            rfl
          refine one_ (i := 2) (N := some 26) #[true, true, true, true, false] rfl rfl (by kernel_rfl) (by decide) (fun K hK => ?_)
          refine goes_ Try.func60 (by kernel_rfl) rfl #[.agg #[.int .i64 a0_0, .int .i64 a0_1, .int .i64 a0_2], .agg #[.int .i64 z170, .int .i64 z173, .int .i64 z176, .int .i64 z178]] (by rfl) rfl rfl am ?_
          with_reducible refine (grids_lead.calls a0_0 a0_1 a0_2 z170 z173 z176 z178 t180 t181 t182 _ A14.out).mono ?_
          rintro e w32 ⟨rfl, hb⟩
          refine ⟨_, rfl, ?_⟩
          have n0_ := Aside0.mk (Kd.R_below (by (with_reducible repeat (first | apply Kd.R_alloc | apply Kd.R_drewN | apply Kd.R_drew)); exact HO_3.out) hb)
          have n1_ := bb BK168 hb
          have n2_ := bb BK179 hb
          have n3_ := bst HB hb
          clear HO_3
          clear BK168
          clear BK179
          clear HB
          have HO_3 := n0_
          have BK168 := n1_
          have BK179 := n2_
          have HB := n3_
          clear n0_ n1_ n2_ n3_
          (try clear hb)
          (try clear hb2)
          (try clear hk)
          (try clear hi)
          refine hK.out _ _ ⟨(blk_cell BK168.out 0).trans rfl, (blk_cell BK168.out 1).trans rfl, (blk_cell BK168.out 2).trans rfl, (blk_cell BK179.out 0).trans rfl, (blk_cell BK179.out 1).trans rfl, (blk_cell BK179.out 2).trans rfl, (blk_cell BK179.out 3).trans rfl⟩ (fun hHeld => ?_)
          clear hK K
          refine norm_ (a' := ?_) ?_ ?_
          rotate_left
          · show Act.put _ (some 26) _ = _
            simp only [Act.put, List.setIfInBounds_toArray, List.set_cons_zero, List.set_cons_succ, i64_w, i32_w]
            rfl
          refine pure_ (i := 4) (N := some 28) (v := ?_) (a' := ?_) #[true, true, true, true, true] rfl rfl (by kernel_rfl) (fun _ _ _ h => h) (Or.inl ⟨by rfl, ?_⟩) ?_ ?_
          rotate_left
          · intro w'
            go_simp
            with_reducible rfl
          rotate_left
          · simp only [Act.put, List.setIfInBounds_toArray, List.set_cons_zero, List.set_cons_succ, i64_w, i32_w]
            rfl
          refine done_ (by kernel_rfl) ?_
          try go_wp2
          go_roundg k1
          case measure => have := HK1.out; omega
          case rel => exact ⟨(x3_1), (z187), (by first | rfl | (simp; done) | (simp [*]; done)), H', ⟨by have := HK1.out; omega⟩, ⟨by (with_reducible repeat (first | apply Kd.R_alloc | apply Kd.R_drewN | apply Kd.R_drew)); exact Kd.R_mono HO_3.out (fun _ hk => trivial)⟩, ⟨pk BK168⟩, ⟨bnow HB⟩⟩
      · rw [if_neg c3] at H
        have c3b0 : decide (x6_1 < 81) = false := decide_eq_false c3
        clear c3
        obtain rfl := Option.some.inj H
        go_wp2
        go_ret
        exact ⟨_, by first | rfl | (simp [errW_none, errW_some] <;> rfl) | (simp [*, errW_none, errW_some] <;> rfl), by (with_reducible repeat (first | apply Kd.R_alloc | apply Kd.R_drewN | apply Kd.R_drew)); exact HO_3.out, by repeat (first | (with_reducible first | exact HB.out | apply below_alloc | apply pw_below_drewN | apply below_drew1 | refine below_set ?_ GE168.out) | exact HB.out)⟩
end
section
/-! ### grids_order: function 42 -/
def grids_order.f (k : Nat) (a0_0 : Int) (a0_1 : Int) (a0_2 : Int) (a0_3 : Int) (a1_0 : Int) (a1_1 : Int) (a1_2 : Int) (a1_3 : Int) : Option (Int) := (cmp_Compare_int64.f a0_0 a1_0).bind fun t194 => ((cmp_Compare_int64.f a0_1 a1_1).bind fun t195 => ((cmp_Compare_int64.f a0_2 a1_2).bind fun t196 => ((cmp_Compare_int64.f a0_3 a1_3).bind fun t197 => ((cmp_Or_int.f k (([t194, t195, t196, t197] : List Int))).bind fun t201 => (some t201)))))
theorem grids_order.mono : ∀ a0 a1 a2 a3 a4 a5 a6 a7 k, LeO (grids_order.f k a0 a1 a2 a3 a4 a5 a6 a7) (grids_order.f (k + 1) a0 a1 a2 a3 a4 a5 a6 a7) := by
  intro a0 a1 a2 a3 a4 a5 a6 a7 k
  unfold grids_order.f
  repeat' first
      | (with_reducible exact cmp_Or_int.mono _ _)
      | (with_reducible exact LeO.refl _)
      | (with_reducible exact LeO.none _)
      | (with_reducible refine LeO.ite ?_ ?_)
      | (with_reducible refine LeO.bind ?_ (fun _ => ?_))
      | exact cmp_Or_int.mono _ _
      | exact LeO.none _
      | refine LeO.ite ?_ ?_
      | refine LeO.bind ?_ (fun _ => ?_)
def grids_order.T1 : Bool × List (List Nat × List Nat) := (true, [([], []), ([0], [0]), ([], []), ([2], [2]), ([1, 3], [1, 3]), ([], []), ([5], [5]), ([], []), ([7], [7]), ([6, 8, 4], [6, 8]), ([], []), ([10], [10]), ([], []), ([12], [12]), ([11, 13, 9], [11, 13]), ([], []), ([15], [15]), ([], []), ([17], [17]), ([16, 18, 14], [16, 18]), ([4, 9, 14, 19], [4, 9, 14, 19]), ([20, 19], [20]), ([21, 21, 0, 1, 2, 3, 4, 5, 6, 7, 8, 9, 10, 11, 12, 13, 14, 15, 16, 17, 18, 19, 20, 21], [21])])
def grids_order.B1 : List Nat := [0, 1, 0, 4, 15, 0, 32, 0, 128, 511, 0, 1024, 0, 4096, 16383, 0, 32768, 0, 131072, 524287, 1048575, 2097151, 4194303]
theorem grids_order.tab1 : rtab .any (opsOf Try.f42 1) = grids_order.T1 := by kernel_rfl
theorem grids_order.bits1 : waitsOk grids_order.T1.2 grids_order.B1 = true := by kernel_rfl
set_option maxHeartbeats 8000000 in
set_option maxRecDepth 100000 in
theorem grids_order.calls (k : Nat) (a0_0 : Int) (a0_1 : Int) (a0_2 : Int) (a0_3 : Int) (a1_0 : Int) (a1_1 : Int) (a1_2 : Int) (a1_3 : Int) (r : Int) (w : World) (h : grids_order.f k a0_0 a0_1 a0_2 a0_3 a1_0 a1_1 a1_2 a1_3 = some r) :
    Calls Try.prog 42 #[.agg #[.int .i64 a0_0, .int .i64 a0_1, .int .i64 a0_2, .int .i64 a0_3], .agg #[.int .i64 a1_0, .int .i64 a1_1, .int .i64 a1_2, .int .i64 a1_3]] w fun e w' => e = .returned (.int .i64 r) ∧ Below w.heap.size w w' := by
  have hu25 := Try.underlying25
  have HB := Aside0.mk (Below.refl w.heap.size w)
  have H : ((cmp_Compare_int64.f a0_0 a1_0).bind fun t194 => ((cmp_Compare_int64.f a0_1 a1_1).bind fun t195 => ((cmp_Compare_int64.f a0_2 a1_2).bind fun t196 => ((cmp_Compare_int64.f a0_3 a1_3).bind fun t197 => ((cmp_Or_int.f k (([t194, t195, t196, t197] : List Int))).bind fun t201 => (some t201)))))) = some r := h
  clear h
  replace H := Option.bind_eq_some_iff.mp H
  obtain ⟨t194, A30, H⟩ := H
  replace H : ((cmp_Compare_int64.f a0_1 a1_1).bind fun t195 => ((cmp_Compare_int64.f a0_2 a1_2).bind fun t196 => ((cmp_Compare_int64.f a0_3 a1_3).bind fun t197 => ((cmp_Or_int.f k (([t194, t195, t196, t197] : List Int))).bind fun t201 => (some t201))))) = some r := H
  have A3 := Aside0.mk A30
  clear A30
  replace H := Option.bind_eq_some_iff.mp H
  obtain ⟨t195, A40, H⟩ := H
  replace H : ((cmp_Compare_int64.f a0_2 a1_2).bind fun t196 => ((cmp_Compare_int64.f a0_3 a1_3).bind fun t197 => ((cmp_Or_int.f k (([t194, t195, t196, t197] : List Int))).bind fun t201 => (some t201)))) = some r := H
  have A4 := Aside0.mk A40
  clear A40
  replace H := Option.bind_eq_some_iff.mp H
  obtain ⟨t196, A50, H⟩ := H
  replace H : ((cmp_Compare_int64.f a0_3 a1_3).bind fun t197 => ((cmp_Or_int.f k (([t194, t195, t196, t197] : List Int))).bind fun t201 => (some t201))) = some r := H
  have A5 := Aside0.mk A50
  clear A50
  replace H := Option.bind_eq_some_iff.mp H
  obtain ⟨t197, A60, H⟩ := H
  replace H : ((cmp_Or_int.f k (([t194, t195, t196, t197] : List Int))).bind fun t201 => (some t201)) = some r := H
  have A6 := Aside0.mk A60
  clear A60
  obtain ⟨y198, hy198⟩ : ∃ y_ : List Int, y_ = (([t194, t195, t196, t197] : List Int)) := ⟨_, rfl⟩
  replace H : ((cmp_Or_int.f k y198).bind fun t201 => (some t201)) = some r := by first | (rw [hy198]; with_reducible exact H) | (have H2_ := (Option.bind_some _ _).symm.trans H; rw [hy198]; with_reducible exact H2_) | (have H2_ := (Option.bind_some _ _).symm.trans H; with_reducible exact H2_) | with_reducible exact H | (rw [hy198]; exact H) | exact H
  have Ny198 := Aside0.mk hy198
  clear hy198
  replace H := Option.bind_eq_some_iff.mp H
  obtain ⟨t201, A70, H⟩ := H
  replace H : (some t201) = some r := H
  have A7 := Aside0.mk A70
  clear A70
  obtain rfl := Option.some.inj H
  go_enter Try.func42, Try.ntmps42
  try go_wp2_with (first | ((with_reducible refine gate_dst (N := 2) rfl ?_); refine box_event ?hg (N := 2) ?hd (cs := #[.int .i64 a0_0, .int .i64 a0_1, .int .i64 a0_2, .int .i64 a0_3]) (t := 25) ?hr ?_; (case hd => rfl); (case hg => rfl); (case hr => first | (go_simp; done) | (go_simp; rfl)); intro gb192 hg w8 hbox hb; have BK192 := Aside0.mk (hbox); have GW192 := Aside0.mk ((by rw [hg]; exact (below_size (bnow HB)) : w.heap.size ≤ gb192)); have GE192 := Aside0.mk ((by rw [hg]; exact (below_size (bnow HB)) : w.heap.size ≤ gb192)); replace HB := bst HB hb; clear hb hbox hg) | ((with_reducible refine gate_dst (N := 3) rfl ?_); refine box_event ?hg (N := 3) ?hd (cs := #[.int .i64 a1_0, .int .i64 a1_1, .int .i64 a1_2, .int .i64 a1_3]) (t := 25) ?hr ?_; (case hd => rfl); (case hg => rfl); (case hr => first | (go_simp; done) | (go_simp; rfl)); intro gb193 hg w9 hbox hb; have BK193 := Aside0.mk (hbox); have GW193 := Aside0.mk ((by rw [hg]; exact (below_size (bnow HB)) : w.heap.size ≤ gb193)); have GE193 := Aside0.mk ((by rw [hg]; exact (below_size (bnow HB)) : w.heap.size ≤ gb193)); have NB192_193 := Aside0.mk ((by rw [hg]; exact Nat.ne_of_lt (blk_lt (g := gb192) (o := .cells #[.int .i64 a0_0, .int .i64 a0_1, .int .i64 a0_2, .int .i64 a0_3] 25 (0, 0)) (pk BK192)) : gb192 ≠ gb193)); have NB193_192 := Aside0.mk ((by rw [hg]; exact Nat.ne_of_gt (blk_lt (g := gb192) (o := .cells #[.int .i64 a0_0, .int .i64 a0_1, .int .i64 a0_2, .int .i64 a0_3] 25 (0, 0)) (pk BK192)) : gb193 ≠ gb192)); replace BK192 := bb BK192 hb; replace HB := bst HB hb; clear hb hbox hg))
  have n0_ := Aside0.mk (blk_drew BK192.out)
  have n1_ := Aside0.mk (blk_drew BK193.out)
  have n2_ := Aside0.mk (below_drew1 HB.out)
  clear BK192
  clear BK193
  clear HB
  have BK192 := n0_
  have BK193 := n1_
  have HB := n2_
  clear n0_ n1_ n2_
  refine start_ (n := 23) (S := fun w' => w'.cell? ⟨gb192, 0, none⟩ = some (.int .i64 a0_0) ∧ w'.cell? ⟨gb192, 1, none⟩ = some (.int .i64 a0_1) ∧ w'.cell? ⟨gb192, 2, none⟩ = some (.int .i64 a0_2) ∧ w'.cell? ⟨gb192, 3, none⟩ = some (.int .i64 a0_3) ∧ w'.cell? ⟨gb193, 0, none⟩ = some (.int .i64 a1_0) ∧ w'.cell? ⟨gb193, 1, none⟩ = some (.int .i64 a1_1) ∧ w'.cell? ⟨gb193, 2, none⟩ = some (.int .i64 a1_2) ∧ w'.cell? ⟨gb193, 3, none⟩ = some (.int .i64 a1_3)) (ds := []) #[false, false, false, false, false, false, false, false, false, false, false, false, false, false, false, false, false, false, false, false, false, false, false] (by kernel_rfl) rfl rfl ⟨(blk_cell BK192.out 0).trans rfl, (blk_cell BK192.out 1).trans rfl, (blk_cell BK192.out 2).trans rfl, (blk_cell BK192.out 3).trans rfl, (blk_cell BK193.out 0).trans rfl, (blk_cell BK193.out 1).trans rfl, (blk_cell BK193.out 2).trans rfl, (blk_cell BK193.out 3).trans rfl⟩ (fun hHeld => ?_); refine with_tabW grids_order.tab1 grids_order.bits1 (fun HT_ HW_ => ?_)
  generalize w9.drew = w10 at BK192 BK193 HB hHeld ⊢
  refine pure_ (i := 0) (N := some 5) (v := ?_) (a' := ?_) #[true, false, false, false, false, false, false, false, false, false, false, false, false, false, false, false, false, false, false, false, false, false, false] rfl rfl (any_of HT_.out (by kernel_rfl)) (fun _ _ _ h => h) (Or.inl ⟨by rfl, ?_⟩) ?_ ?_
  rotate_left
  · intro w'
    go_simp
    with_reducible rfl
  rotate_left
  · simp only [Act.put, List.setIfInBounds_toArray, List.set_cons_zero, List.set_cons_succ, i64_w, i32_w]
    rfl
  refine pure_ (i := 2) (N := some 7) (v := ?_) (a' := ?_) #[true, false, true, false, false, false, false, false, false, false, false, false, false, false, false, false, false, false, false, false, false, false, false] rfl rfl (any_of HT_.out (by kernel_rfl)) (fun _ _ _ h => h) (Or.inl ⟨by rfl, ?_⟩) ?_ ?_
  rotate_left
  · intro w'
    go_simp
    with_reducible rfl
  rotate_left
  · simp only [Act.put, List.setIfInBounds_toArray, List.set_cons_zero, List.set_cons_succ, i64_w, i32_w]
    rfl
  refine pure_ (i := 5) (N := some 10) (v := ?_) (a' := ?_) #[true, false, true, false, false, true, false, false, false, false, false, false, false, false, false, false, false, false, false, false, false, false, false] rfl rfl (any_of HT_.out (by kernel_rfl)) (fun _ _ _ h => h) (Or.inl ⟨by rfl, ?_⟩) ?_ ?_
  rotate_left
  · intro w'
    go_simp
    with_reducible rfl
  rotate_left
  · simp only [Act.put, List.setIfInBounds_toArray, List.set_cons_zero, List.set_cons_succ, i64_w, i32_w]
    rfl
  refine pure_ (i := 7) (N := some 12) (v := ?_) (a' := ?_) #[true, false, true, false, false, true, false, true, false, false, false, false, false, false, false, false, false, false, false, false, false, false, false] rfl rfl (any_of HT_.out (by kernel_rfl)) (fun _ _ _ h => h) (Or.inl ⟨by rfl, ?_⟩) ?_ ?_
  rotate_left
  · intro w'
    go_simp
    with_reducible rfl
  rotate_left
  · simp only [Act.put, List.setIfInBounds_toArray, List.set_cons_zero, List.set_cons_succ, i64_w, i32_w]
    rfl
  refine pure_ (i := 10) (N := some 15) (v := ?_) (a' := ?_) #[true, false, true, false, false, true, false, true, false, false, true, false, false, false, false, false, false, false, false, false, false, false, false] rfl rfl (any_of HT_.out (by kernel_rfl)) (fun _ _ _ h => h) (Or.inl ⟨by rfl, ?_⟩) ?_ ?_
  rotate_left
  · intro w'
    go_simp
    with_reducible rfl
  rotate_left
  · simp only [Act.put, List.setIfInBounds_toArray, List.set_cons_zero, List.set_cons_succ, i64_w, i32_w]
    rfl
  refine pure_ (i := 12) (N := some 17) (v := ?_) (a' := ?_) #[true, false, true, false, false, true, false, true, false, false, true, false, true, false, false, false, false, false, false, false, false, false, false] rfl rfl (any_of HT_.out (by kernel_rfl)) (fun _ _ _ h => h) (Or.inl ⟨by rfl, ?_⟩) ?_ ?_
  rotate_left
  · intro w'
    go_simp
    with_reducible rfl
  rotate_left
  · simp only [Act.put, List.setIfInBounds_toArray, List.set_cons_zero, List.set_cons_succ, i64_w, i32_w]
    rfl
  refine pure_ (i := 15) (N := some 20) (v := ?_) (a' := ?_) #[true, false, true, false, false, true, false, true, false, false, true, false, true, false, false, true, false, false, false, false, false, false, false] rfl rfl (any_of HT_.out (by kernel_rfl)) (fun _ _ _ h => h) (Or.inl ⟨by rfl, ?_⟩) ?_ ?_
  rotate_left
  · intro w'
    go_simp
    with_reducible rfl
  rotate_left
  · simp only [Act.put, List.setIfInBounds_toArray, List.set_cons_zero, List.set_cons_succ, i64_w, i32_w]
    rfl
  refine pure_ (i := 17) (N := some 22) (v := ?_) (a' := ?_) #[true, false, true, false, false, true, false, true, false, false, true, false, true, false, false, true, false, true, false, false, false, false, false] rfl rfl (any_of HT_.out (by kernel_rfl)) (fun _ _ _ h => h) (Or.inl ⟨by rfl, ?_⟩) ?_ ?_
  rotate_left
  · intro w'
    go_simp
    with_reducible rfl
  rotate_left
  · simp only [Act.put, List.setIfInBounds_toArray, List.set_cons_zero, List.set_cons_succ, i64_w, i32_w]
    rfl
  refine take_ (i := 1) (N := some 6) (v := ?_) (a' := ?_) #[true, true, true, false, false, true, false, true, false, false, true, false, true, false, false, true, false, true, false, false, false, false, false] rfl rfl (take_ofW HT_.out HW_.out (by kernel_rfl)) (fun _ _ _ h => h) (Or.inl ⟨by rfl, ?_⟩) hHeld ?_ ?_
  rotate_left
  · rintro w' ⟨s0, s1, s2, s3, s4, s5, s6, s7⟩
    go_simp
    with_reducible rfl
  rotate_left
  · simp only [Act.put, List.setIfInBounds_toArray, List.set_cons_zero, List.set_cons_succ, i64_w, i32_w]
    rfl
  refine take_ (i := 3) (N := some 8) (v := ?_) (a' := ?_) #[true, true, true, true, false, true, false, true, false, false, true, false, true, false, false, true, false, true, false, false, false, false, false] rfl rfl (take_ofW HT_.out HW_.out (by kernel_rfl)) (fun _ _ _ h => h) (Or.inl ⟨by rfl, ?_⟩) hHeld ?_ ?_
  rotate_left
  · rintro w' ⟨s0, s1, s2, s3, s4, s5, s6, s7⟩
    go_simp
    with_reducible rfl
  rotate_left
  · simp only [Act.put, List.setIfInBounds_toArray, List.set_cons_zero, List.set_cons_succ, i64_w, i32_w]
    rfl
  refine take_ (i := 6) (N := some 11) (v := ?_) (a' := ?_) #[true, true, true, true, false, true, true, true, false, false, true, false, true, false, false, true, false, true, false, false, false, false, false] rfl rfl (take_ofW HT_.out HW_.out (by kernel_rfl)) (fun _ _ _ h => h) (Or.inl ⟨by rfl, ?_⟩) hHeld ?_ ?_
  rotate_left
  · rintro w' ⟨s0, s1, s2, s3, s4, s5, s6, s7⟩
    go_simp
    with_reducible rfl
  rotate_left
  · simp only [Act.put, List.setIfInBounds_toArray, List.set_cons_zero, List.set_cons_succ, i64_w, i32_w]
    rfl
  refine take_ (i := 8) (N := some 13) (v := ?_) (a' := ?_) #[true, true, true, true, false, true, true, true, true, false, true, false, true, false, false, true, false, true, false, false, false, false, false] rfl rfl (take_ofW HT_.out HW_.out (by kernel_rfl)) (fun _ _ _ h => h) (Or.inl ⟨by rfl, ?_⟩) hHeld ?_ ?_
  rotate_left
  · rintro w' ⟨s0, s1, s2, s3, s4, s5, s6, s7⟩
    go_simp
    with_reducible rfl
  rotate_left
  · simp only [Act.put, List.setIfInBounds_toArray, List.set_cons_zero, List.set_cons_succ, i64_w, i32_w]
    rfl
  refine take_ (i := 11) (N := some 16) (v := ?_) (a' := ?_) #[true, true, true, true, false, true, true, true, true, false, true, true, true, false, false, true, false, true, false, false, false, false, false] rfl rfl (take_ofW HT_.out HW_.out (by kernel_rfl)) (fun _ _ _ h => h) (Or.inl ⟨by rfl, ?_⟩) hHeld ?_ ?_
  rotate_left
  · rintro w' ⟨s0, s1, s2, s3, s4, s5, s6, s7⟩
    go_simp
    with_reducible rfl
  rotate_left
  · simp only [Act.put, List.setIfInBounds_toArray, List.set_cons_zero, List.set_cons_succ, i64_w, i32_w]
    rfl
  refine take_ (i := 13) (N := some 18) (v := ?_) (a' := ?_) #[true, true, true, true, false, true, true, true, true, false, true, true, true, true, false, true, false, true, false, false, false, false, false] rfl rfl (take_ofW HT_.out HW_.out (by kernel_rfl)) (fun _ _ _ h => h) (Or.inl ⟨by rfl, ?_⟩) hHeld ?_ ?_
  rotate_left
  · rintro w' ⟨s0, s1, s2, s3, s4, s5, s6, s7⟩
    go_simp
    with_reducible rfl
  rotate_left
  · simp only [Act.put, List.setIfInBounds_toArray, List.set_cons_zero, List.set_cons_succ, i64_w, i32_w]
    rfl
  refine take_ (i := 16) (N := some 21) (v := ?_) (a' := ?_) #[true, true, true, true, false, true, true, true, true, false, true, true, true, true, false, true, true, true, false, false, false, false, false] rfl rfl (take_ofW HT_.out HW_.out (by kernel_rfl)) (fun _ _ _ h => h) (Or.inl ⟨by rfl, ?_⟩) hHeld ?_ ?_
  rotate_left
  · rintro w' ⟨s0, s1, s2, s3, s4, s5, s6, s7⟩
    go_simp
    with_reducible rfl
  rotate_left
  · simp only [Act.put, List.setIfInBounds_toArray, List.set_cons_zero, List.set_cons_succ, i64_w, i32_w]
    rfl
  refine take_ (i := 18) (N := some 23) (v := ?_) (a' := ?_) #[true, true, true, true, false, true, true, true, true, false, true, true, true, true, false, true, true, true, true, false, false, false, false] rfl rfl (take_ofW HT_.out HW_.out (by kernel_rfl)) (fun _ _ _ h => h) (Or.inl ⟨by rfl, ?_⟩) hHeld ?_ ?_
  rotate_left
  · rintro w' ⟨s0, s1, s2, s3, s4, s5, s6, s7⟩
    go_simp
    with_reducible rfl
  rotate_left
  · simp only [Act.put, List.setIfInBounds_toArray, List.set_cons_zero, List.set_cons_succ, i64_w, i32_w]
    rfl
  refine one_ (i := 4) (N := some 9) #[true, true, true, true, true, true, true, true, true, false, true, true, true, true, false, true, true, true, true, false, false, false, false] rfl rfl (one_of HT_.out (by kernel_rfl)) (by decide) (fun K hK => ?_)
  refine goes_ Try.func54 (by kernel_rfl) rfl #[.int .i64 a0_0, .int .i64 a1_0] (by rfl) rfl rfl am ?_
  with_reducible refine (cmp_Compare_int64.calls a0_0 a1_0 t194 _ A3.out).mono ?_
  rintro e w' ⟨rfl, ⟨nd, rfl⟩⟩
  refine ⟨_, rfl, ?_⟩
  refine hK.out _ _ ⟨(blk_cell BK192.out 0).trans rfl, (blk_cell BK192.out 1).trans rfl, (blk_cell BK192.out 2).trans rfl, (blk_cell BK192.out 3).trans rfl, (blk_cell BK193.out 0).trans rfl, (blk_cell BK193.out 1).trans rfl, (blk_cell BK193.out 2).trans rfl, (blk_cell BK193.out 3).trans rfl⟩ (fun hHeld => ?_)
  clear hK K
  refine norm_ (a' := ?_) ?_ ?_
  rotate_left
  · show Act.put _ (some 9) _ = _
    simp only [Act.put, List.setIfInBounds_toArray, List.set_cons_zero, List.set_cons_succ, i64_w, i32_w]
    rfl
  refine one_ (i := 9) (N := some 14) #[true, true, true, true, true, true, true, true, true, true, true, true, true, true, false, true, true, true, true, false, false, false, false] rfl rfl (one_of HT_.out (by kernel_rfl)) (by decide) (fun K hK => ?_)
  refine goes_ Try.func54 (by kernel_rfl) rfl #[.int .i64 a0_1, .int .i64 a1_1] (by rfl) rfl rfl am ?_
  with_reducible refine (cmp_Compare_int64.calls a0_1 a1_1 t195 _ A4.out).mono ?_
  rintro e w' ⟨rfl, ⟨nd, rfl⟩⟩
  refine ⟨_, rfl, ?_⟩
  refine hK.out _ _ ⟨(blk_cell BK192.out 0).trans rfl, (blk_cell BK192.out 1).trans rfl, (blk_cell BK192.out 2).trans rfl, (blk_cell BK192.out 3).trans rfl, (blk_cell BK193.out 0).trans rfl, (blk_cell BK193.out 1).trans rfl, (blk_cell BK193.out 2).trans rfl, (blk_cell BK193.out 3).trans rfl⟩ (fun hHeld => ?_)
  clear hK K
  refine norm_ (a' := ?_) ?_ ?_
  rotate_left
  · show Act.put _ (some 14) _ = _
    simp only [Act.put, List.setIfInBounds_toArray, List.set_cons_zero, List.set_cons_succ, i64_w, i32_w]
    rfl
  refine one_ (i := 14) (N := some 19) #[true, true, true, true, true, true, true, true, true, true, true, true, true, true, true, true, true, true, true, false, false, false, false] rfl rfl (one_of HT_.out (by kernel_rfl)) (by decide) (fun K hK => ?_)
  refine goes_ Try.func54 (by kernel_rfl) rfl #[.int .i64 a0_2, .int .i64 a1_2] (by rfl) rfl rfl am ?_
  with_reducible refine (cmp_Compare_int64.calls a0_2 a1_2 t196 _ A5.out).mono ?_
  rintro e w' ⟨rfl, ⟨nd, rfl⟩⟩
  refine ⟨_, rfl, ?_⟩
  refine hK.out _ _ ⟨(blk_cell BK192.out 0).trans rfl, (blk_cell BK192.out 1).trans rfl, (blk_cell BK192.out 2).trans rfl, (blk_cell BK192.out 3).trans rfl, (blk_cell BK193.out 0).trans rfl, (blk_cell BK193.out 1).trans rfl, (blk_cell BK193.out 2).trans rfl, (blk_cell BK193.out 3).trans rfl⟩ (fun hHeld => ?_)
  clear hK K
  refine norm_ (a' := ?_) ?_ ?_
  rotate_left
  · show Act.put _ (some 19) _ = _
    simp only [Act.put, List.setIfInBounds_toArray, List.set_cons_zero, List.set_cons_succ, i64_w, i32_w]
    rfl
  refine one_ (i := 19) (N := some 24) #[true, true, true, true, true, true, true, true, true, true, true, true, true, true, true, true, true, true, true, true, false, false, false] rfl rfl (one_of HT_.out (by kernel_rfl)) (by decide) (fun K hK => ?_)
  refine goes_ Try.func54 (by kernel_rfl) rfl #[.int .i64 a0_3, .int .i64 a1_3] (by rfl) rfl rfl am ?_
  with_reducible refine (cmp_Compare_int64.calls a0_3 a1_3 t197 _ A6.out).mono ?_
  rintro e w' ⟨rfl, ⟨nd, rfl⟩⟩
  refine ⟨_, rfl, ?_⟩
  refine hK.out _ _ ⟨(blk_cell BK192.out 0).trans rfl, (blk_cell BK192.out 1).trans rfl, (blk_cell BK192.out 2).trans rfl, (blk_cell BK192.out 3).trans rfl, (blk_cell BK193.out 0).trans rfl, (blk_cell BK193.out 1).trans rfl, (blk_cell BK193.out 2).trans rfl, (blk_cell BK193.out 3).trans rfl⟩ (fun hHeld => ?_)
  clear hK K
  refine norm_ (a' := ?_) ?_ ?_
  rotate_left
  · show Act.put _ (some 24) _ = _
    simp only [Act.put, List.setIfInBounds_toArray, List.set_cons_zero, List.set_cons_succ, i64_w, i32_w]
    rfl
  refine one_ (i := 20) (N := some 25) #[true, true, true, true, true, true, true, true, true, true, true, true, true, true, true, true, true, true, true, true, true, false, false] rfl rfl (one_of HT_.out (by kernel_rfl)) (by decide) (fun K hK => ?_)
  refine Kd.R_lit_step (Kd.int .i64) _ 3 ?hg (N := 25) ?hd (xs := ([t194, t195, t196, t197] : List Int)) (inner := [.int .i64 t194, .int .i64 t195, .int .i64 t196, .int .i64 t197]) (ok := fun _ => True) (okp := fun _ => True) ?hr ?hp (fun _ hk => hk) trivial (Below.refl _ _) (Nat.le_refl _) (by simp) ?_; (case hd => rfl); (case hg => rfl); (case hr => first | (go_simp; done) | (go_simp; rfl)); (case hp => exact (Reps.one (show Kd.M (Kd.int .i64) _ _ _ t194 [.int .i64 t194] from rfl) (Reps.one (show Kd.M (Kd.int .i64) _ _ _ t195 [.int .i64 t195] from rfl) (Reps.one (show Kd.M (Kd.int .i64) _ _ _ t196 [.int .i64 t196] from rfl) (Reps.one (show Kd.M (Kd.int .i64) _ _ _ t197 [.int .i64 t197] from rfl) (Reps.none _ _))))))
  intro v199 w11 ho12 hb hg_ hnew_
  clear hg_ hnew_
  (first | rw [← Ny198.out] at ho12 | (simp only [Int.reduceToNat] at ho12; rw [← Ny198.out] at ho12))
  have HO200 := Aside0.mk (Kd.R_lower ho12 (below_size (bnow HB)))
  replace BK192 := bb BK192 hb
  replace BK193 := bb BK193 hb
  replace HB := bst HB hb
  clear hb ho12
  obtain ⟨Ao13, co13, eo13⟩ := Kd.R_slice HO200.out
  (first | subst eo13 | (injection eo13 with f1_ f2_ f3_; have f4_ := f1_.symm; have f5_ := f3_.symm; clear f1_ f2_ f3_; subst f4_; subst f5_))
  refine hK.out _ _ ⟨(blk_cell BK192.out 0).trans rfl, (blk_cell BK192.out 1).trans rfl, (blk_cell BK192.out 2).trans rfl, (blk_cell BK192.out 3).trans rfl, (blk_cell BK193.out 0).trans rfl, (blk_cell BK193.out 1).trans rfl, (blk_cell BK193.out 2).trans rfl, (blk_cell BK193.out 3).trans rfl⟩ (fun hHeld => ?_)
  clear hK K
  refine norm_ (a' := ?_) ?_ ?_
  rotate_left
  · show Act.put _ (some 25) _ = _
    simp only [Act.put, List.setIfInBounds_toArray, List.set_cons_zero, List.set_cons_succ, i64_w, i32_w]
    rfl
  refine one_ (i := 21) (N := some 26) #[true, true, true, true, true, true, true, true, true, true, true, true, true, true, true, true, true, true, true, true, true, true, false] rfl rfl (one_of HT_.out (by kernel_rfl)) (by decide) (fun K hK => ?_)
  refine goes_ Try.func51 (by kernel_rfl) rfl #[.slice Ao13 y198.length co13] (by rfl) rfl rfl am ?_
  with_reducible refine (cmp_Or_int.calls k _ _ y198 t201 _ ?side1 ?side2 A7.out).mono ?_
  (case side1 => repeat (first | exact (Kd.R_reads' HO200.out).2.2 | (with_reducible refine Kd.C_alloc ?_ _) | (with_reducible refine Kd.C_drewN ?_ _) | (with_reducible refine Kd.C_drew ?_)))
  (case side2 => exact (Kd.R_reads' HO200.out).2.1)
  rintro e w' ⟨rfl, ⟨nd, rfl⟩⟩
  refine ⟨_, rfl, ?_⟩
  refine hK.out _ _ ⟨(blk_cell BK192.out 0).trans rfl, (blk_cell BK192.out 1).trans rfl, (blk_cell BK192.out 2).trans rfl, (blk_cell BK192.out 3).trans rfl, (blk_cell BK193.out 0).trans rfl, (blk_cell BK193.out 1).trans rfl, (blk_cell BK193.out 2).trans rfl, (blk_cell BK193.out 3).trans rfl⟩ (fun hHeld => ?_)
  clear hK K
  refine norm_ (a' := ?_) ?_ ?_
  rotate_left
  · show Act.put _ (some 26) _ = _
    simp only [Act.put, List.setIfInBounds_toArray, List.set_cons_zero, List.set_cons_succ, i64_w, i32_w]
    rfl
  refine pure_ (i := 22) (N := some 4) (v := ?_) (a' := ?_) #[true, true, true, true, true, true, true, true, true, true, true, true, true, true, true, true, true, true, true, true, true, true, true] rfl rfl (any_of HT_.out (by kernel_rfl)) (fun _ _ _ h => h) (Or.inl ⟨by rfl, ?_⟩) ?_ ?_
  rotate_left
  · intro w'
    go_simp
    with_reducible rfl
  rotate_left
  · simp only [Act.put, List.setIfInBounds_toArray, List.set_cons_zero, List.set_cons_succ, i64_w, i32_w]
    rfl
  refine done_ (done_of HT_.out (by kernel_rfl)) ?_
  try go_wp2
  go_ret
  exact ⟨by first | rfl | (simp [errW_none, errW_some] <;> rfl) | (simp [*, errW_none, errW_some] <;> rfl), by repeat (first | (with_reducible first | exact HB.out | apply below_alloc | apply pw_below_drewN | apply below_drew1 | refine below_set ?_ GE192.out | refine below_set ?_ GE193.out) | exact HB.out)⟩
end
section
/-! ### api_GrMatrix_41: function 41 -/
def api_GrMatrix_41.l0 : Nat → List (S25) → Int → Int → Int → Int → Int → Option (Int × Int × Int × Int)
  | 0, _, _, _, _, _, _ => none
  | k + 1, x0, x6, x205000, x205001, x205002, x205003 => if x6 < (x0.length : Int) then (if 0 ≤ x6 then ((grids_order.f k ((rd_T25 x0 x6).f0) ((rd_T25 x0 x6).f1) ((rd_T25 x0 x6).f2) ((rd_T25 x0 x6).f3) x205000 x205001 x205002 x205003).bind fun t206 => (if t206 < 0 then ((some (wrap64 (x6 + 1))).bind fun z208 => (api_GrMatrix_41.l0 k x0 z208 ((rd_T25 x0 x6).f0) ((rd_T25 x0 x6).f1) ((rd_T25 x0 x6).f2) ((rd_T25 x0 x6).f3))) else ((some (wrap64 (x6 + 1))).bind fun z209 => (api_GrMatrix_41.l0 k x0 z209 x205000 x205001 x205002 x205003)))) else (none)) else (some (x205000, x205001, x205002, x205003))
def api_GrMatrix_41.f (k : Nat) (l0 : List (S25))  : Option (Int × Int × Int × Int) := if (l0.length : Int) < 1 then (none) else (if 0 < (l0.length : Int) then (api_GrMatrix_41.l0 k l0 1 ((rd_T25 l0 0).f0) ((rd_T25 l0 0).f1) ((rd_T25 l0 0).f2) ((rd_T25 l0 0).f3)) else (none))
theorem api_GrMatrix_41.mono_l : ∀ k, (∀ y0 y1 y2 y3 y4 y5, LeO (api_GrMatrix_41.l0 k y0 y1 y2 y3 y4 y5) (api_GrMatrix_41.l0 (k + 1) y0 y1 y2 y3 y4 y5))
  | 0 => fun _ _ _ _ _ _ r h => by simp [api_GrMatrix_41.l0] at h
  | k + 1 => by
    have ih0 := api_GrMatrix_41.mono_l k
    · intro y0 y1 y2 y3 y4 y5
      unfold api_GrMatrix_41.l0
      repeat' first
      | (with_reducible exact ih0 _ _ _ _ _ _)
      | (with_reducible exact grids_order.mono _ _ _ _ _ _ _ _ _)
      | (with_reducible exact LeO.refl _)
      | (with_reducible exact LeO.none _)
      | (with_reducible refine LeO.ite ?_ ?_)
      | (with_reducible refine LeO.bind ?_ (fun _ => ?_))
      | exact ih0 _ _ _ _ _ _
      | exact grids_order.mono _ _ _ _ _ _ _ _ _
      | exact LeO.none _
      | refine LeO.ite ?_ ?_
      | refine LeO.bind ?_ (fun _ => ?_)
theorem api_GrMatrix_41.mono : ∀ a0 k, LeO (api_GrMatrix_41.f k a0) (api_GrMatrix_41.f (k + 1) a0) := by
  intro a0 k
  have ih0 := api_GrMatrix_41.mono_l k
  unfold api_GrMatrix_41.f
  repeat' first
      | (with_reducible exact ih0 _ _ _ _ _ _)
      | (with_reducible exact grids_order.mono _ _ _ _ _ _ _ _ _)
      | (with_reducible exact LeO.refl _)
      | (with_reducible exact LeO.none _)
      | (with_reducible refine LeO.ite ?_ ?_)
      | (with_reducible refine LeO.bind ?_ (fun _ => ?_))
      | exact ih0 _ _ _ _ _ _
      | exact grids_order.mono _ _ _ _ _ _ _ _ _
      | exact LeO.none _
      | refine LeO.ite ?_ ?_
      | refine LeO.bind ?_ (fun _ => ?_)
def api_GrMatrix_41.T7 : Bool × List (List Nat × List Nat) := (true, [([], []), ([], []), ([], []), ([1, 2], [1, 2]), ([3], [3]), ([], []), ([0, 4, 5], [0, 4, 5]), ([6], [6])])
def api_GrMatrix_41.B7 : List Nat := [0, 0, 0, 6, 14, 0, 63, 127]
theorem api_GrMatrix_41.tab7 : rtab .any (opsOf Try.f41 7) = api_GrMatrix_41.T7 := by kernel_rfl
theorem api_GrMatrix_41.bits7 : waitsOk api_GrMatrix_41.T7.2 api_GrMatrix_41.B7 = true := by kernel_rfl
set_option maxHeartbeats 8000000 in
set_option maxRecDepth 100000 in
theorem api_GrMatrix_41.calls (k : Nat) (A0 : Option Addr) (c0 : Nat) (l0 : List (S25))  (r1 : Int) (r2 : Int) (r3 : Int) (r4 : Int) (w : World) (hr0 : Kd.C k25 w A0 l0.length l0) (hc0 : l0.length ≤ c0) (h : api_GrMatrix_41.f k l0 = some (r1, r2, r3, r4)) :
    Calls Try.prog 41 #[.slice A0 l0.length c0, .func (.func 42) #[] #[]] w fun e w' => e = .returned (.agg #[.int .i64 r1, .int .i64 r2, .int .i64 r3, .int .i64 r4]) ∧ Below w.heap.size w w' := by
  have hu25 := Try.underlying25
  have HR0 := Aside0.mk hr0
  have HC0 := Aside0.mk hc0
  clear hr0 hc0
  have HB := Aside0.mk (Below.refl w.heap.size w)
  have H : (if (l0.length : Int) < 1 then (none) else (if 0 < (l0.length : Int) then (api_GrMatrix_41.l0 k l0 1 ((rd_T25 l0 0).f0) ((rd_T25 l0 0).f1) ((rd_T25 l0 0).f2) ((rd_T25 l0 0).f3)) else (none))) = some (r1, r2, r3, r4) := h
  clear h
  by_cases c3 : (l0.length : Int) < 1
  · rw [if_pos c3] at H
    exact absurd H (by simp)
  · rw [if_neg c3] at H
    have c3b0 : decide ((l0.length : Int) < 1) = false := decide_eq_false c3
    have c3b1 : decide (l0.length < 1) = false := decide_eq_false (by omega)
    clear c3
    by_cases c4 : 0 < (l0.length : Int)
    · rw [if_pos c4] at H
      have c4b0 : decide (0 < (l0.length : Int)) = true := decide_eq_true c4
      have c4b1 : decide (0 < l0.length) = true := decide_eq_true (by omega)
      clear c4
      have H' := Aside0.mk H
      clear H
      go_enter Try.func41, Try.ntmps41
      go_wp2_with (first | ((with_reducible refine gate_dst (N := 4) rfl ?_); refine box_event ?hg (N := 4) ?hd (cs := #[.int .i64 0, .int .i64 0, .int .i64 0, .int .i64 0]) (t := 25) ?hr ?_; (case hd => rfl); (case hg => rfl); (case hr => first | (go_simp; done) | (go_simp; rfl)); intro gb202 hg w5 hbox hb; have BK202 := Aside0.mk (hbox); have GW202 := Aside0.mk ((by rw [hg]; exact (below_size (bnow HB)) : w.heap.size ≤ gb202)); have GE202 := Aside0.mk ((by rw [hg]; exact (below_size (bnow HB)) : w.heap.size ≤ gb202)); replace HB := bst HB hb; clear hb hbox hg; have p203 : 0 ≤ (0 : Int) := (by omega); have q203 : 0 < (l0.length : Int) := of_decide_eq_true (by first | (with_reducible assumption) | assumption); obtain ⟨ad203, e203, hx203_0, hx203_1, hx203_2, hx203_3⟩ := at_T25 HR0.out 0 p203 q203; cases e203; have qi203 : (0 < l0.length) = True := eq_true (by omega); (try rw [show ((0 : Int)).toNat = 0 from rfl] at hx203_0); (try rw [show 0 * 4 = 0 from rfl] at hx203_0); (try rw [Addr.add_zero'] at hx203_0); (try rw [show ((0 : Int)).toNat = 0 from rfl] at hx203_1); (try rw [show 0 * 4 = 0 from rfl] at hx203_1); (try rw [Addr.add_zero'] at hx203_1); (try rw [show ((0 : Int)).toNat = 0 from rfl] at hx203_2); (try rw [show 0 * 4 = 0 from rfl] at hx203_2); (try rw [Addr.add_zero'] at hx203_2); (try rw [show ((0 : Int)).toNat = 0 from rfl] at hx203_3); (try rw [show 0 * 4 = 0 from rfl] at hx203_3); (try rw [Addr.add_zero'] at hx203_3); replace hx203_0 := (HB.out.cell (World.block_lt_of_cell? w _ hx203_0)).trans hx203_0; replace hx203_1 := (HB.out.cell (World.block_lt_of_cell? w _ hx203_1)).trans hx203_1; replace hx203_2 := (HB.out.cell (World.block_lt_of_cell? w _ hx203_2)).trans hx203_2; replace hx203_3 := (HB.out.cell (World.block_lt_of_cell? w _ hx203_3)).trans hx203_3; replace p203 := eq_true p203; replace q203 := eq_true q203) | ((with_reducible refine gate_dst (N := 5) rfl ?_); refine box_event ?hg (N := 5) ?hd (cs := #[.int .i64 0, .int .i64 0, .int .i64 0, .int .i64 0]) (t := 25) ?hr ?_; (case hd => rfl); (case hg => rfl); (case hr => first | (go_simp; done) | (go_simp; rfl)); intro gb204 hg w6 hbox hb; have BK204 := Aside0.mk (hbox); have GW204 := Aside0.mk ((by rw [hg]; exact (below_size (bnow HB)) : w.heap.size ≤ gb204)); have GE204 := Aside0.mk ((by rw [hg]; exact (below_size (bnow HB)) : w.heap.size ≤ gb204)); have NB202_204 := Aside0.mk ((by rw [hg]; exact Nat.ne_of_lt (blk_lt (g := gb202) (o := .cells #[.int .i64 0, .int .i64 0, .int .i64 0, .int .i64 0] 25 (0, 0)) (pk BK202)) : gb202 ≠ gb204)); have NB204_202 := Aside0.mk ((by rw [hg]; exact Nat.ne_of_gt (blk_lt (g := gb202) (o := .cells #[.int .i64 0, .int .i64 0, .int .i64 0, .int .i64 0] 25 (0, 0)) (pk BK202)) : gb204 ≠ gb202)); replace BK202 := bb BK202 hb; replace HB := bst HB hb; clear hb hbox hg; have hnb7 := NB204_202.out; have hnc7 := NB202_204.out; have hcz8_0 : w6.cell? ⟨gb204, 0, none⟩ = some (.int .i64 0) := (blk_cell BK204.out 0).trans rfl; have hcz8_1 : w6.cell? ⟨gb204, 1, none⟩ = some (.int .i64 0) := (blk_cell BK204.out 1).trans rfl; have hcz8_2 : w6.cell? ⟨gb204, 2, none⟩ = some (.int .i64 0) := (blk_cell BK204.out 2).trans rfl; have hcz8_3 : w6.cell? ⟨gb204, 3, none⟩ = some (.int .i64 0) := (blk_cell BK204.out 3).trans rfl; have hfz8_0 := blk_frozen BK204.out 0; have hfz8_1 := blk_frozen BK204.out 1; have hfz8_2 := blk_frozen BK204.out 2; have hfz8_3 := blk_frozen BK204.out 3) | ((with_reducible refine gate_store (t := 25) (p := 5) rfl ?_); refine store_event (t := 25) (p := 5) (v := ?vo_w9) (w1 := ((((w6.setCell ⟨gb204, 0, none⟩ (.int .i64 ((rd_T25 l0 0).f0))).setCell ⟨gb204, 1, none⟩ (.int .i64 ((rd_T25 l0 0).f1))).setCell ⟨gb204, 2, none⟩ (.int .i64 ((rd_T25 l0 0).f2))).setCell ⟨gb204, 3, none⟩ (.int .i64 ((rd_T25 l0 0).f3)))) ?hg ?ho ?hn ?hr ?_; (case ho => rfl); (case hg => rfl); (case hn => rfl); (case hr => first | (go_simp; done) | (go_simp; rfl)); intro w9 hw; have n0_ : Aside0 (w9.heap[gb202]? = some (.cells #[.int .i64 0, .int .i64 0, .int .i64 0, .int .i64 0] 25 (0, 0))) := ⟨(by rw [hw]; exact (by (with_reducible repeat (first | refine blk_drewN ?_ _ | refine blk_drew ?_ | refine blk_alloc ?_ _)); refine blk_far ?_ NB202_204.out _; (with_reducible repeat (first | refine blk_drewN ?_ _ | refine blk_drew ?_ | refine blk_alloc ?_ _)); refine blk_far ?_ NB202_204.out _; (with_reducible repeat (first | refine blk_drewN ?_ _ | refine blk_drew ?_ | refine blk_alloc ?_ _)); refine blk_far ?_ NB202_204.out _; (with_reducible repeat (first | refine blk_drewN ?_ _ | refine blk_drew ?_ | refine blk_alloc ?_ _)); refine blk_far ?_ NB202_204.out _; (with_reducible repeat (first | refine blk_drewN ?_ _ | refine blk_drew ?_ | refine blk_alloc ?_ _)); exact BK202.out))⟩; have n1_ : Aside0 (w9.heap[gb204]? = some (.cells #[.int .i64 ((rd_T25 l0 0).f0), .int .i64 ((rd_T25 l0 0).f1), .int .i64 ((rd_T25 l0 0).f2), .int .i64 ((rd_T25 l0 0).f3)] 25 (0, 0))) := ⟨(by rw [hw]; exact (by (with_reducible repeat (first | refine blk_drewN ?_ _ | refine blk_drew ?_ | refine blk_alloc ?_ _)); refine blk_put (cs := #[.int .i64 ((rd_T25 l0 0).f0), .int .i64 ((rd_T25 l0 0).f1), .int .i64 ((rd_T25 l0 0).f2), .int .i64 0]) ?_ 3 _ rfl; (with_reducible repeat (first | refine blk_drewN ?_ _ | refine blk_drew ?_ | refine blk_alloc ?_ _)); refine blk_put (cs := #[.int .i64 ((rd_T25 l0 0).f0), .int .i64 ((rd_T25 l0 0).f1), .int .i64 0, .int .i64 0]) ?_ 2 _ rfl; (with_reducible repeat (first | refine blk_drewN ?_ _ | refine blk_drew ?_ | refine blk_alloc ?_ _)); refine blk_put (cs := #[.int .i64 ((rd_T25 l0 0).f0), .int .i64 0, .int .i64 0, .int .i64 0]) ?_ 1 _ rfl; (with_reducible repeat (first | refine blk_drewN ?_ _ | refine blk_drew ?_ | refine blk_alloc ?_ _)); refine blk_put (cs := #[.int .i64 0, .int .i64 0, .int .i64 0, .int .i64 0]) ?_ 0 _ rfl; (with_reducible repeat (first | refine blk_drewN ?_ _ | refine blk_drew ?_ | refine blk_alloc ?_ _)); exact BK204.out))⟩; have n2_ : Aside0 (Below w.heap.size w w9) := ⟨(by rw [hw]; exact (bnow HB))⟩; clear hw; clear BK202; clear BK204; clear HB; have BK202 := n0_; have BK204 := n1_; have HB := n2_; clear n0_ n1_ n2_))
      (try simp only [Act.put, List.setIfInBounds_toArray, List.set_cons_zero, List.set_cons_succ])
      go_loopg [6] k (fun kq v6 w' => ∃ (x6_1 : Int) (x205000_1 : Int) (x205001_1 : Int) (x205002_1 : Int) (x205003_1 : Int), v6 = .int .i64 x6_1 ∧ Aside0 (api_GrMatrix_41.l0 kq l0 x6_1 x205000_1 x205001_1 x205002_1 x205003_1 = some (r1, r2, r3, r4)) ∧ Aside0 (kq ≤ k) ∧ Aside0 (w'.heap[gb202]? = some (.cells #[.int .i64 0, .int .i64 0, .int .i64 0, .int .i64 0] 25 (0, 0))) ∧ Aside0 (w'.heap[gb204]? = some (.cells #[.int .i64 x205000_1, .int .i64 x205001_1, .int .i64 x205002_1, .int .i64 x205003_1] 25 (0, 0))) ∧ Aside0 (Below w.heap.size w w'))
      case atStart => exact ⟨(1), ((rd_T25 l0 0).f0), ((rd_T25 l0 0).f1), ((rd_T25 l0 0).f2), ((rd_T25 l0 0).f3), (by first | rfl | (simp; done) | (simp [*]; done)), H', ⟨Nat.le_refl _⟩, ⟨pk BK202⟩, ⟨pk BK204⟩, ⟨bnow HB⟩⟩
      case round =>
        clear H'
        try clear p2
        try clear q2
        try clear hx2
        try clear qi2
        try clear c3
        try clear c3b0
        try clear c3b1
        try clear c4
        try clear c4b0
        try clear c4b1
        try clear c7
        try clear hcz8_0
        try clear hcz8_1
        try clear hcz8_2
        try clear hcz8_3
        try clear hfz8_0
        try clear hfz8_1
        try clear hfz8_2
        try clear hfz8_3
        try clear hx203_0
        try clear hx203_1
        try clear hx203_2
        try clear hx203_3
        try clear p203
        try clear q203
        obtain ⟨x6_1, x205000_1, x205001_1, x205002_1, x205003_1, rfl, HA, HK1, BK202, BK204, HB⟩ := hrel
        cases gk with
        | zero => exact absurd HA.out (by simp [api_GrMatrix_41.l0])
        | succ k1 =>
          have H := HA.out
          clear HA
          simp only [api_GrMatrix_41.l0] at H
          by_cases c10 : x6_1 < (l0.length : Int)
          · rw [if_pos c10] at H
            have c10b0 : decide (x6_1 < (l0.length : Int)) = true := decide_eq_true c10
            clear c10
            by_cases c11 : 0 ≤ x6_1
            · rw [if_pos c11] at H
              have c11b0 : decide (0 ≤ x6_1) = true := decide_eq_true c11
              clear c11
              replace H := Option.bind_eq_some_iff.mp H
              obtain ⟨t206, A120, H⟩ := H
              replace H : (if t206 < 0 then ((some (wrap64 (x6_1 + 1))).bind fun z208 => (api_GrMatrix_41.l0 k1 l0 z208 ((rd_T25 l0 x6_1).f0) ((rd_T25 l0 x6_1).f1) ((rd_T25 l0 x6_1).f2) ((rd_T25 l0 x6_1).f3))) else ((some (wrap64 (x6_1 + 1))).bind fun z209 => (api_GrMatrix_41.l0 k1 l0 z209 x205000_1 x205001_1 x205002_1 x205003_1))) = some (r1, r2, r3, r4) := H
              have A12 := Aside0.mk A120
              clear A120
              by_cases c13 : t206 < 0
              · rw [if_pos c13] at H
                have c13b0 : decide (t206 < 0) = true := decide_eq_true c13
                clear c13
                replace H := Option.bind_eq_some_iff.mp H
                obtain ⟨z208, E140, H⟩ := H
                replace H : (api_GrMatrix_41.l0 k1 l0 z208 ((rd_T25 l0 x6_1).f0) ((rd_T25 l0 x6_1).f1) ((rd_T25 l0 x6_1).f2) ((rd_T25 l0 x6_1).f3)) = some (r1, r2, r3, r4) := H
                replace E140 := Option.some.inj E140
                have E14w : (IntKind.i64.wrap (x6_1 + 1)) = z208 := (i64_w _).trans E140
                have H' := Aside0.mk H
                clear H
                try go_wp2
                have n0_ := Aside0.mk (blk_drew BK202.out)
                have n1_ := Aside0.mk (blk_drew BK204.out)
                have n2_ := Aside0.mk (below_drew1 HB.out)
                clear BK202
                clear BK204
                clear HB
                have BK202 := n0_
                have BK204 := n1_
                have HB := n2_
                clear n0_ n1_ n2_
                have p205 : 0 ≤ (x6_1 : Int) := of_decide_eq_true (by first | (with_reducible assumption) | assumption)
                have q205 : x6_1 < (l0.length : Int) := of_decide_eq_true (by first | (with_reducible assumption) | assumption)
                obtain ⟨ad205, e205, hx205_0, hx205_1, hx205_2, hx205_3⟩ := at_T25 HR0.out x6_1 p205 q205
                have hw205_3 := hx205_3
                have hw205_2 := hx205_2
                have hw205_1 := hx205_1
                have hw205_0 := hx205_0
                obtain rfl : ad203 = ad205 := (by injection e205)
                replace hx205_0 := (HB.out.cell (World.block_lt_of_cell? w _ hx205_0)).trans hx205_0
                replace hx205_1 := (HB.out.cell (World.block_lt_of_cell? w _ hx205_1)).trans hx205_1
                replace hx205_2 := (HB.out.cell (World.block_lt_of_cell? w _ hx205_2)).trans hx205_2
                replace hx205_3 := (HB.out.cell (World.block_lt_of_cell? w _ hx205_3)).trans hx205_3
                replace p205 := eq_true p205
                replace q205 := eq_true q205
                refine start_ (n := 8) (S := fun w' => w'.cell? ⟨gb204, 0, none⟩ = some (.int .i64 x205000_1) ∧ w'.cell? ⟨gb204, 1, none⟩ = some (.int .i64 x205001_1) ∧ w'.cell? ⟨gb204, 2, none⟩ = some (.int .i64 x205002_1) ∧ w'.cell? ⟨gb204, 3, none⟩ = some (.int .i64 x205003_1) ∧ w'.cell? (ad203.add ((x6_1).toNat * 4)) = some (.int .i64 ((rd_T25 l0 x6_1).f0)) ∧ w'.cell? ⟨(ad203.add ((x6_1).toNat * 4)).block, (ad203.add ((x6_1).toNat * 4)).off + 1, none⟩ = some (.int .i64 ((rd_T25 l0 x6_1).f1)) ∧ w'.cell? ⟨(ad203.add ((x6_1).toNat * 4)).block, (ad203.add ((x6_1).toNat * 4)).off + 2, none⟩ = some (.int .i64 ((rd_T25 l0 x6_1).f2)) ∧ w'.cell? ⟨(ad203.add ((x6_1).toNat * 4)).block, (ad203.add ((x6_1).toNat * 4)).off + 3, none⟩ = some (.int .i64 ((rd_T25 l0 x6_1).f3))) (ds := []) #[false, false, false, false, false, false, false, false] (by kernel_rfl) rfl rfl ⟨(blk_cell BK204.out 0).trans rfl, (blk_cell BK204.out 1).trans rfl, (blk_cell BK204.out 2).trans rfl, (blk_cell BK204.out 3).trans rfl, ((HB.out.cell (World.block_lt_of_cell? w _ hw205_0)).trans hw205_0), ((HB.out.cell (World.block_lt_of_cell? w _ hw205_1)).trans hw205_1), ((HB.out.cell (World.block_lt_of_cell? w _ hw205_2)).trans hw205_2), ((HB.out.cell (World.block_lt_of_cell? w _ hw205_3)).trans hw205_3)⟩ (fun hHeld => ?_); refine with_tabW api_GrMatrix_41.tab7 api_GrMatrix_41.bits7 (fun HT_ HW_ => ?_)
                generalize wr.drew = w15 at BK202 BK204 HB hx205_0 hx205_1 hx205_2 hx205_3 hHeld ⊢
                refine pure_ (i := 0) (N := some 20) (v := ?_) (a' := ?_) #[true, false, false, false, false, false, false, false] rfl rfl (any_of HT_.out (by kernel_rfl)) (fun _ _ _ h => h) (Or.inl ⟨by rfl, ?_⟩) ?_ ?_
                rotate_left
                · intro w'
                  go_simp
                  with_reducible rfl
                rotate_left
                · simp only [Act.put, List.setIfInBounds_toArray, List.set_cons_zero, List.set_cons_succ, i64_w, i32_w]
                  rfl
                refine pure_ (i := 1) (N := some 21) (v := ?_) (a' := ?_) #[true, true, false, false, false, false, false, false] rfl rfl (any_of HT_.out (by kernel_rfl)) (fun _ _ _ h => h) (Or.inl ⟨by rfl, ?_⟩) ?_ ?_
                rotate_left
                · intro w'
                  go_simp
                  with_reducible rfl
                rotate_left
                · simp only [Act.put, List.setIfInBounds_toArray, List.set_cons_zero, List.set_cons_succ, i64_w, i32_w]
                  rfl
                refine pure_ (i := 2) (N := some 22) (v := ?_) (a' := ?_) #[true, true, true, false, false, false, false, false] rfl rfl (any_of HT_.out (by kernel_rfl)) (fun _ _ _ h => h) (Or.inl ⟨by rfl, ?_⟩) ?_ ?_
                rotate_left
                · intro w'
                  go_simp
                  with_reducible rfl
                rotate_left
                · simp only [Act.put, List.setIfInBounds_toArray, List.set_cons_zero, List.set_cons_succ, i64_w, i32_w]
                  rfl
                refine pure_ (i := 3) (N := some 23) (v := ?_) (a' := ?_) #[true, true, true, true, false, false, false, false] rfl rfl (any_of HT_.out (by kernel_rfl)) (fun _ _ _ h => h) (Or.inl ⟨by rfl, ?_⟩) ?_ ?_
                rotate_left
                · intro w'
                  go_simp
                  with_reducible rfl
                rotate_left
                · simp only [Act.put, List.setIfInBounds_toArray, List.set_cons_zero, List.set_cons_succ, i64_w, i32_w]
                  rfl
                refine take_ (i := 4) (N := some 24) (v := ?_) (a' := ?_) #[true, true, true, true, true, false, false, false] rfl rfl (take_ofW HT_.out HW_.out (by kernel_rfl)) (fun _ _ _ h => h) (Or.inl ⟨by rfl, ?_⟩) hHeld ?_ ?_
                rotate_left
                · rintro w' ⟨s0, s1, s2, s3, s4, s5, s6, s7⟩
                  go_simp
                  with_reducible rfl
                rotate_left
                · simp only [Act.put, List.setIfInBounds_toArray, List.set_cons_zero, List.set_cons_succ, i64_w, i32_w]
                  rfl
                refine take_ (i := 5) (N := some 25) (v := ?_) (a' := ?_) #[true, true, true, true, true, true, false, false] rfl rfl (take_ofW HT_.out HW_.out (by kernel_rfl)) (fun _ _ _ h => h) (Or.inl ⟨by rfl, ?_⟩) hHeld ?_ ?_
                rotate_left
                · rintro w' ⟨s0, s1, s2, s3, s4, s5, s6, s7⟩
                  go_simp
                  with_reducible rfl
                rotate_left
                · simp only [Act.put, List.setIfInBounds_toArray, List.set_cons_zero, List.set_cons_succ, i64_w, i32_w]
                  rfl
                refine one_ (i := 6) (N := some 26) #[true, true, true, true, true, true, true, false] rfl rfl (one_of HT_.out (by kernel_rfl)) (by decide) (fun K hK => ?_)
                refine goesV_ Try.func42 (by kernel_rfl) rfl #[.agg #[.int .i64 ((rd_T25 l0 x6_1).f0), .int .i64 ((rd_T25 l0 x6_1).f1), .int .i64 ((rd_T25 l0 x6_1).f2), .int .i64 ((rd_T25 l0 x6_1).f3)], .agg #[.int .i64 x205000_1, .int .i64 x205001_1, .int .i64 x205002_1, .int .i64 x205003_1]] (by rfl) rfl rfl (by rfl) am ?_
                with_reducible refine (grids_order.calls k1 ((rd_T25 l0 x6_1).f0) ((rd_T25 l0 x6_1).f1) ((rd_T25 l0 x6_1).f2) ((rd_T25 l0 x6_1).f3) x205000_1 x205001_1 x205002_1 x205003_1 t206 _ A12.out).mono ?_
                rintro e w16 ⟨rfl, hb⟩
                refine ⟨_, rfl, ?_⟩
                replace BK202 := bb BK202 hb
                replace BK204 := bb BK204 hb
                replace HB := bst HB hb
                (try clear hb)
                (try clear hb2)
                (try clear hk)
                (try clear hi)
                refine hK.out _ _ ⟨(blk_cell BK204.out 0).trans rfl, (blk_cell BK204.out 1).trans rfl, (blk_cell BK204.out 2).trans rfl, (blk_cell BK204.out 3).trans rfl, ((HB.out.cell (World.block_lt_of_cell? w _ hw205_0)).trans hw205_0), ((HB.out.cell (World.block_lt_of_cell? w _ hw205_1)).trans hw205_1), ((HB.out.cell (World.block_lt_of_cell? w _ hw205_2)).trans hw205_2), ((HB.out.cell (World.block_lt_of_cell? w _ hw205_3)).trans hw205_3)⟩ (fun hHeld => ?_)
                clear hK K
                refine norm_ (a' := ?_) ?_ ?_
                rotate_left
                · show Act.put _ (some 26) _ = _
                  simp only [Act.put, List.setIfInBounds_toArray, List.set_cons_zero, List.set_cons_succ, i64_w, i32_w]
                  rfl
                refine pure_ (i := 7) (N := some 27) (v := ?_) (a' := ?_) #[true, true, true, true, true, true, true, true] rfl rfl (any_of HT_.out (by kernel_rfl)) (fun _ _ _ h => h) (Or.inl ⟨by rfl, ?_⟩) ?_ ?_
                rotate_left
                · intro w'
                  go_simp
                  with_reducible rfl
                rotate_left
                · simp only [Act.put, List.setIfInBounds_toArray, List.set_cons_zero, List.set_cons_succ, i64_w, i32_w]
                  rfl
                refine done_ (done_of HT_.out (by kernel_rfl)) ?_
                have p207 : 0 ≤ (x6_1 : Int) := of_decide_eq_true (by first | (with_reducible assumption) | assumption)
                have q207 : x6_1 < (l0.length : Int) := of_decide_eq_true (by first | (with_reducible assumption) | assumption)
                obtain ⟨ad207, e207, hx207_0, hx207_1, hx207_2, hx207_3⟩ := at_T25 HR0.out x6_1 p207 q207
                obtain rfl : ad203 = ad207 := (by injection e207)
                replace hx207_0 := (HB.out.cell (World.block_lt_of_cell? w _ hx207_0)).trans hx207_0
                replace hx207_1 := (HB.out.cell (World.block_lt_of_cell? w _ hx207_1)).trans hx207_1
                replace hx207_2 := (HB.out.cell (World.block_lt_of_cell? w _ hx207_2)).trans hx207_2
                replace hx207_3 := (HB.out.cell (World.block_lt_of_cell? w _ hx207_3)).trans hx207_3
                replace p207 := eq_true p207
                replace q207 := eq_true q207
                have hnb17 := NB204_202.out
                have hnc17 := NB202_204.out
                have hcz18_0 : w16.cell? ⟨gb204, 0, none⟩ = some (.int .i64 x205000_1) := (blk_cell BK204.out 0).trans rfl
                have hcz18_1 : w16.cell? ⟨gb204, 1, none⟩ = some (.int .i64 x205001_1) := (blk_cell BK204.out 1).trans rfl
                have hcz18_2 : w16.cell? ⟨gb204, 2, none⟩ = some (.int .i64 x205002_1) := (blk_cell BK204.out 2).trans rfl
                have hcz18_3 : w16.cell? ⟨gb204, 3, none⟩ = some (.int .i64 x205003_1) := (blk_cell BK204.out 3).trans rfl
                have hfz18_0 := blk_frozen BK204.out 0
                have hfz18_1 := blk_frozen BK204.out 1
                have hfz18_2 := blk_frozen BK204.out 2
                have hfz18_3 := blk_frozen BK204.out 3
                try go_wp2_with (first | ((with_reducible refine gate_store (t := 25) (p := 5) rfl ?_); refine store_event (t := 25) (p := 5) (v := ?vo_w19) (w1 := ((((w16.setCell ⟨gb204, 0, none⟩ (.int .i64 ((rd_T25 l0 x6_1).f0))).setCell ⟨gb204, 1, none⟩ (.int .i64 ((rd_T25 l0 x6_1).f1))).setCell ⟨gb204, 2, none⟩ (.int .i64 ((rd_T25 l0 x6_1).f2))).setCell ⟨gb204, 3, none⟩ (.int .i64 ((rd_T25 l0 x6_1).f3)))) ?hg ?ho ?hn ?hr ?_; (case ho => rfl); (case hg => rfl); (case hn => rfl); (case hr => first | (go_simp; done) | (go_simp; rfl)); intro w19 hw; have n0_ : Aside0 (w19.heap[gb202]? = some (.cells #[.int .i64 0, .int .i64 0, .int .i64 0, .int .i64 0] 25 (0, 0))) := ⟨(by rw [hw]; exact (by (with_reducible repeat (first | refine blk_drewN ?_ _ | refine blk_drew ?_ | refine blk_alloc ?_ _)); refine blk_far ?_ NB202_204.out _; (with_reducible repeat (first | refine blk_drewN ?_ _ | refine blk_drew ?_ | refine blk_alloc ?_ _)); refine blk_far ?_ NB202_204.out _; (with_reducible repeat (first | refine blk_drewN ?_ _ | refine blk_drew ?_ | refine blk_alloc ?_ _)); refine blk_far ?_ NB202_204.out _; (with_reducible repeat (first | refine blk_drewN ?_ _ | refine blk_drew ?_ | refine blk_alloc ?_ _)); refine blk_far ?_ NB202_204.out _; (with_reducible repeat (first | refine blk_drewN ?_ _ | refine blk_drew ?_ | refine blk_alloc ?_ _)); exact BK202.out))⟩; have n1_ : Aside0 (w19.heap[gb204]? = some (.cells #[.int .i64 ((rd_T25 l0 x6_1).f0), .int .i64 ((rd_T25 l0 x6_1).f1), .int .i64 ((rd_T25 l0 x6_1).f2), .int .i64 ((rd_T25 l0 x6_1).f3)] 25 (0, 0))) := ⟨(by rw [hw]; exact (by (with_reducible repeat (first | refine blk_drewN ?_ _ | refine blk_drew ?_ | refine blk_alloc ?_ _)); refine blk_put (cs := #[.int .i64 ((rd_T25 l0 x6_1).f0), .int .i64 ((rd_T25 l0 x6_1).f1), .int .i64 ((rd_T25 l0 x6_1).f2), .int .i64 x205003_1]) ?_ 3 _ rfl; (with_reducible repeat (first | refine blk_drewN ?_ _ | refine blk_drew ?_ | refine blk_alloc ?_ _)); refine blk_put (cs := #[.int .i64 ((rd_T25 l0 x6_1).f0), .int .i64 ((rd_T25 l0 x6_1).f1), .int .i64 x205002_1, .int .i64 x205003_1]) ?_ 2 _ rfl; (with_reducible repeat (first | refine blk_drewN ?_ _ | refine blk_drew ?_ | refine blk_alloc ?_ _)); refine blk_put (cs := #[.int .i64 ((rd_T25 l0 x6_1).f0), .int .i64 x205001_1, .int .i64 x205002_1, .int .i64 x205003_1]) ?_ 1 _ rfl; (with_reducible repeat (first | refine blk_drewN ?_ _ | refine blk_drew ?_ | refine blk_alloc ?_ _)); refine blk_put (cs := #[.int .i64 x205000_1, .int .i64 x205001_1, .int .i64 x205002_1, .int .i64 x205003_1]) ?_ 0 _ rfl; (with_reducible repeat (first | refine blk_drewN ?_ _ | refine blk_drew ?_ | refine blk_alloc ?_ _)); exact BK204.out))⟩; have n2_ : Aside0 (Below w.heap.size w w19) := ⟨(by rw [hw]; exact (bnow HB))⟩; clear hw; clear BK202; clear BK204; clear HB; have BK202 := n0_; have BK204 := n1_; have HB := n2_; clear n0_ n1_ n2_))
                go_roundg k1
                case measure => have := HK1.out; omega
                case rel => exact ⟨(z208), ((rd_T25 l0 x6_1).f0), ((rd_T25 l0 x6_1).f1), ((rd_T25 l0 x6_1).f2), ((rd_T25 l0 x6_1).f3), (by first | rfl | (simp; done) | (simp [*]; done)), H', ⟨by have := HK1.out; omega⟩, ⟨pk BK202⟩, ⟨pk BK204⟩, ⟨bnow HB⟩⟩
              · rw [if_neg c13] at H
                have c13b0 : decide (t206 < 0) = false := decide_eq_false c13
                clear c13
                replace H := Option.bind_eq_some_iff.mp H
                obtain ⟨z209, E200, H⟩ := H
                replace H : (api_GrMatrix_41.l0 k1 l0 z209 x205000_1 x205001_1 x205002_1 x205003_1) = some (r1, r2, r3, r4) := H
                replace E200 := Option.some.inj E200
                have E20w : (IntKind.i64.wrap (x6_1 + 1)) = z209 := (i64_w _).trans E200
                have H' := Aside0.mk H
                clear H
                try go_wp2
                have n0_ := Aside0.mk (blk_drew BK202.out)
                have n1_ := Aside0.mk (blk_drew BK204.out)
                have n2_ := Aside0.mk (below_drew1 HB.out)
                clear BK202
                clear BK204
                clear HB
                have BK202 := n0_
                have BK204 := n1_
                have HB := n2_
                clear n0_ n1_ n2_
                have p205 : 0 ≤ (x6_1 : Int) := of_decide_eq_true (by first | (with_reducible assumption) | assumption)
                have q205 : x6_1 < (l0.length : Int) := of_decide_eq_true (by first | (with_reducible assumption) | assumption)
                obtain ⟨ad205, e205, hx205_0, hx205_1, hx205_2, hx205_3⟩ := at_T25 HR0.out x6_1 p205 q205
                have hw205_3 := hx205_3
                have hw205_2 := hx205_2
                have hw205_1 := hx205_1
                have hw205_0 := hx205_0
                obtain rfl : ad203 = ad205 := (by injection e205)
                replace hx205_0 := (HB.out.cell (World.block_lt_of_cell? w _ hx205_0)).trans hx205_0
                replace hx205_1 := (HB.out.cell (World.block_lt_of_cell? w _ hx205_1)).trans hx205_1
                replace hx205_2 := (HB.out.cell (World.block_lt_of_cell? w _ hx205_2)).trans hx205_2
                replace hx205_3 := (HB.out.cell (World.block_lt_of_cell? w _ hx205_3)).trans hx205_3
                replace p205 := eq_true p205
                replace q205 := eq_true q205
                refine start_ (n := 8) (S := fun w' => w'.cell? ⟨gb204, 0, none⟩ = some (.int .i64 x205000_1) ∧ w'.cell? ⟨gb204, 1, none⟩ = some (.int .i64 x205001_1) ∧ w'.cell? ⟨gb204, 2, none⟩ = some (.int .i64 x205002_1) ∧ w'.cell? ⟨gb204, 3, none⟩ = some (.int .i64 x205003_1) ∧ w'.cell? (ad203.add ((x6_1).toNat * 4)) = some (.int .i64 ((rd_T25 l0 x6_1).f0)) ∧ w'.cell? ⟨(ad203.add ((x6_1).toNat * 4)).block, (ad203.add ((x6_1).toNat * 4)).off + 1, none⟩ = some (.int .i64 ((rd_T25 l0 x6_1).f1)) ∧ w'.cell? ⟨(ad203.add ((x6_1).toNat * 4)).block, (ad203.add ((x6_1).toNat * 4)).off + 2, none⟩ = some (.int .i64 ((rd_T25 l0 x6_1).f2)) ∧ w'.cell? ⟨(ad203.add ((x6_1).toNat * 4)).block, (ad203.add ((x6_1).toNat * 4)).off + 3, none⟩ = some (.int .i64 ((rd_T25 l0 x6_1).f3))) (ds := []) #[false, false, false, false, false, false, false, false] (by kernel_rfl) rfl rfl ⟨(blk_cell BK204.out 0).trans rfl, (blk_cell BK204.out 1).trans rfl, (blk_cell BK204.out 2).trans rfl, (blk_cell BK204.out 3).trans rfl, ((HB.out.cell (World.block_lt_of_cell? w _ hw205_0)).trans hw205_0), ((HB.out.cell (World.block_lt_of_cell? w _ hw205_1)).trans hw205_1), ((HB.out.cell (World.block_lt_of_cell? w _ hw205_2)).trans hw205_2), ((HB.out.cell (World.block_lt_of_cell? w _ hw205_3)).trans hw205_3)⟩ (fun hHeld => ?_); refine with_tabW api_GrMatrix_41.tab7 api_GrMatrix_41.bits7 (fun HT_ HW_ => ?_)
                generalize wr.drew = w21 at BK202 BK204 HB hx205_0 hx205_1 hx205_2 hx205_3 hHeld ⊢
                refine pure_ (i := 0) (N := some 20) (v := ?_) (a' := ?_) #[true, false, false, false, false, false, false, false] rfl rfl (any_of HT_.out (by kernel_rfl)) (fun _ _ _ h => h) (Or.inl ⟨by rfl, ?_⟩) ?_ ?_
                rotate_left
                · intro w'
                  go_simp
                  with_reducible rfl
                rotate_left
                · simp only [Act.put, List.setIfInBounds_toArray, List.set_cons_zero, List.set_cons_succ, i64_w, i32_w]
                  rfl
                refine pure_ (i := 1) (N := some 21) (v := ?_) (a' := ?_) #[true, true, false, false, false, false, false, false] rfl rfl (any_of HT_.out (by kernel_rfl)) (fun _ _ _ h => h) (Or.inl ⟨by rfl, ?_⟩) ?_ ?_
                rotate_left
                · intro w'
                  go_simp
                  with_reducible rfl
                rotate_left
                · simp only [Act.put, List.setIfInBounds_toArray, List.set_cons_zero, List.set_cons_succ, i64_w, i32_w]
                  rfl
                refine pure_ (i := 2) (N := some 22) (v := ?_) (a' := ?_) #[true, true, true, false, false, false, false, false] rfl rfl (any_of HT_.out (by kernel_rfl)) (fun _ _ _ h => h) (Or.inl ⟨by rfl, ?_⟩) ?_ ?_
                rotate_left
                · intro w'
                  go_simp
                  with_reducible rfl
                rotate_left
                · simp only [Act.put, List.setIfInBounds_toArray, List.set_cons_zero, List.set_cons_succ, i64_w, i32_w]
                  rfl
                refine pure_ (i := 3) (N := some 23) (v := ?_) (a' := ?_) #[true, true, true, true, false, false, false, false] rfl rfl (any_of HT_.out (by kernel_rfl)) (fun _ _ _ h => h) (Or.inl ⟨by rfl, ?_⟩) ?_ ?_
                rotate_left
                · intro w'
                  go_simp
                  with_reducible rfl
                rotate_left
                · simp only [Act.put, List.setIfInBounds_toArray, List.set_cons_zero, List.set_cons_succ, i64_w, i32_w]
                  rfl
                refine take_ (i := 4) (N := some 24) (v := ?_) (a' := ?_) #[true, true, true, true, true, false, false, false] rfl rfl (take_ofW HT_.out HW_.out (by kernel_rfl)) (fun _ _ _ h => h) (Or.inl ⟨by rfl, ?_⟩) hHeld ?_ ?_
                rotate_left
                · rintro w' ⟨s0, s1, s2, s3, s4, s5, s6, s7⟩
                  go_simp
                  with_reducible rfl
                rotate_left
                · simp only [Act.put, List.setIfInBounds_toArray, List.set_cons_zero, List.set_cons_succ, i64_w, i32_w]
                  rfl
                refine take_ (i := 5) (N := some 25) (v := ?_) (a' := ?_) #[true, true, true, true, true, true, false, false] rfl rfl (take_ofW HT_.out HW_.out (by kernel_rfl)) (fun _ _ _ h => h) (Or.inl ⟨by rfl, ?_⟩) hHeld ?_ ?_
                rotate_left
                · rintro w' ⟨s0, s1, s2, s3, s4, s5, s6, s7⟩
                  go_simp
                  with_reducible rfl
                rotate_left
                · simp only [Act.put, List.setIfInBounds_toArray, List.set_cons_zero, List.set_cons_succ, i64_w, i32_w]
                  rfl
                refine one_ (i := 6) (N := some 26) #[true, true, true, true, true, true, true, false] rfl rfl (one_of HT_.out (by kernel_rfl)) (by decide) (fun K hK => ?_)
                refine goesV_ Try.func42 (by kernel_rfl) rfl #[.agg #[.int .i64 ((rd_T25 l0 x6_1).f0), .int .i64 ((rd_T25 l0 x6_1).f1), .int .i64 ((rd_T25 l0 x6_1).f2), .int .i64 ((rd_T25 l0 x6_1).f3)], .agg #[.int .i64 x205000_1, .int .i64 x205001_1, .int .i64 x205002_1, .int .i64 x205003_1]] (by rfl) rfl rfl (by rfl) am ?_
                with_reducible refine (grids_order.calls k1 ((rd_T25 l0 x6_1).f0) ((rd_T25 l0 x6_1).f1) ((rd_T25 l0 x6_1).f2) ((rd_T25 l0 x6_1).f3) x205000_1 x205001_1 x205002_1 x205003_1 t206 _ A12.out).mono ?_
                rintro e w22 ⟨rfl, hb⟩
                refine ⟨_, rfl, ?_⟩
                replace BK202 := bb BK202 hb
                replace BK204 := bb BK204 hb
                replace HB := bst HB hb
                (try clear hb)
                (try clear hb2)
                (try clear hk)
                (try clear hi)
                refine hK.out _ _ ⟨(blk_cell BK204.out 0).trans rfl, (blk_cell BK204.out 1).trans rfl, (blk_cell BK204.out 2).trans rfl, (blk_cell BK204.out 3).trans rfl, ((HB.out.cell (World.block_lt_of_cell? w _ hw205_0)).trans hw205_0), ((HB.out.cell (World.block_lt_of_cell? w _ hw205_1)).trans hw205_1), ((HB.out.cell (World.block_lt_of_cell? w _ hw205_2)).trans hw205_2), ((HB.out.cell (World.block_lt_of_cell? w _ hw205_3)).trans hw205_3)⟩ (fun hHeld => ?_)
                clear hK K
                refine norm_ (a' := ?_) ?_ ?_
                rotate_left
                · show Act.put _ (some 26) _ = _
                  simp only [Act.put, List.setIfInBounds_toArray, List.set_cons_zero, List.set_cons_succ, i64_w, i32_w]
                  rfl
                refine pure_ (i := 7) (N := some 27) (v := ?_) (a' := ?_) #[true, true, true, true, true, true, true, true] rfl rfl (any_of HT_.out (by kernel_rfl)) (fun _ _ _ h => h) (Or.inl ⟨by rfl, ?_⟩) ?_ ?_
                rotate_left
                · intro w'
                  go_simp
                  with_reducible rfl
                rotate_left
                · simp only [Act.put, List.setIfInBounds_toArray, List.set_cons_zero, List.set_cons_succ, i64_w, i32_w]
                  rfl
                refine done_ (done_of HT_.out (by kernel_rfl)) ?_
                try go_wp2
                go_roundg k1
                case measure => have := HK1.out; omega
                case rel => exact ⟨(z209), (x205000_1), (x205001_1), (x205002_1), (x205003_1), (by first | rfl | (simp; done) | (simp [*]; done)), H', ⟨by have := HK1.out; omega⟩, ⟨pk BK202⟩, ⟨pk BK204⟩, ⟨bnow HB⟩⟩
            · rw [if_neg c11] at H
              exact absurd H (by simp)
          · rw [if_neg c10] at H
            have c10b0 : decide (x6_1 < (l0.length : Int)) = false := decide_eq_false c10
            clear c10
            simp only [Option.some.injEq, Prod.mk.injEq] at H
            obtain ⟨rfl, rfl, rfl, rfl⟩ := H
            have hnb23 := NB204_202.out
            have hnc23 := NB202_204.out
            have hcz24_0 : wr.cell? ⟨gb204, 0, none⟩ = some (.int .i64 x205000_1) := (blk_cell BK204.out 0).trans rfl
            have hcz24_1 : wr.cell? ⟨gb204, 1, none⟩ = some (.int .i64 x205001_1) := (blk_cell BK204.out 1).trans rfl
            have hcz24_2 : wr.cell? ⟨gb204, 2, none⟩ = some (.int .i64 x205002_1) := (blk_cell BK204.out 2).trans rfl
            have hcz24_3 : wr.cell? ⟨gb204, 3, none⟩ = some (.int .i64 x205003_1) := (blk_cell BK204.out 3).trans rfl
            have hfz24_0 := blk_frozen BK204.out 0
            have hfz24_1 := blk_frozen BK204.out 1
            have hfz24_2 := blk_frozen BK204.out 2
            have hfz24_3 := blk_frozen BK204.out 3
            have hcz25_0 : wr.cell? ⟨gb202, 0, none⟩ = some (.int .i64 0) := (blk_cell BK202.out 0).trans rfl
            have hcz25_1 : wr.cell? ⟨gb202, 1, none⟩ = some (.int .i64 0) := (blk_cell BK202.out 1).trans rfl
            have hcz25_2 : wr.cell? ⟨gb202, 2, none⟩ = some (.int .i64 0) := (blk_cell BK202.out 2).trans rfl
            have hcz25_3 : wr.cell? ⟨gb202, 3, none⟩ = some (.int .i64 0) := (blk_cell BK202.out 3).trans rfl
            have hfz25_0 := blk_frozen BK202.out 0
            have hfz25_1 := blk_frozen BK202.out 1
            have hfz25_2 := blk_frozen BK202.out 2
            have hfz25_3 := blk_frozen BK202.out 3
            go_wp2_with (first | ((with_reducible refine gate_store (t := 25) (p := 4) rfl ?_); refine store_event (t := 25) (p := 4) (v := ?vo_w26) (w1 := ((((wr.setCell ⟨gb202, 0, none⟩ (.int .i64 x205000_1)).setCell ⟨gb202, 1, none⟩ (.int .i64 x205001_1)).setCell ⟨gb202, 2, none⟩ (.int .i64 x205002_1)).setCell ⟨gb202, 3, none⟩ (.int .i64 x205003_1))) ?hg ?ho ?hn ?hr ?_; (case ho => rfl); (case hg => rfl); (case hn => rfl); (case hr => first | (go_simp; done) | (go_simp; rfl)); intro w26 hw; have n0_ : Aside0 (w26.heap[gb202]? = some (.cells #[.int .i64 x205000_1, .int .i64 x205001_1, .int .i64 x205002_1, .int .i64 x205003_1] 25 (0, 0))) := ⟨(by rw [hw]; exact (by (with_reducible repeat (first | refine blk_drewN ?_ _ | refine blk_drew ?_ | refine blk_alloc ?_ _)); refine blk_put (cs := #[.int .i64 x205000_1, .int .i64 x205001_1, .int .i64 x205002_1, .int .i64 0]) ?_ 3 _ rfl; (with_reducible repeat (first | refine blk_drewN ?_ _ | refine blk_drew ?_ | refine blk_alloc ?_ _)); refine blk_put (cs := #[.int .i64 x205000_1, .int .i64 x205001_1, .int .i64 0, .int .i64 0]) ?_ 2 _ rfl; (with_reducible repeat (first | refine blk_drewN ?_ _ | refine blk_drew ?_ | refine blk_alloc ?_ _)); refine blk_put (cs := #[.int .i64 x205000_1, .int .i64 0, .int .i64 0, .int .i64 0]) ?_ 1 _ rfl; (with_reducible repeat (first | refine blk_drewN ?_ _ | refine blk_drew ?_ | refine blk_alloc ?_ _)); refine blk_put (cs := #[.int .i64 0, .int .i64 0, .int .i64 0, .int .i64 0]) ?_ 0 _ rfl; (with_reducible repeat (first | refine blk_drewN ?_ _ | refine blk_drew ?_ | refine blk_alloc ?_ _)); exact BK202.out))⟩; have n1_ : Aside0 (w26.heap[gb204]? = some (.cells #[.int .i64 x205000_1, .int .i64 x205001_1, .int .i64 x205002_1, .int .i64 x205003_1] 25 (0, 0))) := ⟨(by rw [hw]; exact (by (with_reducible repeat (first | refine blk_drewN ?_ _ | refine blk_drew ?_ | refine blk_alloc ?_ _)); refine blk_far ?_ NB204_202.out _; (with_reducible repeat (first | refine blk_drewN ?_ _ | refine blk_drew ?_ | refine blk_alloc ?_ _)); refine blk_far ?_ NB204_202.out _; (with_reducible repeat (first | refine blk_drewN ?_ _ | refine blk_drew ?_ | refine blk_alloc ?_ _)); refine blk_far ?_ NB204_202.out _; (with_reducible repeat (first | refine blk_drewN ?_ _ | refine blk_drew ?_ | refine blk_alloc ?_ _)); refine blk_far ?_ NB204_202.out _; (with_reducible repeat (first | refine blk_drewN ?_ _ | refine blk_drew ?_ | refine blk_alloc ?_ _)); exact BK204.out))⟩; have n2_ : Aside0 (Below w.heap.size w w26) := ⟨(by rw [hw]; exact (bnow HB))⟩; clear hw; clear BK202; clear BK204; clear HB; have BK202 := n0_; have BK204 := n1_; have HB := n2_; clear n0_ n1_ n2_))
            refine bodyPost_ret (results_cell_row rfl _ _ gb202 25 #[.int .i64 x205000_1, .int .i64 x205001_1, .int .i64 x205002_1, .int .i64 x205003_1] (0, 0) _ rfl (pk BK202) Try.underlying25 rfl (by kernel_rfl)) rfl ?_
            exact ⟨by first | rfl | (simp [errW_none, errW_some] <;> rfl) | (simp [*, errW_none, errW_some] <;> rfl), by repeat (first | (with_reducible first | exact HB.out | apply below_alloc | apply pw_below_drewN | apply below_drew1 | refine below_set ?_ GE202.out | refine below_set ?_ GE204.out) | exact HB.out)⟩
    · rw [if_neg c4] at H
      exact absurd H (by simp)
end
end Go.Proofs.Ytmcajdepoohlhaa.G
