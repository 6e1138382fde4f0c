/- Functions of the program as plain Lean functions, and their contracts (printed by a program of this session). No condition beyond what each states. -/
import Derived.Test.YtmcajdepoohlhaaProg
import Derived.Below
import Derived.Deep.Draws
import Derived.Deep.AppendLies
import Derived.Maps.AppendAt
import Derived.OwnWalk
import Derived.Laws.BytesArg
import Derived.Laws.MakeOwn
import Derived.Laws.OwnMore
import Derived.Deep.OwnRows
import Derived.Tactics
import Derived.Lib.ConvBytes
import Derived.Laws.Slices
import Derived.WalkKit
import Derived.KernelRfl
import Derived.RowKit3
import Derived.Deep.LoopGhost
import Derived.Deep.QuietTactic
import Derived.BigQuiet
import Derived.WideLaws
import Derived.Deep.DeepCutAuto
import Derived.Deep.CutBlock
import Derived.Deep.RegionHeld3
import Derived.Laws.Rows
import Derived.Lib.AppendStr
import Derived.ArgAppend
import Derived.Laws.IdiomCopy
import Derived.OrdersHeld
import Derived.Laws.BitsLemmas
import Derived.RowKit
import Derived.Test.YtmcajdepoohlhaaCGrpFn
import Derived.Test.YtmcajdepoohlhaaCGrpZ
import Derived.Test.YtmcajdepoohlhaaCGrpWWords
import Derived.Test.YtmcajdepoohlhaaCGrpWLast
import Derived.Test.YtmcajdepoohlhaaCGrpWTab
import Derived.Test.YtmcajdepoohlhaaCGrpWFour
import Derived.Test.YtmcajdepoohlhaaCGrpWQPut
import Derived.Test.YtmcajdepoohlhaaCGrpWApart
import Derived.Test.YtmcajdepoohlhaaCGrpWArr
import Derived.Test.YtmcajdepoohlhaaCGrpWZeros
import Derived.Test.YtmcajdepoohlhaaCGrpWFoot
import Derived.Test.YtmcajdepoohlhaaCGrpWKept
import Derived.Test.YtmcajdepoohlhaaCGrpWShare
import Derived.Test.YtmcajdepoohlhaaCGrpWN
import Derived.Test.YtmcajdepoohlhaaCGrpWFootNe
import Derived.Test.YtmcajdepoohlhaaCGrpWAt
import Derived.Test.YtmcajdepoohlhaaCGrpWEqStruct
import Derived.Test.YtmcajdepoohlhaaCGrpWRepsOne
import Derived.Test.YtmcajdepoohlhaaCGrpWInv
import Derived.Test.YtmcajdepoohlhaaCGrpWInvWords
import Derived.Test.YtmcajdepoohlhaaCGrpWGuard
import Derived.Test.YtmcajdepoohlhaaCGrpWNEv
import Derived.Test.YtmcajdepoohlhaaCGrpWMore
import Derived.Test.YtmcajdepoohlhaaCGrpY
namespace Go.Proofs.Ytmcajdepoohlhaa.G
open Go.RowKit Go.Proofs.YtmcajdepoohlhaaW.PrintWords Go.Proofs.YtmcajdepoohlhaaW.PrintLast Go.Proofs.YtmcajdepoohlhaaW.PrintMore
attribute [local go_sem] max2_int min2_int max_two min_two max_three min_three max_four min_four
set_option linter.unusedVariables false
set_option linter.unusedSimpArgs false
section
def errW : Option Int → Value
 | none => .nilIface
 | some c => .iface 0 (.int .i64 c)
theorem errW_none : errW none = .nilIface := rfl
theorem errW_some (c : Int) : errW (some c) = .iface 0 (.int .i64 c) := rfl
theorem info3 : (Try.prog.info? 3).map (fun i => (i.zero, i.size, i.bytes)) = some (some (.int .i64 0), 1, 8) := by kernel_rfl
theorem info25 : (Try.prog.info? 25).map (fun i => (i.zero, i.size, i.bytes)) = some (some (.agg #[(.int .i64 0), (.int .i64 0), (.int .i64 0), (.int .i64 0)]), 4, 32) := by kernel_rfl
theorem info37 : (Try.prog.info? 37).map (fun i => (i.zero, i.size, i.bytes)) = some (some (.agg #[(.int .i64 0), (.int .i64 0)]), 2, 16) := by kernel_rfl
-- the values' own types
/-! #### struct type 25 -/
structure S25 where
 f0 : Int
 f1 : Int
 f2 : Int
 f3 : Int
def z25 : S25 := ⟨(0 : Int), (0 : Int), (0 : Int), (0 : Int)⟩
def k25 : Kd S25 := Kd.iso (Kd.pair (Kd.int .i64) (Kd.pair (Kd.int .i64) (Kd.pair (Kd.int .i64) (Kd.int .i64)))) (fun x : S25 => (x.f0, x.f1, x.f2, x.f3))
theorem k25_open {w : World} {x : S25} {cs : List Value} (h : k25.K w x cs) : cs = [.int .i64 x.f0, .int .i64 x.f1, .int .i64 x.f2, .int .i64 x.f3] := by
 obtain ⟨_, _, rfl, rfl, ⟨_, _, rfl, rfl, ⟨_, _, rfl, rfl, rfl⟩⟩⟩ := h
 exact rfl
theorem k25_openM {w : World} {base : Nat} {ok : Nat → Prop} {x : S25} {cs : List Value} (h : k25.M w base ok x cs) : cs = [.int .i64 x.f0, .int .i64 x.f1, .int .i64 x.f2, .int .i64 x.f3] := by
 obtain ⟨_, _, rfl, rfl, ⟨_, _, rfl, rfl, ⟨_, _, rfl, rfl, rfl⟩⟩⟩ := h
 exact rfl
theorem k25_mk (w : World) (x : S25)  : k25.K w x [.int .i64 x.f0, .int .i64 x.f1, .int .i64 x.f2, .int .i64 x.f3] := ⟨[.int .i64 x.f0], [.int .i64 x.f1, .int .i64 x.f2, .int .i64 x.f3], rfl, rfl, ⟨[.int .i64 x.f1], [.int .i64 x.f2, .int .i64 x.f3], rfl, rfl, ⟨[.int .i64 x.f2], [.int .i64 x.f3], rfl, rfl, rfl⟩⟩⟩
theorem k25_mkM (w : World) (base : Nat) (ok : Nat → Prop) (x : S25)  : k25.M w base ok x [.int .i64 x.f0, .int .i64 x.f1, .int .i64 x.f2, .int .i64 x.f3] := ⟨[.int .i64 x.f0], [.int .i64 x.f1, .int .i64 x.f2, .int .i64 x.f3], rfl, rfl, ⟨[.int .i64 x.f1], [.int .i64 x.f2, .int .i64 x.f3], rfl, rfl, ⟨[.int .i64 x.f2], [.int .i64 x.f3], rfl, rfl, rfl⟩⟩⟩
def rd_T25 (xs : List S25) (i : Int) : S25 := xs.getD i.toNat z25
theorem at_T25 {w : World} {A : Option Addr} {n : Nat} {xs : List S25} (h : Kd.C k25 w A n xs) (i : Int) (h0 : 0 ≤ i) (h1 : i < n) : ∃ ad , A = some ad ∧ w.cell? (ad.add (i.toNat * 4)) = some (.int .i64 (rd_T25 xs i).f0) ∧ w.cell? ⟨(ad.add (i.toNat * 4)).block, (ad.add (i.toNat * 4)).off + 1, none⟩ = some (.int .i64 (rd_T25 xs i).f1) ∧ w.cell? ⟨(ad.add (i.toNat * 4)).block, (ad.add (i.toNat * 4)).off + 2, none⟩ = some (.int .i64 (rd_T25 xs i).f2) ∧ w.cell? ⟨(ad.add (i.toNat * 4)).block, (ad.add (i.toNat * 4)).off + 3, none⟩ = some (.int .i64 (rd_T25 xs i).f3) := by
 obtain ⟨ad, c, e, _, hK, hc0⟩ := Kd.C_get h z25 i h0 h1
 have hc : ∀ j u, c[j]? = some u → w.cell? (ad.add (i.toNat * 4 + j)) = some u := hc0
 obtain rfl := k25_open hK
 exact ⟨ad, e, hc 0 _ rfl, by rw [← add_field _ _ 1 (by omega)]; exact hc 1 _ rfl, by rw [← add_field _ _ 2 (by omega)]; exact hc 2 _ rfl, by rw [← add_field _ _ 3 (by omega)]; exact hc 3 _ rfl⟩
/-! #### struct type 37 -/
structure S37 where
 f0 : Int
 f1 : Int
def z37 : S37 := ⟨(0 : Int), (0 : Int)⟩
def k37 : Kd S37 := Kd.iso (Kd.pair (Kd.int .i64) (Kd.int .i64)) (fun x : S37 => (x.f0, x.f1))
theorem k37_open {w : World} {x : S37} {cs : List Value} (h : k37.K w x cs) : cs = [.int .i64 x.f0, .int .i64 x.f1] := by
 obtain ⟨_, _, rfl, rfl, rfl⟩ := h
 exact rfl
theorem k37_openM {w : World} {base : Nat} {ok : Nat → Prop} {x : S37} {cs : List Value} (h : k37.M w base ok x cs) : cs = [.int .i64 x.f0, .int .i64 x.f1] := by
 obtain ⟨_, _, rfl, rfl, rfl⟩ := h
 exact rfl
theorem k37_mk (w : World) (x : S37)  : k37.K w x [.int .i64 x.f0, .int .i64 x.f1] := ⟨[.int .i64 x.f0], [.int .i64 x.f1], rfl, rfl, rfl⟩
theorem k37_mkM (w : World) (base : Nat) (ok : Nat → Prop) (x : S37)  : k37.M w base ok x [.int .i64 x.f0, .int .i64 x.f1] := ⟨[.int .i64 x.f0], [.int .i64 x.f1], rfl, rfl, rfl⟩
def rd_T37 (xs : List S37) (i : Int) : S37 := xs.getD i.toNat z37
theorem at_T37 {w : World} {A : Option Addr} {n : Nat} {xs : List S37} (h : Kd.C k37 w A n xs) (i : Int) (h0 : 0 ≤ i) (h1 : i < n) : ∃ ad , A = some ad ∧ w.cell? (ad.add (i.toNat * 2)) = some (.int .i64 (rd_T37 xs i).f0) ∧ w.cell? ⟨(ad.add (i.toNat * 2)).block, (ad.add (i.toNat * 2)).off + 1, none⟩ = some (.int .i64 (rd_T37 xs i).f1) := by
 obtain ⟨ad, c, e, _, hK, hc0⟩ := Kd.C_get h z37 i h0 h1
 have hc : ∀ j u, c[j]? = some u → w.cell? (ad.add (i.toNat * 2 + j)) = some u := hc0
 obtain rfl := k37_open hK
 exact ⟨ad, e, hc 0 _ rfl, by rw [← add_field _ _ 1 (by omega)]; exact hc 1 _ rfl⟩
end
section
/-! ### grids_outside: function 46 -/
def grids_outside.f (a0 : Int) (a1 : Int) : Option (Bool) := (some (wrap64 (-a1))).bind fun q0 => (if a0 < q0 then (some true) else (some (decide (a0 > a1))))
set_option maxHeartbeats 8000000 in
set_option maxRecDepth 100000 in
theorem grids_outside.calls (a0 : Int) (a1 : Int) (r : Bool) (w : World) (h : grids_outside.f a0 a1 = some r) :
  Calls Try.prog 46 #[.int .i64 a0, .int .i64 a1] w fun e w' => e = .returned (.bool r) ∧ Drawn0 w w' := by
 have H : ((some (wrap64 (-a1))).bind fun q0 => (if a0 < q0 then (some true) else (some (decide (a0 > a1))))) = some r := h
 clear h
 obtain ⟨q0, E30, H⟩ := oc H
 have E3w : (IntKind.i64.wrap (-a1)) = q0 := (i64_w _).trans E30
 by_cases c4 : a0 < q0
 ·rw [if_pos c4] at H
  have q1 : decide (a0 < q0) = true := decide_eq_true c4
  clear c4
  obtain rfl := Option.some.inj H
  go_enter Try.func46, Try.ntmps46
  go_wp2
  go_ret
  exact ⟨by first | rfl | (simp; done) | (simp [*]; done), by repeat (first | exact Drawn0.refl _ | apply Drawn0.step)⟩
 ·rw [if_neg c4] at H
  have q1 : decide (a0 < q0) = false := decide_eq_false c4
  clear c4
  obtain rfl := Option.some.inj H
  go_enter Try.func46, Try.ntmps46
  go_wp2
  go_ret
  exact ⟨by first | rfl | (simp; done) | (simp [*]; done), by repeat (first | exact Drawn0.refl _ | apply Drawn0.step)⟩
end
section
/-! ### grids_Check: function 14 -/
def grids_Check.j0 : Nat → Bool → Option (Int)
 | 0, _ => none
 | k + 1, x38 => if x38 = true then (some 2) else (some 0)
def grids_Check.f (k : Nat) (a0_0 : Int) (a0_1 : Int) (a0_2 : Int) : Option (Int) := if a0_0 < 1 then (grids_Check.j0 k true) else (if a0_2 < 1 then (grids_Check.j0 k true) else (if a0_0 > 10000 then (grids_Check.j0 k true) else (if a0_2 > 10000 then (grids_Check.j0 k true) else ((grids_outside.f a0_1 10000).bind fun q4 => (if q4 = true then (grids_Check.j0 k true) else ((some (wrap64 (a0_0 * a0_2))).bind fun q1 => ((some (wrap64 (a0_1 * a0_1))).bind fun q2 => (grids_Check.j0 k (decide (q1 ≤ q2))))))))))
theorem grids_Check.mono_l : ∀ k, (∀ y0, LeO (grids_Check.j0 k y0) (grids_Check.j0 (k + 1) y0))
 | 0 => fun _ r h => by simp [grids_Check.j0] at h
 | k + 1 => by
  have ih0 := grids_Check.mono_l k
  ·intro y0
   unfold grids_Check.j0
   repeat' first
   | (with_reducible exact ih0 _)
   | (with_reducible exact LeO.refl _)
   | (with_reducible exact LeO.none _)
   | (with_reducible refine LeO.ite ?_ ?_)
   | (with_reducible refine LeO.bind ?_ (fun _ => ?_))
   | exact ih0 _
   | exact LeO.none _
   | refine LeO.ite ?_ ?_
   | refine LeO.bind ?_ (fun _ => ?_)
theorem grids_Check.mono : ∀ a0 a1 a2 k, LeO (grids_Check.f k a0 a1 a2) (grids_Check.f (k + 1) a0 a1 a2) := by
 intro a0 a1 a2 k
 have ih0 := grids_Check.mono_l k
 unfold grids_Check.f
 repeat' first
   | (with_reducible exact ih0 _)
   | (with_reducible exact LeO.refl _)
   | (with_reducible exact LeO.none _)
   | (with_reducible refine LeO.ite ?_ ?_)
   | (with_reducible refine LeO.bind ?_ (fun _ => ?_))
   | exact ih0 _
   | exact LeO.none _
   | refine LeO.ite ?_ ?_
   | refine LeO.bind ?_ (fun _ => ?_)
set_option maxHeartbeats 8000000 in
set_option maxRecDepth 100000 in
theorem grids_Check.calls (k : Nat) (a0_0 : Int) (a0_1 : Int) (a0_2 : Int) (r : Int) (w : World) (h : grids_Check.f k a0_0 a0_1 a0_2 = some r) :
  Calls Try.prog 14 #[.agg #[.int .i64 a0_0, .int .i64 a0_1, .int .i64 a0_2]] w fun e w' => e = .returned (.int .i64 r) ∧ Below w.heap.size w w' := by
 have hu23 := Try.underlying23
 have HB := Aside0.mk (Below.refl w.heap.size w)
 have H : (if a0_0 < 1 then (grids_Check.j0 k true) else (if a0_2 < 1 then (grids_Check.j0 k true) else (if a0_0 > 10000 then (grids_Check.j0 k true) else (if a0_2 > 10000 then (grids_Check.j0 k true) else ((grids_outside.f a0_1 10000).bind fun q4 => (if q4 = true then (grids_Check.j0 k true) else ((some (wrap64 (a0_0 * a0_2))).bind fun q1 => ((some (wrap64 (a0_1 * a0_1))).bind fun q2 => (grids_Check.j0 k (decide (q1 ≤ q2))))))))))) = some r := h
 clear h
 have HC2 := Aside0.mk H
 clear H
 go_enter Try.func14, Try.ntmps14
 go_upto_region 1 with (first | ((with_reducible refine gate_dst (N := 1) rfl ?_); refine bx 1 #[.int .i64 a0_0, .int .i64 a0_1, .int .i64 a0_2] 23 fun q8 hg w3 q0 hb => ?_; have qK := gw hg HB; have qJ := gw hg HB; replace HB := bst HB hb; clear hb hg))
 (try simp only [Act.put, List.setIfInBounds_toArray, List.set_cons_zero, List.set_cons_succ])
 go_cut [38] (fun v38 wc => ∃ (kq : Nat) (x38_1 : Bool), v38 = .bool x38_1 ∧ Aside0 (grids_Check.j0 kq x38_1 = some r) ∧ Aside0 (kq ≤ k) ∧ Aside0 (wc.heap[q8]? = some (.cells #[.int .i64 a0_0, .int .i64 a0_1, .int .i64 a0_2] 23 (0, 0))) ∧ Aside0 (Below w.heap.size w wc))
 case first =>
  have H := HC2.out
  clear HC2
  by_cases c4 : a0_0 < 1
  ·rw [if_pos c4] at H
   have q3 : decide (a0_0 < 1) = true := decide_eq_true c4
   clear c4
   (first | rw [q3] | (simp only [i64_w, i32_w]; rw [q3]) | skip)
   have H' := Aside0.mk H
   clear H
   have ⟨qi, qj, qk, qA, qB, qC⟩ := cf3 q0
   go_wp2
   go_meet
   case rel => exact ⟨_, (true), (by first | rfl | (simp; done) | (simp [*]; done)), H', ⟨by first | omega | exact Nat.le_refl _⟩, ⟨pk q0⟩, ⟨bnow HB⟩⟩
  ·rw [if_neg c4] at H
   have q3 : decide (a0_0 < 1) = false := decide_eq_false c4
   clear c4
   (first | rw [q3] | (simp only [i64_w, i32_w]; rw [q3]) | skip)
   by_cases c6 : a0_2 < 1
   ·rw [if_pos c6] at H
    have q6 : decide (a0_2 < 1) = true := decide_eq_true c6
    clear c6
    have H' := Aside0.mk H
    clear H
    have ⟨ql, qm, qn, qD, qE, qF⟩ := cf3 q0
    go_wp2
    go_meet
    case rel => exact ⟨_, (true), (by first | rfl | (simp; done) | (simp [*]; done)), H', ⟨by first | omega | exact Nat.le_refl _⟩, ⟨pk q0⟩, ⟨bnow HB⟩⟩
   ·rw [if_neg c6] at H
    have q6 : decide (a0_2 < 1) = false := decide_eq_false c6
    clear c6
    by_cases c8 : a0_0 > 10000
    ·rw [if_pos c8] at H
     have q7 : decide (10000 < a0_0) = true := decide_eq_true c8
     clear c8
     have H' := Aside0.mk H
     clear H
     have ⟨qo, qp, qq, qG, qH, qI⟩ := cf3 q0
     go_wp2
     go_meet
     case rel => exact ⟨_, (true), (by first | rfl | (simp; done) | (simp [*]; done)), H', ⟨by first | omega | exact Nat.le_refl _⟩, ⟨pk q0⟩, ⟨bnow HB⟩⟩
    ·rw [if_neg c8] at H
     have q7 : decide (10000 < a0_0) = false := decide_eq_false c8
     clear c8
     by_cases c10 : a0_2 > 10000
     ·rw [if_pos c10] at H
      have q5 : decide (10000 < a0_2) = true := decide_eq_true c10
      clear c10
      have H' := Aside0.mk H
      clear H
      have ⟨q9, qa, qb, qr, qs, qt⟩ := cf3 q0
      go_wp2
      go_meet
      case rel => exact ⟨_, (true), (by first | rfl | (simp; done) | (simp [*]; done)), H', ⟨by first | omega | exact Nat.le_refl _⟩, ⟨pk q0⟩, ⟨bnow HB⟩⟩
     ·rw [if_neg c10] at H
      have q5 : decide (10000 < a0_2) = false := decide_eq_false c10
      clear c10
      obtain ⟨q4, A12, H⟩ := ob H
      by_cases c13 : q4 = true
      ·subst c13
       have H1 : (grids_Check.j0 k true) = some r := by rw [if_pos rfl] at H; exact H
       clear H
       have H := H1
       clear H1
       have H' := Aside0.mk H
       clear H
       have ⟨qc, qd, qe, qu, qv, qw⟩ := cf3 q0
       go_wp2_with (first | (go_at_call 46; (with_reducible refine (grids_outside.calls a0_1 10000 true _ A12.out).mono ?_); rintro e w' ⟨rfl, ⟨nd, rfl⟩⟩))
       go_meet
       case rel => exact ⟨_, (true), (by first | rfl | (simp; done) | (simp [*]; done)), H', ⟨by first | omega | exact Nat.le_refl _⟩, ⟨pk q0⟩, ⟨bnow HB⟩⟩
      ·replace c13 := Bool.eq_false_iff.mpr c13
       subst c13
       have H1 : ((some (wrap64 (a0_0 * a0_2))).bind fun q1 => ((some (wrap64 (a0_1 * a0_1))).bind fun q2 => (grids_Check.j0 k (decide (q1 ≤ q2))))) = some r := by rw [if_neg (show ¬ (false = true) by decide)] at H; exact H
       clear H
       have H := H1
       clear H1
       obtain ⟨q1, E150, H⟩ := oc H
       have E15w : (IntKind.i64.wrap (a0_0 * a0_2)) = q1 := (i64_w _).trans E150
       obtain ⟨q2, E160, H⟩ := oc H
       have E16w : (IntKind.i64.wrap (a0_1 * a0_1)) = q2 := (i64_w _).trans E160
       have H' := Aside0.mk H
       clear H
       have ⟨qf, qg, qh, qx, qy, qz⟩ := cf3 q0
       go_wp2_with (first | (go_at_call 46; (with_reducible refine (grids_outside.calls a0_1 10000 false _ A12.out).mono ?_); rintro e w' ⟨rfl, ⟨nd, rfl⟩⟩))
       go_meet
       case rel => exact ⟨_, (decide (q1 ≤ q2)), (by first | rfl | (simp; done) | (simp [*]; done)), H', ⟨by first | omega | exact Nat.le_refl _⟩, ⟨pk q0⟩, ⟨bnow HB⟩⟩
 case rest =>
  clear HC2
  try clear c1; try clear p2; try clear c4; try clear q3; try clear c6; try clear q6; try clear p6; try clear c8; try clear q7; try clear c10; try clear q5; try clear c13; try clear c14; try clear q9; try clear qa; try clear qb; try clear qc; try clear qd; try clear qe; try clear qf; try clear qg; try clear qh; try clear qi; try clear qj; try clear qk; try clear ql; try clear qm; try clear qn; try clear qo; try clear qp; try clear qq; try clear qr; try clear qs; try clear qt; try clear qu; try clear qv; try clear qw; try clear qx; try clear qy; try clear qz; try clear qA; try clear qB; try clear qC; try clear qD; try clear qE; try clear qF; try clear qG; try clear qH; try clear qI
  obtain ⟨kq, x38_1, rfl, HA, HJ1, q0, HB⟩ := hcut
  cases kq with
  | zero => exact absurd HA.out (by simp [grids_Check.j0])
  | succ kj1 =>
   have H := HA.out
   clear HA
   simp only [grids_Check.j0] at H
   by_cases c18 : x38_1 = true
   ·subst c18
    have H1 : (some 2) = some r := by rw [if_pos rfl] at H; exact H
    clear H
    have H := H1
    clear H1
    obtain rfl := Option.some.inj H
    go_wp2
    go_ret
    exact rt HB
   ·replace c18 := Bool.eq_false_iff.mpr c18
    subst c18
    have H1 : (some 0) = some r := by rw [if_neg (show ¬ (false = true) by decide)] at H; exact H
    clear H
    have H := H1
    clear H1
    obtain rfl := Option.some.inj H
    go_wp2
    go_ret
    exact rt HB
end
section
/-! ### grids_times: function 40 -/
def grids_times.f (a0_0 : Int) (a0_1 : Int) (a0_2 : Int) (a0_3 : Int) (a1_0 : Int) (a1_1 : Int) (a1_2 : Int) (a1_3 : Int) : Option (Int × Int × Int × Int) := (some (wrap64 (a0_0 * a1_0))).bind fun q6 => ((some (wrap64 (a0_1 * a1_2))).bind fun q7 => ((some (wrap64 (q6 + q7))).bind fun q2 => ((some (wrap64 (a0_0 * a1_1))).bind fun q8 => ((some (wrap64 (a0_1 * a1_3))).bind fun q9 => ((some (wrap64 (q8 + q9))).bind fun q3 => ((some (wrap64 (a0_2 * a1_0))).bind fun qa => ((some (wrap64 (a0_3 * a1_2))).bind fun qb => ((some (wrap64 (qa + qb))).bind fun q4 => ((some (wrap64 (a0_2 * a1_1))).bind fun qc => ((some (wrap64 (a0_3 * a1_3))).bind fun qd => ((some (wrap64 (qc + qd))).bind fun q5 => (some (q2, q3, q4, q5)))))))))))))
set_option maxHeartbeats 8000000 in
set_option maxRecDepth 100000 in
theorem grids_times.calls (a0_0 : Int) (a0_1 : Int) (a0_2 : Int) (a0_3 : Int) (a1_0 : Int) (a1_1 : Int) (a1_2 : Int) (a1_3 : Int) (r1 : Int) (r2 : Int) (r3 : Int) (r4 : Int) (w : World) (h : grids_times.f a0_0 a0_1 a0_2 a0_3 a1_0 a1_1 a1_2 a1_3 = some (r1, r2, r3, r4)) :
  Calls Try.prog 40 #[.agg #[.int .i64 a0_0, .int .i64 a0_1, .int .i64 a0_2, .int .i64 a0_3], .agg #[.int .i64 a1_0, .int .i64 a1_1, .int .i64 a1_2, .int .i64 a1_3]] w fun e w' => e = .returned (.agg #[.int .i64 r1, .int .i64 r2, .int .i64 r3, .int .i64 r4]) ∧ Below w.heap.size w w' := by
 have hu25 := Try.underlying25
 have HB := Aside0.mk (Below.refl w.heap.size w)
 have H : ((some (wrap64 (a0_0 * a1_0))).bind fun q6 => ((some (wrap64 (a0_1 * a1_2))).bind fun q7 => ((some (wrap64 (q6 + q7))).bind fun q2 => ((some (wrap64 (a0_0 * a1_1))).bind fun q8 => ((some (wrap64 (a0_1 * a1_3))).bind fun q9 => ((some (wrap64 (q8 + q9))).bind fun q3 => ((some (wrap64 (a0_2 * a1_0))).bind fun qa => ((some (wrap64 (a0_3 * a1_2))).bind fun qb => ((some (wrap64 (qa + qb))).bind fun q4 => ((some (wrap64 (a0_2 * a1_1))).bind fun qc => ((some (wrap64 (a0_3 * a1_3))).bind fun qd => ((some (wrap64 (qc + qd))).bind fun q5 => (some (q2, q3, q4, q5)))))))))))))) = some (r1, r2, r3, r4) := h
 clear h
 obtain ⟨q6, E30, H⟩ := oc H
 have E3w : (IntKind.i64.wrap (a0_0 * a1_0)) = q6 := (i64_w _).trans E30
 obtain ⟨q7, E40, H⟩ := oc H
 have E4w : (IntKind.i64.wrap (a0_1 * a1_2)) = q7 := (i64_w _).trans E40
 obtain ⟨q2, E50, H⟩ := oc H
 have E5w : (IntKind.i64.wrap (q6 + q7)) = q2 := (i64_w _).trans E50
 obtain ⟨q8, E60, H⟩ := oc H
 have E6w : (IntKind.i64.wrap (a0_0 * a1_1)) = q8 := (i64_w _).trans E60
 obtain ⟨q9, E70, H⟩ := oc H
 have E7w : (IntKind.i64.wrap (a0_1 * a1_3)) = q9 := (i64_w _).trans E70
 obtain ⟨q3, E80, H⟩ := oc H
 have E8w : (IntKind.i64.wrap (q8 + q9)) = q3 := (i64_w _).trans E80
 obtain ⟨qa, E90, H⟩ := oc H
 have E9w : (IntKind.i64.wrap (a0_2 * a1_0)) = qa := (i64_w _).trans E90
 obtain ⟨qb, E100, H⟩ := oc H
 have E10w : (IntKind.i64.wrap (a0_3 * a1_2)) = qb := (i64_w _).trans E100
 obtain ⟨q4, E110, H⟩ := oc H
 have E11w : (IntKind.i64.wrap (qa + qb)) = q4 := (i64_w _).trans E110
 obtain ⟨qc, E120, H⟩ := oc H
 have E12w : (IntKind.i64.wrap (a0_2 * a1_1)) = qc := (i64_w _).trans E120
 obtain ⟨qd, E130, H⟩ := oc H
 have E13w : (IntKind.i64.wrap (a0_3 * a1_3)) = qd := (i64_w _).trans E130
 obtain ⟨q5, E140, H⟩ := oc H
 have E14w : (IntKind.i64.wrap (qc + qd)) = q5 := (i64_w _).trans E140
 simp only [Option.some.injEq, Prod.mk.injEq] at H
 obtain ⟨rfl, rfl, rfl, rfl⟩ := H
 go_enter Try.func40, Try.ntmps40
 go_wp2_with (first | ((with_reducible refine gate_dst (N := 2) rfl ?_); refine bx 2 #[.int .i64 a0_0, .int .i64 a0_1, .int .i64 a0_2, .int .i64 a0_3] 25 fun qs hg w15 q0 hb => ?_; have qp := gw hg HB; have qm := gw hg HB; replace HB := bst HB hb; clear hb hg) | ((with_reducible refine gate_dst (N := 3) rfl ?_); refine bx 3 #[.int .i64 a1_0, .int .i64 a1_1, .int .i64 a1_2, .int .i64 a1_3] 25 fun qt hg w16 q1 hb => ?_; have qq := gw hg HB; have qn := gw hg HB; have qg := nlt hg q0; have qi := ngt hg q0; replace q0 := bb q0 hb; replace HB := bst HB hb; clear hb hg) | ((with_reducible refine gate_dst (N := 4) rfl ?_); refine bx 4 #[.int .i64 0, .int .i64 0, .int .i64 0, .int .i64 0] 25 fun qe hg w17 qf hb => ?_; have qr := gw hg HB; have qo := gw hg HB; have qh := nlt hg q0; have qk := ngt hg q0; have qj := nlt hg q1; have ql := ngt hg q1; replace q0 := bb q0 hb; replace q1 := bb q1 hb; replace HB := bst HB hb; clear hb hg; have qS := qg.out; have qV := qi.out; have qT := qh.out; have qW := qk.out; have ⟨qu, qv, qw, qx, qG, qH, qI, qJ⟩ := cf4 q0; have qU := qj.out; have qX := ql.out; have ⟨qy, qz, qA, qB, qK, qL, qM, qN⟩ := cf4 q1; have ⟨qC, qD, qE, qF, qO, qP, qQ, qR⟩ := cf4 qf) | ((with_reducible refine gate_store (t := 25) (p := 4) rfl ?_); refine sx 25 4 (((((w17.setCell ⟨qe, 0, none⟩ (.int .i64 q2)).setCell ⟨qe, 1, none⟩ (.int .i64 q3)).setCell ⟨qe, 2, none⟩ (.int .i64 q4)).setCell ⟨qe, 3, none⟩ (.int .i64 q5))) fun w24 hw => ?_; replace q0 := fw hw q0; replace q1 := fw hw q1; replace qf := pw4 hw qf; replace HB := bw hw HB; clear hw))
 refine bodyPost_ret (results_cell_row rfl _ _ qe 25 #[.int .i64 q2, .int .i64 q3, .int .i64 q4, .int .i64 q5] (0, 0) _ rfl (pk qf) Try.underlying25 rfl (by kernel_rfl)) rfl ?_
 exact rt HB
end
section
/-! ### grids_floor: function 71 -/
def grids_floor.f (a0 : Int) (a1 : Int) : Option (Int) := if a1 = 0 then (none) else ((some (wrap64 (Int.tdiv a0 a1))).bind fun q0 => ((some (Int.tmod a0 a1)).bind fun q1 => (if q1 = 0 then (some q0) else (if ((decide (a0 < 0)) != (decide (a1 < 0))) = true then ((some (wrap64 (q0 - 1))).bind fun q2 => (some q2)) else (some q0)))))
set_option maxHeartbeats 8000000 in
set_option maxRecDepth 100000 in
theorem grids_floor.calls (a0 : Int) (a1 : Int) (r : Int) (w : World) (h : grids_floor.f a0 a1 = some r) :
  Calls Try.prog 71 #[.int .i64 a0, .int .i64 a1] w fun e w' => e = .returned (.int .i64 r) ∧ Drawn0 w w' := by
 have H : (if a1 = 0 then (none) else ((some (wrap64 (Int.tdiv a0 a1))).bind fun q0 => ((some (Int.tmod a0 a1)).bind fun q1 => (if q1 = 0 then (some q0) else (if ((decide (a0 < 0)) != (decide (a1 < 0))) = true then ((some (wrap64 (q0 - 1))).bind fun q2 => (some q2)) else (some q0)))))) = some r := h
 clear h
 by_cases c3 : a1 = 0
 ·rw [if_pos c3] at H
  exact absurd H (by simp)
 ·rw [if_neg c3] at H
  have q8 : (a1 == 0) = false := beq_eq_false_iff_ne.mpr c3
  have q9 : (a1 != 0) = true := bne_iff_ne.mpr c3
  obtain ⟨q0, E40, H⟩ := oc H
  have E4w : (IntKind.i64.wrap (Int.tdiv a0 a1)) = q0 := (i64_w _).trans E40
  obtain ⟨q1, E50, H⟩ := oc H
  by_cases c6 : q1 = 0
  ·rw [if_pos c6] at H
   have q3 : (q1 == 0) = true := beq_iff_eq.mpr c6
   have q4 : (q1 != 0) = false := bne_eq_false_iff_eq.mpr c6
   clear c6
   obtain rfl := Option.some.inj H
   go_enter Try.func71, Try.ntmps71
   go_wp2
   go_ret
   exact ⟨by first | rfl | (simp; done) | (simp [*]; done), by repeat (first | exact Drawn0.refl _ | apply Drawn0.step)⟩
  ·rw [if_neg c6] at H
   have q3 : (q1 == 0) = false := beq_eq_false_iff_ne.mpr c6
   have q4 : (q1 != 0) = true := bne_iff_ne.mpr c6
   by_cases c7 : ((decide (a0 < 0)) != (decide (a1 < 0))) = true
   ·rw [if_pos c7] at H
    have q5 : ((decide (a0 < 0)) != (decide (a1 < 0))) = true := c7
    (try (have q6 : decide ((decide (a0 < 0)) = (decide (a1 < 0))) = false := by simpa using c7))
    (try (have q7 : ((decide (a0 < 0)) == (decide (a1 < 0))) = false := by simpa using c7))
    (try (have qa : ¬ ((decide (a0 < 0)) = (decide (a1 < 0))) := by simpa using c7))
    clear c7
    obtain ⟨q2, E80, H⟩ := oc H
    have E8w : (IntKind.i64.wrap (q0 - 1)) = q2 := (i64_w _).trans E80
    obtain rfl := Option.some.inj H
    go_enter Try.func71, Try.ntmps71
    go_wp2
    go_ret
    exact ⟨by first | rfl | (simp; done) | (simp [*]; done), by repeat (first | exact Drawn0.refl _ | apply Drawn0.step)⟩
   ·rw [if_neg c7] at H
    have q5 : ((decide (a0 < 0)) != (decide (a1 < 0))) = false := by simpa using c7
    (try (have q6 : decide ((decide (a0 < 0)) = (decide (a1 < 0))) = true := by simpa using c7))
    (try (have q7 : ((decide (a0 < 0)) == (decide (a1 < 0))) = true := by simpa using c7))
    clear c7
    obtain rfl := Option.some.inj H
    go_enter Try.func71, Try.ntmps71
    go_wp2
    go_ret
    exact ⟨by first | rfl | (simp; done) | (simp [*]; done), by repeat (first | exact Drawn0.refl _ | apply Drawn0.step)⟩
end
section
/-! ### grids_reduce: function 38 -/
mutual
def grids_reduce.l0 : Nat → Int → Int → Int → Int → Int → Int → Int → Option (Int × Int × Int × Int × Int × Int × Int)
 | 0, _, _, _, _, _, _, _ => none
 | k + 1, x125000, x125001, x125002, x128000, x128001, x128002, x128003 => (some (wrap64 (2 * x125001))).bind fun qy => ((some (wrap64 (qy + x125000))).bind fun qw => ((some (wrap64 (2 * x125000))).bind fun qx => ((grids_floor.f qw qx).bind fun qf => ((some (wrap64 (-qf))).bind fun qz => ((grids_times.f x128000 x128001 x128002 x128003 1 qz 0 1).bind fun qn => ((some (wrap64 (qf * x125000))).bind fun qA => ((some (wrap64 (x125001 - qA))).bind fun qg => ((some (wrap64 (2 * qf))).bind fun qB => ((some (wrap64 (qB * x125001))).bind fun qC => ((some (wrap64 (x125002 - qC))).bind fun qD => ((some (wrap64 (qf * qf))).bind fun qE => ((some (wrap64 (qE * x125000))).bind fun qF => ((some (wrap64 (qD + qF))).bind fun q9 => (if qg < 0 then ((some (wrap64 (-qg))).bind fun qt => ((some (wrap64 (-qn.2.1))).bind fun qq => ((some (wrap64 (-qn.2.2.2))).bind fun qu => (grids_reduce.j1 k x125000 qt q9 qn.1 qq qn.2.2.1 qu)))) else (grids_reduce.j1 k x125000 qg q9 qn.1 qn.2.1 qn.2.2.1 qn.2.2.2)))))))))))))))
def grids_reduce.j1 : Nat → Int → Int → Int → Int → Int → Int → Int → Option (Int × Int × Int × Int × Int × Int × Int)
 | 0, _, _, _, _, _, _, _ => none
 | k + 1, x125000, x125001, x125002, x128000, x128001, x128002, x128003 => if x125000 ≤ x125002 then (some (x125000, x125001, x125002, x128000, x128001, x128002, x128003)) else (grids_reduce.l0 k x125002 x125001 x125000 x128001 x128000 x128003 x128002)
end
def grids_reduce.f (k : Nat) (a0_0 : Int) (a0_1 : Int) (a0_2 : Int) : Option (Int × Int × Int × Int × Int × Int × Int) := grids_reduce.l0 k a0_0 a0_1 a0_2 1 0 0 1
theorem grids_reduce.mono_l : ∀ k, (∀ y0 y1 y2 y3 y4 y5 y6, LeO (grids_reduce.l0 k y0 y1 y2 y3 y4 y5 y6) (grids_reduce.l0 (k + 1) y0 y1 y2 y3 y4 y5 y6)) ∧ (∀ y0 y1 y2 y3 y4 y5 y6, LeO (grids_reduce.j1 k y0 y1 y2 y3 y4 y5 y6) (grids_reduce.j1 (k + 1) y0 y1 y2 y3 y4 y5 y6))
 | 0 => ⟨fun _ _ _ _ _ _ _ r h => by simp [grids_reduce.l0] at h, fun _ _ _ _ _ _ _ r h => by simp [grids_reduce.j1] at h⟩
 | k + 1 => by
  obtain ⟨ih0, ih1⟩ := grids_reduce.mono_l k
  refine ⟨?_, ?_⟩
  ·intro y0 y1 y2 y3 y4 y5 y6
   unfold grids_reduce.l0
   repeat' first
   | (with_reducible exact ih0 _ _ _ _ _ _ _)
   | (with_reducible exact ih1 _ _ _ _ _ _ _)
   | (with_reducible exact LeO.refl _)
   | (with_reducible exact LeO.none _)
   | (with_reducible refine LeO.ite ?_ ?_)
   | (with_reducible refine LeO.bind ?_ (fun _ => ?_))
   | exact ih0 _ _ _ _ _ _ _
   | exact ih1 _ _ _ _ _ _ _
   | exact LeO.none _
   | refine LeO.ite ?_ ?_
   | refine LeO.bind ?_ (fun _ => ?_)
  ·intro y0 y1 y2 y3 y4 y5 y6
   unfold grids_reduce.j1
   repeat' first
   | (with_reducible exact ih0 _ _ _ _ _ _ _)
   | (with_reducible exact ih1 _ _ _ _ _ _ _)
   | (with_reducible exact LeO.refl _)
   | (with_reducible exact LeO.none _)
   | (with_reducible refine LeO.ite ?_ ?_)
   | (with_reducible refine LeO.bind ?_ (fun _ => ?_))
   | exact ih0 _ _ _ _ _ _ _
   | exact ih1 _ _ _ _ _ _ _
   | exact LeO.none _
   | refine LeO.ite ?_ ?_
   | refine LeO.bind ?_ (fun _ => ?_)
theorem grids_reduce.mono : ∀ a0 a1 a2 k, LeO (grids_reduce.f k a0 a1 a2) (grids_reduce.f (k + 1) a0 a1 a2) := by
 intro a0 a1 a2 k
 obtain ⟨ih0, ih1⟩ := grids_reduce.mono_l k
 unfold grids_reduce.f
 repeat' first
   | (with_reducible exact ih0 _ _ _ _ _ _ _)
   | (with_reducible exact ih1 _ _ _ _ _ _ _)
   | (with_reducible exact LeO.refl _)
   | (with_reducible exact LeO.none _)
   | (with_reducible refine LeO.ite ?_ ?_)
   | (with_reducible refine LeO.bind ?_ (fun _ => ?_))
   | exact ih0 _ _ _ _ _ _ _
   | exact ih1 _ _ _ _ _ _ _
   | exact LeO.none _
   | refine LeO.ite ?_ ?_
   | refine LeO.bind ?_ (fun _ => ?_)
set_option maxHeartbeats 8000000 in
set_option maxRecDepth 100000 in
theorem grids_reduce.calls (k : Nat) (a0_0 : Int) (a0_1 : Int) (a0_2 : Int) (r1 : Int) (r2 : Int) (r3 : Int) (r4 : Int) (r5 : Int) (r6 : Int) (r7 : Int) (w : World) (h : grids_reduce.f k a0_0 a0_1 a0_2 = some (r1, r2, r3, r4, r5, r6, r7)) :
  Calls Try.prog 38 #[.agg #[.int .i64 a0_0, .int .i64 a0_1, .int .i64 a0_2]] w fun e w' => e = .returned (.tuple #[.agg #[.int .i64 r1, .int .i64 r2, .int .i64 r3], .agg #[.int .i64 r4, .int .i64 r5, .int .i64 r6, .int .i64 r7]]) ∧ Below w.heap.size w w' := by
 have hu23 := Try.underlying23
 have hu25 := Try.underlying25
 have HB := Aside0.mk (Below.refl w.heap.size w)
 have H : (grids_reduce.l0 k a0_0 a0_1 a0_2 1 0 0 1) = some (r1, r2, r3, r4, r5, r6, r7) := h
 clear h
 have H' := Aside0.mk H
 clear H
 go_enter Try.func38, Try.ntmps38
 go_wp2_with (first | ((with_reducible refine gate_dst (N := 1) rfl ?_); refine bx 1 #[.int .i64 a0_0, .int .i64 a0_1, .int .i64 a0_2] 23 fun qe hg w2 q0 hb => ?_; have jG := gw hg HB; have jC := gw hg HB; replace HB := bst HB hb; clear hb hg) | ((with_reducible refine gate_dst (N := 2) rfl ?_); refine bx 2 #[.int .i64 0, .int .i64 0, .int .i64 0] 23 fun q5 hg w3 q1 hb => ?_; have jH := gw hg HB; have jD := gw hg HB; have qd := nlt hg q0; have qo := ngt hg q0; replace q0 := bb q0 hb; replace HB := bst HB hb; clear hb hg) | ((with_reducible refine gate_dst (N := 3) rfl ?_); refine bx 3 #[.int .i64 0, .int .i64 0, .int .i64 0, .int .i64 0] 25 fun q4 hg w4 q2 hb => ?_; have jI := gw hg HB; have jE := gw hg HB; have q8 := nlt hg q0; have qk := ngt hg q0; have qh := nlt hg q1; have qi := ngt hg q1; replace q0 := bb q0 hb; replace q1 := bb q1 hb; replace HB := bst HB hb; clear hb hg) | ((with_reducible refine gate_dst (N := 4) rfl ?_); refine bx 4 #[.int .i64 0, .int .i64 0, .int .i64 0, .int .i64 0] 25 fun q7 hg w5 q3 hb => ?_; have jJ := gw hg HB; have jF := gw hg HB; have qj := nlt hg q0; have qm := ngt hg q0; have qp := nlt hg q1; have qa := ngt hg q1; have ql := nlt hg q2; have q6 := ngt hg q2; replace q0 := bb q0 hb; replace q1 := bb q1 hb; replace q2 := bb q2 hb; replace HB := bst HB hb; clear hb hg; have gU := qm.out; have Qf := qj.out; have Q0 := qa.out; have Ql := qp.out; have Q1 := q6.out; have Qm := ql.out; have ⟨qH, qI, qJ, qK, qL, qM, qN, qO⟩ := cf4 q3) | ((with_reducible refine gate_store (t := 25) (p := 4) rfl ?_); refine sx 25 4 (((((w5.setCell ⟨q7, 0, none⟩ (.int .i64 1)).setCell ⟨q7, 1, none⟩ (.int .i64 0)).setCell ⟨q7, 2, none⟩ (.int .i64 0)).setCell ⟨q7, 3, none⟩ (.int .i64 1))) fun w10 hw => ?_; replace q0 := fw hw q0; replace q1 := fw hw q1; replace q2 := fw hw q2; replace q3 := pw4 hw q3; replace HB := bw hw HB; clear hw))
 (try simp only [Act.put, List.setIfInBounds_toArray, List.set_cons_zero, List.set_cons_succ])
 go_loopg [] k (fun kq w' => ∃ (x125000_1 : Int) (x125001_1 : Int) (x125002_1 : Int) (x126000_1 : Int) (x126001_1 : Int) (x126002_1 : Int) (x127000_1 : Int) (x127001_1 : Int) (x127002_1 : Int) (x127003_1 : Int) (x128000_1 : Int) (x128001_1 : Int) (x128002_1 : Int) (x128003_1 : Int), Aside0 (grids_reduce.l0 kq x125000_1 x125001_1 x125002_1 x128000_1 x128001_1 x128002_1 x128003_1 = some (r1, r2, r3, r4, r5, r6, r7)) ∧ Aside0 (kq ≤ k) ∧ Aside0 (w'.heap[qe]? = some (.cells #[.int .i64 x125000_1, .int .i64 x125001_1, .int .i64 x125002_1] 23 (0, 0))) ∧ Aside0 (w'.heap[q5]? = some (.cells #[.int .i64 x126000_1, .int .i64 x126001_1, .int .i64 x126002_1] 23 (0, 0))) ∧ Aside0 (w'.heap[q4]? = some (.cells #[.int .i64 x127000_1, .int .i64 x127001_1, .int .i64 x127002_1, .int .i64 x127003_1] 25 (0, 0))) ∧ Aside0 (w'.heap[q7]? = some (.cells #[.int .i64 x128000_1, .int .i64 x128001_1, .int .i64 x128002_1, .int .i64 x128003_1] 25 (0, 0))) ∧ Aside0 (Below w.heap.size w w'))
 case atStart => exact ⟨(a0_0), (a0_1), (a0_2), (0), (0), (0), (0), (0), (0), (0), (1), (0), (0), (1), H', ⟨Nat.le_refl _⟩, ⟨pk q0⟩, ⟨pk q1⟩, ⟨pk q2⟩, ⟨pk q3⟩, ⟨bnow HB⟩⟩
 case round =>
  clear H'
  try clear p2; try clear c3; try clear c6; try clear c7; try clear c8; try clear qH; try clear qI; try clear qJ; try clear qK; try clear qL; try clear qM; try clear qN; try clear qO
  obtain ⟨x125000_1, x125001_1, x125002_1, x126000_1, x126001_1, x126002_1, x127000_1, x127001_1, x127002_1, x127003_1, x128000_1, x128001_1, x128002_1, x128003_1, HA, HK1, q0, q1, q2, q3, HB⟩ := hrel
  cases gk with
  | zero => exact absurd HA.out (by simp [grids_reduce.l0])
  | succ k1 =>
   have H := HA.out
   clear HA
   simp only [grids_reduce.l0] at H
   obtain ⟨qy, E110, H⟩ := oc H
   have E11w : (IntKind.i64.wrap (2 * x125001_1)) = qy := (i64_w _).trans E110
   obtain ⟨qw, E120, H⟩ := oc H
   have E12w : (IntKind.i64.wrap (qy + x125000_1)) = qw := (i64_w _).trans E120
   obtain ⟨qx, E130, H⟩ := oc H
   have E13w : (IntKind.i64.wrap (2 * x125000_1)) = qx := (i64_w _).trans E130
   obtain ⟨qf, A14, H⟩ := ob H
   obtain ⟨qz, E150, H⟩ := oc H
   have E15w : (IntKind.i64.wrap (-qf)) = qz := (i64_w _).trans E150
   obtain ⟨⟨qb, qv, qc, qs⟩, A16, H⟩ := ob H
   obtain ⟨qA, E170, H⟩ := oc H
   have E17w : (IntKind.i64.wrap (qf * x125000_1)) = qA := (i64_w _).trans E170
   obtain ⟨qg, E180, H⟩ := oc H
   have E18w : (IntKind.i64.wrap (x125001_1 - qA)) = qg := (i64_w _).trans E180
   obtain ⟨qB, E190, H⟩ := oc H
   have E19w : (IntKind.i64.wrap (2 * qf)) = qB := (i64_w _).trans E190
   obtain ⟨qC, E200, H⟩ := oc H
   have E20w : (IntKind.i64.wrap (qB * x125001_1)) = qC := (i64_w _).trans E200
   obtain ⟨qD, E210, H⟩ := oc H
   have E21w : (IntKind.i64.wrap (x125002_1 - qC)) = qD := (i64_w _).trans E210
   obtain ⟨qE, E220, H⟩ := oc H
   have E22w : (IntKind.i64.wrap (qf * qf)) = qE := (i64_w _).trans E220
   obtain ⟨qF, E230, H⟩ := oc H
   have E23w : (IntKind.i64.wrap (qE * x125000_1)) = qF := (i64_w _).trans E230
   obtain ⟨q9, E240, H⟩ := oc H
   have E24w : (IntKind.i64.wrap (qD + qF)) = q9 := (i64_w _).trans E240
   have qG := Aside0.mk H
   clear H
   have gH := qd.out
   have Q2 := qo.out
   have gI := q8.out
   have Q3 := qk.out
   have gJ := qj.out
   have Q4 := qm.out
   have ⟨qQ, qR, qS, je, jf, jg⟩ := cf3 q0
   go_upto_if 49 with (first | ((with_reducible refine gate_callee (f := 71) rfl ?_); refine goesL_ (some 16) rfl rfl Try.func71 (by kernel_rfl) rfl #[.int .i64 qw, .int .i64 qx] rfl am ?_; (with_reducible refine (grids_floor.calls qw qx qf _ A14.out).mono ?_); rintro e w' ⟨rfl, ⟨nd, rfl⟩⟩; refine ⟨_, rfl, ?_⟩; (try (rw [drewN_self wr]; generalize hq_ : World.drewN wr _ = wr; have n0_ : Aside0 (wr.heap[qe]? = some (.cells #[.int .i64 x125000_1, .int .i64 x125001_1, .int .i64 x125002_1] 23 (0, 0))) := ⟨by rw [← hq_]; exact (pk q0)⟩; have n1_ : Aside0 (wr.heap[q5]? = some (.cells #[.int .i64 x126000_1, .int .i64 x126001_1, .int .i64 x126002_1] 23 (0, 0))) := ⟨by rw [← hq_]; exact (pk q1)⟩; have n2_ : Aside0 (wr.heap[q4]? = some (.cells #[.int .i64 x127000_1, .int .i64 x127001_1, .int .i64 x127002_1, .int .i64 x127003_1] 25 (0, 0))) := ⟨by rw [← hq_]; exact (pk q2)⟩; have n3_ : Aside0 (wr.heap[q7]? = some (.cells #[.int .i64 x128000_1, .int .i64 x128001_1, .int .i64 x128002_1, .int .i64 x128003_1] 25 (0, 0))) := ⟨by rw [← hq_]; exact (pk q3)⟩; have n4_ : Aside0 (Below w.heap.size w wr) := ⟨by rw [← hq_]; exact (bnow HB)⟩; clear q0 q1 q2 q3 HB hq_; have q0 := n0_; have q1 := n1_; have q2 := n2_; have q3 := n3_; have HB := n4_; clear n0_ n1_ n2_ n3_ n4_)); have gK := qa.out; have Q5 := qp.out; have gL := q6.out; have Q6 := ql.out; have ⟨qT, qU, qV, qW, jh, ji, jj, jk⟩ := cf4 q3) | ((with_reducible refine gate_callee (f := 40) rfl ?_); refine gl 21 Try.func40 (grids_times.calls x128000_1 x128001_1 x128002_1 x128003_1 1 qz 0 1 qb qv qc qs _ A16.out) ?_; rintro e w33 ⟨rfl, hb⟩; refine ⟨_, rfl, ?_⟩; replace q0 := bb q0 hb; replace q1 := bb q1 hb; replace q2 := bb q2 hb; replace q3 := bb q3 hb; replace HB := bst HB hb; clear hb; have ⟨qX, qY, qZ, j0, jl, jm, jn, jo⟩ := cf4 q3) | ((with_reducible refine gate_store (t := 25) (p := 4) rfl ?_); refine sx 25 4 (((((w33.setCell ⟨q7, 0, none⟩ (.int .i64 qb)).setCell ⟨q7, 1, none⟩ (.int .i64 qv)).setCell ⟨q7, 2, none⟩ (.int .i64 qc)).setCell ⟨q7, 3, none⟩ (.int .i64 qs))) fun w35 hw => ?_; replace q0 := fw hw q0; replace q1 := fw hw q1; replace q2 := fw hw q2; replace q3 := pw4 hw q3; replace HB := bw hw HB; clear hw; have ⟨j1, j2, j3, jp, jq, jr⟩ := cf3 q0) | ((with_reducible refine gate_store (t := 23) (p := 1) rfl ?_); refine sx 23 1 ((((w35.setCell ⟨qe, 0, none⟩ (.int .i64 x125000_1)).setCell ⟨qe, 1, none⟩ (.int .i64 qg)).setCell ⟨qe, 2, none⟩ (.int .i64 q9))) fun w37 hw => ?_; replace q0 := pw3 hw q0; replace q1 := fw hw q1; replace q2 := fw hw q2; replace q3 := fw hw q3; replace HB := bw hw HB; clear hw; have ⟨j4, j5, j6, js, jt, ju⟩ := cf3 q0))
   (try simp only [Act.put, List.setIfInBounds_toArray, List.set_cons_zero, List.set_cons_succ])
   go_cut [] (fun wc => ∃ (kq : Nat) (x125001_24 : Int) (x128001_24 : Int) (x128003_24 : Int), Aside0 (grids_reduce.j1 kq x125000_1 x125001_24 q9 qb x128001_24 qc x128003_24 = some (r1, r2, r3, r4, r5, r6, r7)) ∧ Aside0 (kq ≤ k1) ∧ Aside0 (wc.heap[qe]? = some (.cells #[.int .i64 x125000_1, .int .i64 x125001_24, .int .i64 q9] 23 (0, 0))) ∧ Aside0 (wc.heap[q5]? = some (.cells #[.int .i64 x126000_1, .int .i64 x126001_1, .int .i64 x126002_1] 23 (0, 0))) ∧ Aside0 (wc.heap[q4]? = some (.cells #[.int .i64 x127000_1, .int .i64 x127001_1, .int .i64 x127002_1, .int .i64 x127003_1] 25 (0, 0))) ∧ Aside0 (wc.heap[q7]? = some (.cells #[.int .i64 qb, .int .i64 x128001_24, .int .i64 qc, .int .i64 x128003_24] 25 (0, 0))) ∧ Aside0 (Below w.heap.size w wc))
   case first =>
    have H := qG.out
    clear qG
    by_cases c39 : qg < 0
    ·rw [if_pos c39] at H
     have qr : decide (qg < 0) = true := decide_eq_true c39
     clear c39
     (first | rw [qr] | (simp only [i64_w, i32_w]; rw [qr]) | skip)
     obtain ⟨qt, E400, H⟩ := oc H
     have E40w : (IntKind.i64.wrap (-qg)) = qt := (i64_w _).trans E400
     obtain ⟨qq, E410, H⟩ := oc H
     have E41w : (IntKind.i64.wrap (-qv)) = qq := (i64_w _).trans E410
     obtain ⟨qu, E420, H⟩ := oc H
     have E42w : (IntKind.i64.wrap (-qs)) = qu := (i64_w _).trans E420
     have H' := Aside0.mk H
     clear H
     have gM := qd.out
     have Q7 := qo.out
     have gN := q8.out
     have Q8 := qk.out
     have gO := qj.out
     have Q9 := qm.out
     have ⟨j7, j8, j9, jv, jw, jx⟩ := cf3 q0
     have gP := qa.out
     have Qa := qp.out
     have gQ := q6.out
     have Qb := ql.out
     have ⟨ja, jb, jc, jd, jy, jz, jA, jB⟩ := cf4 q3
     go_wp2_with (first | ((with_reducible refine gate_store (t := 2) (p := 61) rfl ?_); refine sx 2 61 ((((w37.setCell ⟨qe, 1, none⟩ (.int .i64 qt)).setCell ⟨q7, 1, none⟩ (.int .i64 qq)).setCell ⟨q7, 3, none⟩ (.int .i64 qu))) fun w50 hw => ?_; have n0_ : Aside0 (w50.heap[qe]? = some (.cells #[.int .i64 x125000_1, .int .i64 qt, .int .i64 q9] 23 (0, 0))) := ⟨(by rw [hw]; exact (by (with_reducible repeat (first | refine blk_drewN ?_ _ | refine blk_drew ?_ | refine blk_alloc ?_ _)); refine blk_far ?_ qj.out _; (with_reducible repeat (first | refine blk_drewN ?_ _ | refine blk_drew ?_ | refine blk_alloc ?_ _)); refine blk_far ?_ qj.out _; (with_reducible repeat (first | refine blk_drewN ?_ _ | refine blk_drew ?_ | refine blk_alloc ?_ _)); refine blk_put (cs := #[.int .i64 x125000_1, .int .i64 qg, .int .i64 q9]) ?_ 1 _ rfl; (with_reducible repeat (first | refine blk_drewN ?_ _ | refine blk_drew ?_ | refine blk_alloc ?_ _)); exact q0.out))⟩; have n1_ := fw hw q1; have n2_ := fw hw q2; have n3_ : Aside0 (w50.heap[q7]? = some (.cells #[.int .i64 qb, .int .i64 qq, .int .i64 qc, .int .i64 qu] 25 (0, 0))) := ⟨(by rw [hw]; exact (by (with_reducible repeat (first | refine blk_drewN ?_ _ | refine blk_drew ?_ | refine blk_alloc ?_ _)); refine blk_put (cs := #[.int .i64 qb, .int .i64 qq, .int .i64 qc, .int .i64 qs]) ?_ 3 _ rfl; (with_reducible repeat (first | refine blk_drewN ?_ _ | refine blk_drew ?_ | refine blk_alloc ?_ _)); refine blk_put (cs := #[.int .i64 qb, .int .i64 qv, .int .i64 qc, .int .i64 qs]) ?_ 1 _ rfl; (with_reducible repeat (first | refine blk_drewN ?_ _ | refine blk_drew ?_ | refine blk_alloc ?_ _)); refine blk_far ?_ qm.out _; (with_reducible repeat (first | refine blk_drewN ?_ _ | refine blk_drew ?_ | refine blk_alloc ?_ _)); exact q3.out))⟩; have n4_ := bw hw HB; clear hw; clear q0; clear q1; clear q2; clear q3; clear HB; have q0 := n0_; have q1 := n1_; have q2 := n2_; have q3 := n3_; have HB := n4_; clear n0_ n1_ n2_ n3_ n4_))
     go_meet
     case rel => exact ⟨_, (qt), (qq), (qu), H', ⟨by have := HK1.out; first | omega | exact Nat.le_refl _⟩, ⟨pk q0⟩, ⟨pk q1⟩, ⟨pk q2⟩, ⟨pk q3⟩, ⟨bnow HB⟩⟩
    ·rw [if_neg c39] at H
     have qr : decide (qg < 0) = false := decide_eq_false c39
     clear c39
     (first | rw [qr] | (simp only [i64_w, i32_w]; rw [qr]) | skip)
     have H' := Aside0.mk H
     clear H
     go_wp2
     go_meet
     case rel => exact ⟨_, (qg), (qv), (qs), H', ⟨by have := HK1.out; first | omega | exact Nat.le_refl _⟩, ⟨pk q0⟩, ⟨pk q1⟩, ⟨pk q2⟩, ⟨pk q3⟩, ⟨bnow HB⟩⟩
   case rest =>
    clear qG
    try clear c2; try clear p2; try clear c3; try clear c4; try clear c6; try clear p6; try clear c7; try clear c8; try clear c26; try clear c27; try clear c28; try clear c30; try clear c31; try clear c38; try clear c39; try clear qr; try clear c40; try clear c43; try clear c44; try clear c45; try clear c47; try clear c48; try clear qQ; try clear qR; try clear qS; try clear qT; try clear qU; try clear qV; try clear qW; try clear qX; try clear qY; try clear qZ; try clear j0; try clear j1; try clear j2; try clear j3; try clear j4; try clear j5; try clear j6; try clear j7; try clear j8; try clear j9; try clear ja; try clear jb; try clear jc; try clear jd; try clear qH; try clear qI; try clear qJ; try clear qK; try clear je; try clear jf; try clear jg; try clear jh; try clear ji; try clear jj; try clear jk; try clear jl; try clear jm; try clear jn; try clear jo; try clear jp; try clear jq; try clear jr; try clear js; try clear jt; try clear ju; try clear jv; try clear jw; try clear jx; try clear jy; try clear jz; try clear jA; try clear jB; try clear qL; try clear qM; try clear qN; try clear qO; try clear p2
    obtain ⟨kq, x125001_24, x128001_24, x128003_24, HA, HJ24, q0, q1, q2, q3, HB⟩ := hcut
    cases kq with
    | zero => exact absurd HA.out (by simp [grids_reduce.j1])
    | succ kj24 =>
     have H := HA.out
     clear HA
     simp only [grids_reduce.j1] at H
     by_cases c51 : x125000_1 ≤ q9
     ·rw [if_pos c51] at H
      have qP : decide (x125000_1 ≤ q9) = true := decide_eq_true c51
      clear c51
      simp only [Option.some.injEq, Prod.mk.injEq] at H
      obtain ⟨rfl, rfl, rfl, rfl, rfl, rfl, rfl⟩ := H
      have gR := qd.out
      have Qc := qo.out
      have gS := q8.out
      have Qd := qk.out
      have gT := qj.out
      have Qe := qm.out
      have ⟨jK, jL, jM, g5, g6, g7⟩ := cf3 q0
      try go_wp2
      replace q0 := bd q0
      replace q1 := bd q1
      replace q2 := bd q2
      replace q3 := bd q3
      replace HB := bdn HB
      refine start_ (n := 4) (S := fun w' => w'.cell? ⟨qe, 0, none⟩ = some (.int .i64 x125000_1) ∧ w'.cell? ⟨qe, 1, none⟩ = some (.int .i64 x125001_24) ∧ w'.cell? ⟨qe, 2, none⟩ = some (.int .i64 q9) ∧ w'.cell? ⟨q7, 0, none⟩ = some (.int .i64 qb) ∧ w'.cell? ⟨q7, 1, none⟩ = some (.int .i64 x128001_24) ∧ w'.cell? ⟨q7, 2, none⟩ = some (.int .i64 qc) ∧ w'.cell? ⟨q7, 3, none⟩ = some (.int .i64 x128003_24)) (ds := []) #[false, false, false, false] (by kernel_rfl) rfl rfl ⟨(blk_cell q0.out 0).trans rfl, (blk_cell q0.out 1).trans rfl, (blk_cell q0.out 2).trans rfl, (blk_cell q3.out 0).trans rfl, (blk_cell q3.out 1).trans rfl, (blk_cell q3.out 2).trans rfl, (blk_cell q3.out 3).trans rfl⟩ (fun hHeld => ?_)
      generalize wc.drew = w56 at q0 q1 q2 q3 HB hHeld ⊢
      refine take_ (i := 0) (N := some 67) (v := ?_) (a' := ?_) #[true, false, false, false] rfl rfl (by kernel_rfl) (fun _ _ _ h => h) (Or.inl ⟨by rfl, ?_⟩) hHeld ?_ ?_
      rotate_left
      ·rintro w' ⟨s0, s1, s2, s3, s4, s5, s6⟩
       go_simp
       with_reducible rfl
      rotate_left
      ·simp only [Act.put, List.setIfInBounds_toArray, List.set_cons_zero, List.set_cons_succ, i64_w, i32_w]
       rfl
      refine take_ (i := 1) (N := some 68) (v := ?_) (a' := ?_) #[true, true, false, false] rfl rfl (by kernel_rfl) (fun _ _ _ h => h) (Or.inl ⟨by rfl, ?_⟩) hHeld ?_ ?_
      rotate_left
      ·rintro w' ⟨s0, s1, s2, s3, s4, s5, s6⟩
       go_simp
       with_reducible rfl
      rotate_left
      ·simp only [Act.put, List.setIfInBounds_toArray, List.set_cons_zero, List.set_cons_succ, i64_w, i32_w]
       rfl
      refine one_ (i := 2) (N := none) #[true, true, true, false] rfl rfl (by kernel_rfl) (by decide) (fun K hK => ?_)
      have QI : w56.cell? ⟨q5, 0, none⟩ = some (.int .i64 x126000_1) := (blk_cell q1.out 0).trans rfl
      have jY := blk_frozen q1.out 0
      have Qn := qd.out
      have Qo := qi.out
      have Qp := qa.out
      have gj := qo.out
      have gm := qh.out
      have gn := qp.out
      have QJ : w56.cell? ⟨q5, 1, none⟩ = some (.int .i64 x126001_1) := (blk_cell q1.out 1).trans rfl
      have jZ := blk_frozen q1.out 1
      have Qq := qd.out
      have Qr := qi.out
      have Qs := qa.out
      have go := qo.out
      have gp := qh.out
      have gq := qp.out
      have QK : w56.cell? ⟨q5, 2, none⟩ = some (.int .i64 x126002_1) := (blk_cell q1.out 2).trans rfl
      have g0 := blk_frozen q1.out 2
      have Qt := qd.out
      have Qu := qi.out
      have Qv := qa.out
      have gr := qo.out
      have gs := qh.out
      have gt := qp.out
      refine skip_ (w1 := ?_) (by rfl) rfl ?_ ?_
      rotate_left
      ·go_simp
       rfl
      refine hK.out _ _ ⟨((cell_far (p := ⟨q5, _, none⟩) qd.out _).trans (((cell_far (p := ⟨q5, _, none⟩) qd.out _).trans (((cell_far (p := ⟨q5, _, none⟩) qd.out _).trans (hHeld.1)))))), ((cell_far (p := ⟨q5, _, none⟩) qd.out _).trans (((cell_far (p := ⟨q5, _, none⟩) qd.out _).trans (((cell_far (p := ⟨q5, _, none⟩) qd.out _).trans (hHeld.2.1)))))), ((cell_far (p := ⟨q5, _, none⟩) qd.out _).trans (((cell_far (p := ⟨q5, _, none⟩) qd.out _).trans (((cell_far (p := ⟨q5, _, none⟩) qd.out _).trans (hHeld.2.2.1)))))), ((cell_far (p := ⟨q5, _, none⟩) qa.out _).trans (((cell_far (p := ⟨q5, _, none⟩) qa.out _).trans (((cell_far (p := ⟨q5, _, none⟩) qa.out _).trans (hHeld.2.2.2.1)))))), ((cell_far (p := ⟨q5, _, none⟩) qa.out _).trans (((cell_far (p := ⟨q5, _, none⟩) qa.out _).trans (((cell_far (p := ⟨q5, _, none⟩) qa.out _).trans (hHeld.2.2.2.2.1)))))), ((cell_far (p := ⟨q5, _, none⟩) qa.out _).trans (((cell_far (p := ⟨q5, _, none⟩) qa.out _).trans (((cell_far (p := ⟨q5, _, none⟩) qa.out _).trans (hHeld.2.2.2.2.2.1)))))), ((cell_far (p := ⟨q5, _, none⟩) qa.out _).trans (((cell_far (p := ⟨q5, _, none⟩) qa.out _).trans (((cell_far (p := ⟨q5, _, none⟩) qa.out _).trans (hHeld.2.2.2.2.2.2))))))⟩ (fun hHeld => ?_)
      clear hK K
      refine one_ (i := 3) (N := none) #[true, true, true, true] rfl rfl (by kernel_rfl) (by decide) (fun K hK => ?_)
      have QL : w56.cell? ⟨q4, 0, none⟩ = some (.int .i64 x127000_1) := (blk_cell q2.out 0).trans rfl
      have g1 := blk_frozen q2.out 0
      have Qw := q8.out
      have Qx := qh.out
      have Qy := q6.out
      have gu := qk.out
      have gv := qi.out
      have gx := ql.out
      have QM : w56.cell? ⟨q4, 1, none⟩ = some (.int .i64 x127001_1) := (blk_cell q2.out 1).trans rfl
      have g2 := blk_frozen q2.out 1
      have Qz := q8.out
      have QA := qh.out
      have QB := q6.out
      have gy := qk.out
      have gz := qi.out
      have gA := ql.out
      have QN : w56.cell? ⟨q4, 2, none⟩ = some (.int .i64 x127002_1) := (blk_cell q2.out 2).trans rfl
      have g3 := blk_frozen q2.out 2
      have QC := q8.out
      have QD := qh.out
      have QE := q6.out
      have gB := qk.out
      have gC := qi.out
      have gD := ql.out
      have QO : w56.cell? ⟨q4, 3, none⟩ = some (.int .i64 x127003_1) := (blk_cell q2.out 3).trans rfl
      have g4 := blk_frozen q2.out 3
      have QF := q8.out
      have QG := qh.out
      have QH := q6.out
      have gE := qk.out
      have gF := qi.out
      have gG := ql.out
      refine skip_ (w1 := ?_) (by rfl) rfl ?_ ?_
      rotate_left
      ·go_simp
       rfl
      refine hK.out _ _ ⟨((cell_far (p := ⟨q4, _, none⟩) q8.out _).trans (((cell_far (p := ⟨q4, _, none⟩) q8.out _).trans (((cell_far (p := ⟨q4, _, none⟩) q8.out _).trans (((cell_far (p := ⟨q4, _, none⟩) q8.out _).trans (hHeld.1)))))))), ((cell_far (p := ⟨q4, _, none⟩) q8.out _).trans (((cell_far (p := ⟨q4, _, none⟩) q8.out _).trans (((cell_far (p := ⟨q4, _, none⟩) q8.out _).trans (((cell_far (p := ⟨q4, _, none⟩) q8.out _).trans (hHeld.2.1)))))))), ((cell_far (p := ⟨q4, _, none⟩) q8.out _).trans (((cell_far (p := ⟨q4, _, none⟩) q8.out _).trans (((cell_far (p := ⟨q4, _, none⟩) q8.out _).trans (((cell_far (p := ⟨q4, _, none⟩) q8.out _).trans (hHeld.2.2.1)))))))), ((cell_far (p := ⟨q4, _, none⟩) q6.out _).trans (((cell_far (p := ⟨q4, _, none⟩) q6.out _).trans (((cell_far (p := ⟨q4, _, none⟩) q6.out _).trans (((cell_far (p := ⟨q4, _, none⟩) q6.out _).trans (hHeld.2.2.2.1)))))))), ((cell_far (p := ⟨q4, _, none⟩) q6.out _).trans (((cell_far (p := ⟨q4, _, none⟩) q6.out _).trans (((cell_far (p := ⟨q4, _, none⟩) q6.out _).trans (((cell_far (p := ⟨q4, _, none⟩) q6.out _).trans (hHeld.2.2.2.2.1)))))))), ((cell_far (p := ⟨q4, _, none⟩) q6.out _).trans (((cell_far (p := ⟨q4, _, none⟩) q6.out _).trans (((cell_far (p := ⟨q4, _, none⟩) q6.out _).trans (((cell_far (p := ⟨q4, _, none⟩) q6.out _).trans (hHeld.2.2.2.2.2.1)))))))), ((cell_far (p := ⟨q4, _, none⟩) q6.out _).trans (((cell_far (p := ⟨q4, _, none⟩) q6.out _).trans (((cell_far (p := ⟨q4, _, none⟩) q6.out _).trans (((cell_far (p := ⟨q4, _, none⟩) q6.out _).trans (hHeld.2.2.2.2.2.2))))))))⟩ (fun hHeld => ?_)
      clear hK K
      refine done_ (by kernel_rfl) ?_
      try go_wp2
      refine bodyPost_ret (results_cc rfl _ _ q5 q4 23 25 #[.int .i64 x125000_1, .int .i64 x125001_24, .int .i64 q9] #[.int .i64 qb, .int .i64 x128001_24, .int .i64 qc, .int .i64 x128003_24] (0, 0) (0, 0) _ _ rfl (by (with_reducible repeat (first | refine blk_drewN ?_ _ | refine blk_drew ?_ | refine blk_alloc ?_ _)); refine blk_far ?_ qh.out _; (with_reducible repeat (first | refine blk_drewN ?_ _ | refine blk_drew ?_ | refine blk_alloc ?_ _)); refine blk_far ?_ qh.out _; (with_reducible repeat (first | refine blk_drewN ?_ _ | refine blk_drew ?_ | refine blk_alloc ?_ _)); refine blk_far ?_ qh.out _; (with_reducible repeat (first | refine blk_drewN ?_ _ | refine blk_drew ?_ | refine blk_alloc ?_ _)); refine blk_far ?_ qh.out _; (with_reducible repeat (first | refine blk_drewN ?_ _ | refine blk_drew ?_ | refine blk_alloc ?_ _)); refine blk_put (cs := #[.int .i64 x125000_1, .int .i64 x125001_24, .int .i64 x126002_1]) ?_ 2 _ rfl; (with_reducible repeat (first | refine blk_drewN ?_ _ | refine blk_drew ?_ | refine blk_alloc ?_ _)); refine blk_put (cs := #[.int .i64 x125000_1, .int .i64 x126001_1, .int .i64 x126002_1]) ?_ 1 _ rfl; (with_reducible repeat (first | refine blk_drewN ?_ _ | refine blk_drew ?_ | refine blk_alloc ?_ _)); refine blk_put (cs := #[.int .i64 x126000_1, .int .i64 x126001_1, .int .i64 x126002_1]) ?_ 0 _ rfl; (with_reducible repeat (first | refine blk_drewN ?_ _ | refine blk_drew ?_ | refine blk_alloc ?_ _)); exact q1.out) Try.underlying23 rfl (by kernel_rfl) rfl (by (with_reducible repeat (first | refine blk_drewN ?_ _ | refine blk_drew ?_ | refine blk_alloc ?_ _)); refine blk_put (cs := #[.int .i64 qb, .int .i64 x128001_24, .int .i64 qc, .int .i64 x127003_1]) ?_ 3 _ rfl; (with_reducible repeat (first | refine blk_drewN ?_ _ | refine blk_drew ?_ | refine blk_alloc ?_ _)); refine blk_put (cs := #[.int .i64 qb, .int .i64 x128001_24, .int .i64 x127002_1, .int .i64 x127003_1]) ?_ 2 _ rfl; (with_reducible repeat (first | refine blk_drewN ?_ _ | refine blk_drew ?_ | refine blk_alloc ?_ _)); refine blk_put (cs := #[.int .i64 qb, .int .i64 x127001_1, .int .i64 x127002_1, .int .i64 x127003_1]) ?_ 1 _ rfl; (with_reducible repeat (first | refine blk_drewN ?_ _ | refine blk_drew ?_ | refine blk_alloc ?_ _)); refine blk_put (cs := #[.int .i64 x127000_1, .int .i64 x127001_1, .int .i64 x127002_1, .int .i64 x127003_1]) ?_ 0 _ rfl; (with_reducible repeat (first | refine blk_drewN ?_ _ | refine blk_drew ?_ | refine blk_alloc ?_ _)); refine blk_far ?_ qi.out _; (with_reducible repeat (first | refine blk_drewN ?_ _ | refine blk_drew ?_ | refine blk_alloc ?_ _)); refine blk_far ?_ qi.out _; (with_reducible repeat (first | refine blk_drewN ?_ _ | refine blk_drew ?_ | refine blk_alloc ?_ _)); refine blk_far ?_ qi.out _; (with_reducible repeat (first | refine blk_drewN ?_ _ | refine blk_drew ?_ | refine blk_alloc ?_ _)); exact q2.out) Try.underlying25 rfl (by kernel_rfl)) rfl ?_
      exact rt HB
     ·rw [if_neg c51] at H
      have qP : decide (x125000_1 ≤ q9) = false := decide_eq_false c51
      clear c51
      have H' := Aside0.mk H
      clear H
      have gV := qd.out
      have Qg := qo.out
      have gW := q8.out
      have Qh := qk.out
      have gX := qj.out
      have Qi := qm.out
      have ⟨jN, jO, jP, g8, g9, ga⟩ := cf3 q0
      have gY := qa.out
      have Qj := qp.out
      have gZ := q6.out
      have Qk := ql.out
      have ⟨jQ, jR, jS, jT, gb, gc, gd, ge⟩ := cf4 q3
      go_wp2_with (first | ((with_reducible refine gate_store (t := 2) (p := 83) rfl ?_); refine sx 2 83 ((((wc.setCell ⟨qe, 0, none⟩ (.int .i64 q9)).setCell ⟨qe, 2, none⟩ (.int .i64 x125000_1)).setCell ⟨q7, 0, none⟩ (.int .i64 x128001_24))) fun w71 hw => ?_; have n0_ : Aside0 (w71.heap[qe]? = some (.cells #[.int .i64 q9, .int .i64 x125001_24, .int .i64 x125000_1] 23 (0, 0))) := ⟨(by rw [hw]; exact (by (with_reducible repeat (first | refine blk_drewN ?_ _ | refine blk_drew ?_ | refine blk_alloc ?_ _)); refine blk_far ?_ qj.out _; (with_reducible repeat (first | refine blk_drewN ?_ _ | refine blk_drew ?_ | refine blk_alloc ?_ _)); refine blk_put (cs := #[.int .i64 q9, .int .i64 x125001_24, .int .i64 q9]) ?_ 2 _ rfl; (with_reducible repeat (first | refine blk_drewN ?_ _ | refine blk_drew ?_ | refine blk_alloc ?_ _)); refine blk_put (cs := #[.int .i64 x125000_1, .int .i64 x125001_24, .int .i64 q9]) ?_ 0 _ rfl; (with_reducible repeat (first | refine blk_drewN ?_ _ | refine blk_drew ?_ | refine blk_alloc ?_ _)); exact q0.out))⟩; have n1_ := fw hw q1; have n2_ := fw hw q2; have n3_ : Aside0 (w71.heap[q7]? = some (.cells #[.int .i64 x128001_24, .int .i64 x128001_24, .int .i64 qc, .int .i64 x128003_24] 25 (0, 0))) := ⟨(by rw [hw]; exact (by (with_reducible repeat (first | refine blk_drewN ?_ _ | refine blk_drew ?_ | refine blk_alloc ?_ _)); refine blk_put (cs := #[.int .i64 qb, .int .i64 x128001_24, .int .i64 qc, .int .i64 x128003_24]) ?_ 0 _ rfl; (with_reducible repeat (first | refine blk_drewN ?_ _ | refine blk_drew ?_ | refine blk_alloc ?_ _)); refine blk_far ?_ qm.out _; (with_reducible repeat (first | refine blk_drewN ?_ _ | refine blk_drew ?_ | refine blk_alloc ?_ _)); refine blk_far ?_ qm.out _; (with_reducible repeat (first | refine blk_drewN ?_ _ | refine blk_drew ?_ | refine blk_alloc ?_ _)); exact q3.out))⟩; have n4_ := bw hw HB; clear hw; clear q0; clear q1; clear q2; clear q3; clear HB; have q0 := n0_; have q1 := n1_; have q2 := n2_; have q3 := n3_; have HB := n4_; clear n0_ n1_ n2_ n3_ n4_; have ⟨jU, jV, jW, jX, gf, gg, gh, gi⟩ := cf4 q3) | ((with_reducible refine gate_store (t := 2) (p := 86) rfl ?_); refine sx 2 86 ((((w71.setCell ⟨q7, 1, none⟩ (.int .i64 qb)).setCell ⟨q7, 2, none⟩ (.int .i64 x128003_24)).setCell ⟨q7, 3, none⟩ (.int .i64 qc))) fun w73 hw => ?_; have n0_ := fw hw q0; have n1_ := fw hw q1; have n2_ := fw hw q2; have n3_ : Aside0 (w73.heap[q7]? = some (.cells #[.int .i64 x128001_24, .int .i64 qb, .int .i64 x128003_24, .int .i64 qc] 25 (0, 0))) := ⟨(by rw [hw]; exact (by (with_reducible repeat (first | refine blk_drewN ?_ _ | refine blk_drew ?_ | refine blk_alloc ?_ _)); refine blk_put (cs := #[.int .i64 x128001_24, .int .i64 qb, .int .i64 x128003_24, .int .i64 x128003_24]) ?_ 3 _ rfl; (with_reducible repeat (first | refine blk_drewN ?_ _ | refine blk_drew ?_ | refine blk_alloc ?_ _)); refine blk_put (cs := #[.int .i64 x128001_24, .int .i64 qb, .int .i64 qc, .int .i64 x128003_24]) ?_ 2 _ rfl; (with_reducible repeat (first | refine blk_drewN ?_ _ | refine blk_drew ?_ | refine blk_alloc ?_ _)); refine blk_put (cs := #[.int .i64 x128001_24, .int .i64 x128001_24, .int .i64 qc, .int .i64 x128003_24]) ?_ 1 _ rfl; (with_reducible repeat (first | refine blk_drewN ?_ _ | refine blk_drew ?_ | refine blk_alloc ?_ _)); exact q3.out))⟩; have n4_ := bw hw HB; clear hw; clear q0; clear q1; clear q2; clear q3; clear HB; have q0 := n0_; have q1 := n1_; have q2 := n2_; have q3 := n3_; have HB := n4_; clear n0_ n1_ n2_ n3_ n4_))
      go_roundg kj24
      case measure => have := HK1.out; have := HJ24.out; omega
      case rel => exact ⟨(q9), (x125001_24), (x125000_1), (x126000_1), (x126001_1), (x126002_1), (x127000_1), (x127001_1), (x127002_1), (x127003_1), (x128001_24), (qb), (x128003_24), (qc), H', ⟨by have := HK1.out; have := HJ24.out; omega⟩, ⟨pk q0⟩, ⟨pk q1⟩, ⟨pk q2⟩, ⟨pk q3⟩, ⟨bnow HB⟩⟩
end
section
theorem eqA23 (d : Nat) (w : World) (x0 y0 : Int) (x1 y1 : Int) (x2 y2 : Int) :
  (Op.equalIn (d + 2) 23 (.agg #[.int .i64 x0, .int .i64 x1, .int .i64 x2]) (.agg #[.int .i64 y0, .int .i64 y1, .int .i64 y2])).run Try.prog w = .ok (x0 == y0 && (x1 == y1 && (x2 == y2))) w := by
 refine eqA_of Try.underlying23 (by kernel_rfl) ?_
 refine eqf_cons (by rfl) (by go_simp; rfl) (by go_simp; rfl) (by go_simp) ?_
 refine eqf_cons (by rfl) (by go_simp; rfl) (by go_simp; rfl) (by go_simp) ?_
 exact eqf_last (by rfl) (by go_simp; rfl) (by go_simp; rfl) (by go_simp)
end
section
/-! ### grids_step_product: function 80 -/
def grids_step_product.f (a0_0 : Int) (a0_1 : Int) (a1_0 : Int) (a1_1 : Int) (a1_2 : Int) (a2_0 : Int) (a2_1 : Int) : Option (Int) := (some (wrap64 (a1_0 * a2_0))).bind fun q1 => ((some (wrap64 (a1_1 * a2_1))).bind fun q2 => ((some (wrap64 (q1 + q2))).bind fun q3 => ((some (wrap64 (a0_0 * q3))).bind fun q4 => ((some (wrap64 (a1_1 * a2_0))).bind fun q5 => ((some (wrap64 (a1_2 * a2_1))).bind fun q6 => ((some (wrap64 (q5 + q6))).bind fun q7 => ((some (wrap64 (a0_1 * q7))).bind fun q8 => ((some (wrap64 (q4 + q8))).bind fun qa => (some qa)))))))))
set_option maxHeartbeats 8000000 in
set_option maxRecDepth 100000 in
theorem grids_step_product.calls (a0_0 : Int) (a0_1 : Int) (a1_0 : Int) (a1_1 : Int) (a1_2 : Int) (a2_0 : Int) (a2_1 : Int) (r : Int) (w : World) (h : grids_step_product.f a0_0 a0_1 a1_0 a1_1 a1_2 a2_0 a2_1 = some r) :
  Calls Try.prog 80 #[.agg #[.int .i64 a0_0, .int .i64 a0_1], .agg #[.int .i64 a1_0, .int .i64 a1_1, .int .i64 a1_2], .agg #[.int .i64 a2_0, .int .i64 a2_1]] w fun e w' => e = .returned (.int .i64 r) ∧ Below w.heap.size w w' := by
 have hu81 := Try.underlying81
 have hu23 := Try.underlying23
 have HB := Aside0.mk (Below.refl w.heap.size w)
 have H : ((some (wrap64 (a1_0 * a2_0))).bind fun q1 => ((some (wrap64 (a1_1 * a2_1))).bind fun q2 => ((some (wrap64 (q1 + q2))).bind fun q3 => ((some (wrap64 (a0_0 * q3))).bind fun q4 => ((some (wrap64 (a1_1 * a2_0))).bind fun q5 => ((some (wrap64 (a1_2 * a2_1))).bind fun q6 => ((some (wrap64 (q5 + q6))).bind fun q7 => ((some (wrap64 (a0_1 * q7))).bind fun q8 => ((some (wrap64 (q4 + q8))).bind fun qa => (some qa)))))))))) = some r := h
 clear h
 obtain ⟨q1, E40, H⟩ := oc H
 have E4w : (IntKind.i64.wrap (a1_0 * a2_0)) = q1 := (i64_w _).trans E40
 obtain ⟨q2, E50, H⟩ := oc H
 have E5w : (IntKind.i64.wrap (a1_1 * a2_1)) = q2 := (i64_w _).trans E50
 obtain ⟨q3, E60, H⟩ := oc H
 have E6w : (IntKind.i64.wrap (q1 + q2)) = q3 := (i64_w _).trans E60
 obtain ⟨q4, E70, H⟩ := oc H
 have E7w : (IntKind.i64.wrap (a0_0 * q3)) = q4 := (i64_w _).trans E70
 obtain ⟨q5, E80, H⟩ := oc H
 have E8w : (IntKind.i64.wrap (a1_1 * a2_0)) = q5 := (i64_w _).trans E80
 obtain ⟨q6, E90, H⟩ := oc H
 have E9w : (IntKind.i64.wrap (a1_2 * a2_1)) = q6 := (i64_w _).trans E90
 obtain ⟨q7, E100, H⟩ := oc H
 have E10w : (IntKind.i64.wrap (q5 + q6)) = q7 := (i64_w _).trans E100
 obtain ⟨q8, E110, H⟩ := oc H
 have E11w : (IntKind.i64.wrap (a0_1 * q7)) = q8 := (i64_w _).trans E110
 obtain ⟨qa, E120, H⟩ := oc H
 have E12w : (IntKind.i64.wrap (q4 + q8)) = qa := (i64_w _).trans E120
 obtain rfl := Option.some.inj H
 go_enter Try.func80, Try.ntmps80
 go_wp2_with (first | ((with_reducible refine gate_dst (N := 3) rfl ?_); refine bx 3 #[.int .i64 a0_0, .int .i64 a0_1] 81 fun qo hg w13 q0 hb => ?_; have ql := gw hg HB; have qi := gw hg HB; replace HB := bst HB hb; clear hb hg) | ((with_reducible refine gate_dst (N := 4) rfl ?_); refine bx 4 #[.int .i64 a1_0, .int .i64 a1_1, .int .i64 a1_2] 23 fun qp hg w14 q9 hb => ?_; have qm := gw hg HB; have qj := gw hg HB; have qc := nlt hg q0; have qe := ngt hg q0; replace q0 := bb q0 hb; replace HB := bst HB hb; clear hb hg) | ((with_reducible refine gate_dst (N := 5) rfl ?_); refine bx 5 #[.int .i64 a2_0, .int .i64 a2_1] 81 fun qq hg w15 qb hb => ?_; have qn := gw hg HB; have qk := gw hg HB; have qd := nlt hg q0; have qg := ngt hg q0; have qf := nlt hg q9; have qh := ngt hg q9; replace q0 := bb q0 hb; replace q9 := bb q9 hb; replace HB := bst HB hb; clear hb hg; have qF := qc.out; have qI := qe.out; have qG := qd.out; have qJ := qg.out; have ⟨qr, qs, qy, qz⟩ := cf2 q0; have qH := qf.out; have qK := qh.out; have ⟨qt, qu, qv, qA, qB, qC⟩ := cf3 q9; have ⟨qw, qx, qD, qE⟩ := cf2 qb))
 go_ret
 exact rt HB
end
section
/-! ### grids_lead: function 60 -/
def grids_lead.f (a0_0 : Int) (a0_1 : Int) (a0_2 : Int) (a1_0 : Int) (a1_1 : Int) (a1_2 : Int) (a1_3 : Int) : Option (Int × Int × Int) := (grids_step_product.f a1_0 a1_2 a0_0 a0_1 a0_2 a1_0 a1_2).bind fun qQ => ((grids_step_product.f a1_0 a1_2 a0_0 a0_1 a0_2 a1_1 a1_3).bind fun qR => ((grids_step_product.f a1_1 a1_3 a0_0 a0_1 a0_2 a1_1 a1_3).bind fun qW => (some (qQ, qR, qW))))
def grids_lead.T1 : Bool × List (List Nat × List Nat) := (true, [([], []), ([0], [0]), ([], []), ([2], [2]), ([1, 3], [1, 3]), ([], []), ([5], [5]), ([], []), ([7], [7]), ([6, 8], [6, 8]), ([], []), ([], []), ([10, 4, 0, 1, 2, 3, 4, 10, 11], [4, 10]), ([11, 9, 12, 0, 1, 2, 3, 4, 5, 6, 7, 8, 9, 10, 11, 12], [9, 11])])
def grids_lead.B1 : List Nat := [0, 1, 0, 4, 15, 0, 32, 0, 128, 480, 0, 0, 3103, 8191]
theorem grids_lead.tab1 : rtab .any (opsOf Try.f60 1) = grids_lead.T1 := by kernel_rfl
theorem grids_lead.bits1 : waitsOk grids_lead.T1.2 grids_lead.B1 = true := by kernel_rfl
def grids_lead.T2 : Bool × List (List Nat × List Nat) := (true, [([], []), ([], []), ([], []), ([0, 1, 2], [0, 1, 2]), ([], []), ([], []), ([], []), ([4, 5, 6, 3], [4, 5, 6]), ([], []), ([], []), ([], []), ([8, 9, 10, 7], [8, 9, 10]), ([3, 7, 11], [3, 7, 11]), ([12, 11, 0, 1, 2, 3, 4, 5, 6, 7, 8, 9, 10, 11, 12], [12])])
def grids_lead.B2 : List Nat := [0, 0, 0, 7, 0, 0, 0, 127, 0, 0, 0, 2047, 4095, 8191]
theorem grids_lead.tab2 : rtab .any (opsOf Try.f60 2) = grids_lead.T2 := by kernel_rfl
theorem grids_lead.bits2 : waitsOk grids_lead.T2.2 grids_lead.B2 = true := by kernel_rfl
set_option maxHeartbeats 8000000 in
set_option maxRecDepth 100000 in
theorem grids_lead.calls (a0_0 : Int) (a0_1 : Int) (a0_2 : Int) (a1_0 : Int) (a1_1 : Int) (a1_2 : Int) (a1_3 : Int) (r1 : Int) (r2 : Int) (r3 : Int) (w : World) (h : grids_lead.f a0_0 a0_1 a0_2 a1_0 a1_1 a1_2 a1_3 = some (r1, r2, r3)) :
  Calls Try.prog 60 #[.agg #[.int .i64 a0_0, .int .i64 a0_1, .int .i64 a0_2], .agg #[.int .i64 a1_0, .int .i64 a1_1, .int .i64 a1_2, .int .i64 a1_3]] w fun e w' => e = .returned (.agg #[.int .i64 r1, .int .i64 r2, .int .i64 r3]) ∧ Below w.heap.size w w' := by
 have hu23 := Try.underlying23
 have hu25 := Try.underlying25
 have hu81 := Try.underlying81
 have HB := Aside0.mk (Below.refl w.heap.size w)
 have H : ((grids_step_product.f a1_0 a1_2 a0_0 a0_1 a0_2 a1_0 a1_2).bind fun qQ => ((grids_step_product.f a1_0 a1_2 a0_0 a0_1 a0_2 a1_1 a1_3).bind fun qR => ((grids_step_product.f a1_1 a1_3 a0_0 a0_1 a0_2 a1_1 a1_3).bind fun qW => (some (qQ, qR, qW))))) = some (r1, r2, r3) := h
 clear h
 obtain ⟨qQ, A3, H⟩ := ob H
 obtain ⟨qR, A4, H⟩ := ob H
 obtain ⟨qW, A5, H⟩ := ob H
 simp only [Option.some.injEq, Prod.mk.injEq] at H
 obtain ⟨rfl, rfl, rfl⟩ := H
 go_enter Try.func60, Try.ntmps60
 try go_wp2_with (first | ((with_reducible refine gate_dst (N := 2) rfl ?_); refine bx 2 #[.int .i64 a0_0, .int .i64 a0_1, .int .i64 a0_2] 23 fun qP hg w6 q0 hb => ?_; have ja := gw hg HB; have j7 := gw hg HB; replace HB := bst HB hb; clear hb hg) | ((with_reducible refine gate_dst (N := 3) rfl ?_); refine bx 3 #[.int .i64 a1_0, .int .i64 a1_1, .int .i64 a1_2, .int .i64 a1_3] 25 fun qb hg w7 q1 hb => ?_; have jb := gw hg HB; have j8 := gw hg HB; have jd := nlt hg q0; have je := ngt hg q0; replace q0 := bb q0 hb; replace HB := bst HB hb; clear hb hg) | ((with_reducible refine gate_dst (N := 4) rfl ?_); refine bx 4 #[.int .i64 0, .int .i64 0, .int .i64 0] 23 fun q5 hg w8 q4 hb => ?_; have jc := gw hg HB; have j9 := gw hg HB; have qE := nlt hg q0; have j1 := ngt hg q0; have j0 := nlt hg q1; have j2 := ngt hg q1; replace q0 := bb q0 hb; replace q1 := bb q1 hb; replace HB := bst HB hb; clear hb hg))
 replace q0 := bd q0
 replace q1 := bd q1
 replace q4 := bd q4
 replace HB := bdn HB
 refine start_ (n := 14) (S := fun w' => True) (ds := []) #[false, false, false, false, false, false, false, false, false, false, false, false, false, false] (by kernel_rfl) rfl rfl trivial (fun hHeld => ?_); refine with_tabW grids_lead.tab1 grids_lead.bits1 (fun HT_ HW_ => ?_)
 generalize w8.drew = w9 at q0 q1 q4 HB hHeld ⊢
 refine pz 0 7 HT_ ?_
 refine pz 2 9 HT_ ?_
 refine pz 5 12 HT_ ?_
 refine pz 7 14 HT_ ?_
 refine inv_at [1, 3, 4, 6, 8, 9, 10, 11, 12, 13] (fun a0_ b a w' => ∃ (q2 : Nat) (q3 : Nat) (qc : Value) (qd : Value), a = putSel a0_ b [(1, 8, .int .i64 a1_0), (3, 10, .int .i64 a1_2), (4, 11, .agg #[.int .i64 a1_0, .int .i64 a1_2]), (6, 13, .int .i64 a1_1), (8, 15, .int .i64 a1_3), (9, 16, .agg #[.int .i64 a1_1, .int .i64 a1_3]), (10, 5, qc), (11, 6, qd)] ∧ (w'.heap[qP]? = some (.cells #[.int .i64 a0_0, .int .i64 a0_1, .int .i64 a0_2] 23 (0, 0))) ∧ (w'.heap[qb]? = some (.cells #[.int .i64 a1_0, .int .i64 a1_1, .int .i64 a1_2, .int .i64 a1_3] 25 (0, 0))) ∧ (w'.heap[q5]? = some (.cells #[.int .i64 0, .int .i64 0, .int .i64 0] 23 (0, 0))) ∧ (Below w.heap.size w w') ∧ (b 10 = true → b 11 = true → q3 ≠ q2) ∧ (b 10 = true → b 11 = true → q2 ≠ q3) ∧ (b 10 = true → b 12 = false → w'.heap[q2]? = some (.cells #[.int .i64 0, .int .i64 0] 81 (0, 0))) ∧ (b 10 = true → w.heap.size ≤ q2) ∧ (b 10 = true → w.heap.size ≤ q2) ∧ (b 10 = true → qP ≠ q2) ∧ (b 10 = true → q2 ≠ qP) ∧ (b 10 = true → qb ≠ q2) ∧ (b 10 = true → q2 ≠ qb) ∧ (b 10 = true → q5 ≠ q2) ∧ (b 10 = true → q2 ≠ q5) ∧ (b 11 = true → b 13 = false → w'.heap[q3]? = some (.cells #[.int .i64 0, .int .i64 0] 81 (0, 0))) ∧ (b 11 = true → w.heap.size ≤ q3) ∧ (b 11 = true → w.heap.size ≤ q3) ∧ (b 11 = true → qP ≠ q3) ∧ (b 11 = true → q3 ≠ qP) ∧ (b 11 = true → qb ≠ q3) ∧ (b 11 = true → q3 ≠ qb) ∧ (b 11 = true → q5 ≠ q3) ∧ (b 11 = true → q3 ≠ q5) ∧ (b 12 = true → w'.heap[q2]? = some (.cells #[.int .i64 a1_0, .int .i64 a1_2] 81 (0, 0))) ∧ (b 13 = true → w'.heap[q3]? = some (.cells #[.int .i64 a1_1, .int .i64 a1_3] 81 (0, 0))) ∧ (b 10 = true → (qc : Value) = .pointer (some ⟨q2, 0, none⟩)) ∧ (b 11 = true → (qd : Value) = .pointer (some ⟨q3, 0, none⟩))) HT_.out HW_.out (by kernel_rfl) (by kernel_rfl) ?_ ?_ ?_
 ·exact ⟨0, 0, .bool false, .bool false, by simp only [putSel, Bool.false_eq_true, if_false], q0.out, q1.out, q4.out, HB.out, fun h_ => absurd h_ (by decide), fun h_ => absurd h_ (by decide), fun h_ => absurd h_ (by decide), fun h_ => absurd h_ (by decide), fun h_ => absurd h_ (by decide), fun h_ => absurd h_ (by decide), fun h_ => absurd h_ (by decide), fun h_ => absurd h_ (by decide), fun h_ => absurd h_ (by decide), fun h_ => absurd h_ (by decide), fun h_ => absurd h_ (by decide), fun h_ => absurd h_ (by decide), fun h_ => absurd h_ (by decide), fun h_ => absurd h_ (by decide), fun h_ => absurd h_ (by decide), fun h_ => absurd h_ (by decide), fun h_ => absurd h_ (by decide), fun h_ => absurd h_ (by decide), fun h_ => absurd h_ (by decide), fun h_ => absurd h_ (by decide), fun h_ => absurd h_ (by decide), fun h_ => absurd h_ (by decide), fun h_ => absurd h_ (by decide), fun h_ => absurd h_ (by decide)⟩
 ·skip
  clear q0 q1 q4 HB
  refine steps_cons ?_ ?_
  ·rintro b a w' ⟨q2, q3, qc, qd, ha, q6, q7, q8, Q_HB, qx, qw, qf, qi, qg, qk, qq, qm, qr, qo, qs, qe, qj, qh, ql, qt, qn, qu, qp, qv, qy, qB, Q_X10_, Q_X11_⟩ hb_ hon hoff
   refine ⟨_, rfl, fun K hK => ?_⟩
   have e7 : a.tmps[7]? = some (.pointer (some ⟨qb, 0, none⟩)) := by rw [ha]; exact (putSel_off rfl).trans rfl
   replace ha := Aside0.mk ha
   have q0 := Aside0.mk q6
   have q1 := Aside0.mk q7
   have q4 := Aside0.mk q8
   have HB := Aside0.mk Q_HB
   have hc0_ : w'.cell? ⟨qb, 0, none⟩ = some (.int .i64 a1_0) := (blk_cell q1.out 0).trans rfl
   have hc1_ : w'.cell? ⟨qb, 1, none⟩ = some (.int .i64 a1_1) := (blk_cell q1.out 1).trans rfl
   have hc2_ : w'.cell? ⟨qb, 2, none⟩ = some (.int .i64 a1_2) := (blk_cell q1.out 2).trans rfl
   have hc3_ : w'.cell? ⟨qb, 3, none⟩ = some (.int .i64 a1_3) := (blk_cell q1.out 3).trans rfl
   refine value_ (w1 := w') (v := .int .i64 a1_0) (by rfl) rfl ?_ ?_
   ·go_simp
    (try simp only [i64_w])
    try rfl
   refine hK.out _ _ ⟨q2, q3, qc, qd, (by rw [ha.out]; exact putSel_upk 0 hb_ rfl rfl rfl), q6, q7, q8, Q_HB, qx, qw, qf, qi, qg, qk, qq, qm, qr, qo, qs, qe, qj, qh, ql, qt, qn, qu, qp, qv, fun h0_ => absurd ((hoff 12 (by kernel_rfl)).symm.trans h0_) (by decide), fun h0_ => absurd ((hoff 13 (by kernel_rfl)).symm.trans h0_) (by decide), Q_X10_, Q_X11_⟩
  refine steps_cons ?_ ?_
  ·rintro b a w' ⟨q2, q3, qc, qd, ha, q6, q7, q8, Q_HB, qx, qw, qf, qi, qg, qk, qq, qm, qr, qo, qs, qe, qj, qh, ql, qt, qn, qu, qp, qv, qy, qB, Q_X10_, Q_X11_⟩ hb_ hon hoff
   refine ⟨_, rfl, fun K hK => ?_⟩
   have e9 : a.tmps[9]? = some (.pointer (some ⟨qb, 2, none⟩)) := by rw [ha]; exact (putSel_off rfl).trans rfl
   replace ha := Aside0.mk ha
   have q0 := Aside0.mk q6
   have q1 := Aside0.mk q7
   have q4 := Aside0.mk q8
   have HB := Aside0.mk Q_HB
   have hc0_ : w'.cell? ⟨qb, 0, none⟩ = some (.int .i64 a1_0) := (blk_cell q1.out 0).trans rfl
   have hc1_ : w'.cell? ⟨qb, 1, none⟩ = some (.int .i64 a1_1) := (blk_cell q1.out 1).trans rfl
   have hc2_ : w'.cell? ⟨qb, 2, none⟩ = some (.int .i64 a1_2) := (blk_cell q1.out 2).trans rfl
   have hc3_ : w'.cell? ⟨qb, 3, none⟩ = some (.int .i64 a1_3) := (blk_cell q1.out 3).trans rfl
   refine value_ (w1 := w') (v := .int .i64 a1_2) (by rfl) rfl ?_ ?_
   ·go_simp
    (try simp only [i64_w])
    try rfl
   refine hK.out _ _ ⟨q2, q3, qc, qd, (by rw [ha.out]; exact putSel_upk 1 hb_ rfl rfl rfl), q6, q7, q8, Q_HB, qx, qw, qf, qi, qg, qk, qq, qm, qr, qo, qs, qe, qj, qh, ql, qt, qn, qu, qp, qv, fun h0_ => absurd ((hoff 12 (by kernel_rfl)).symm.trans h0_) (by decide), fun h0_ => absurd ((hoff 13 (by kernel_rfl)).symm.trans h0_) (by decide), Q_X10_, Q_X11_⟩
  refine steps_cons ?_ ?_
  ·rintro b a w' ⟨q2, q3, qc, qd, ha, q6, q7, q8, Q_HB, qx, qw, qf, qi, qg, qk, qq, qm, qr, qo, qs, qe, qj, qh, ql, qt, qn, qu, qp, qv, qy, qB, Q_X10_, Q_X11_⟩ hb_ hon hoff
   refine ⟨_, rfl, fun K hK => ?_⟩
   have e8 : a.tmps[8]? = some (.int .i64 a1_0) := by rw [ha]; exact putSel_on (e := (1, 8, .int .i64 a1_0)) 0 rfl rfl (hon 1 (by kernel_rfl)) rfl
   have e10 : a.tmps[10]? = some (.int .i64 a1_2) := by rw [ha]; exact putSel_on (e := (3, 10, .int .i64 a1_2)) 1 rfl rfl (hon 3 (by kernel_rfl)) rfl
   replace ha := Aside0.mk ha
   have q0 := Aside0.mk q6
   have q1 := Aside0.mk q7
   have q4 := Aside0.mk q8
   have HB := Aside0.mk Q_HB
   refine value_ (w1 := w') (v := .agg #[.int .i64 a1_0, .int .i64 a1_2]) (by rfl) rfl ?_ ?_
   ·go_simp
    (try simp only [i64_w])
    try rfl
   refine hK.out _ _ ⟨q2, q3, qc, qd, (by rw [ha.out]; exact putSel_upk 2 hb_ rfl rfl rfl), q6, q7, q8, Q_HB, qx, qw, qf, qi, qg, qk, qq, qm, qr, qo, qs, qe, qj, qh, ql, qt, qn, qu, qp, qv, fun h0_ => absurd ((hoff 12 (by kernel_rfl)).symm.trans h0_) (by decide), fun h0_ => absurd ((hoff 13 (by kernel_rfl)).symm.trans h0_) (by decide), Q_X10_, Q_X11_⟩
  refine steps_cons ?_ ?_
  ·rintro b a w' ⟨q2, q3, qc, qd, ha, q6, q7, q8, Q_HB, qx, qw, qf, qi, qg, qk, qq, qm, qr, qo, qs, qe, qj, qh, ql, qt, qn, qu, qp, qv, qy, qB, Q_X10_, Q_X11_⟩ hb_ hon hoff
   refine ⟨_, rfl, fun K hK => ?_⟩
   have e12 : a.tmps[12]? = some (.pointer (some ⟨qb, 1, none⟩)) := by rw [ha]; exact (putSel_off rfl).trans rfl
   replace ha := Aside0.mk ha
   have q0 := Aside0.mk q6
   have q1 := Aside0.mk q7
   have q4 := Aside0.mk q8
   have HB := Aside0.mk Q_HB
   have hc0_ : w'.cell? ⟨qb, 0, none⟩ = some (.int .i64 a1_0) := (blk_cell q1.out 0).trans rfl
   have hc1_ : w'.cell? ⟨qb, 1, none⟩ = some (.int .i64 a1_1) := (blk_cell q1.out 1).trans rfl
   have hc2_ : w'.cell? ⟨qb, 2, none⟩ = some (.int .i64 a1_2) := (blk_cell q1.out 2).trans rfl
   have hc3_ : w'.cell? ⟨qb, 3, none⟩ = some (.int .i64 a1_3) := (blk_cell q1.out 3).trans rfl
   refine value_ (w1 := w') (v := .int .i64 a1_1) (by rfl) rfl ?_ ?_
   ·go_simp
    (try simp only [i64_w])
    try rfl
   refine hK.out _ _ ⟨q2, q3, qc, qd, (by rw [ha.out]; exact putSel_upk 3 hb_ rfl rfl rfl), q6, q7, q8, Q_HB, qx, qw, qf, qi, qg, qk, qq, qm, qr, qo, qs, qe, qj, qh, ql, qt, qn, qu, qp, qv, qy, fun h0_ => absurd ((hoff 13 (by kernel_rfl)).symm.trans h0_) (by decide), Q_X10_, Q_X11_⟩
  refine steps_cons ?_ ?_
  ·rintro b a w' ⟨q2, q3, qc, qd, ha, q6, q7, q8, Q_HB, qx, qw, qf, qi, qg, qk, qq, qm, qr, qo, qs, qe, qj, qh, ql, qt, qn, qu, qp, qv, qy, qB, Q_X10_, Q_X11_⟩ hb_ hon hoff
   refine ⟨_, rfl, fun K hK => ?_⟩
   have e14 : a.tmps[14]? = some (.pointer (some ⟨qb, 3, none⟩)) := by rw [ha]; exact (putSel_off rfl).trans rfl
   replace ha := Aside0.mk ha
   have q0 := Aside0.mk q6
   have q1 := Aside0.mk q7
   have q4 := Aside0.mk q8
   have HB := Aside0.mk Q_HB
   have hc0_ : w'.cell? ⟨qb, 0, none⟩ = some (.int .i64 a1_0) := (blk_cell q1.out 0).trans rfl
   have hc1_ : w'.cell? ⟨qb, 1, none⟩ = some (.int .i64 a1_1) := (blk_cell q1.out 1).trans rfl
   have hc2_ : w'.cell? ⟨qb, 2, none⟩ = some (.int .i64 a1_2) := (blk_cell q1.out 2).trans rfl
   have hc3_ : w'.cell? ⟨qb, 3, none⟩ = some (.int .i64 a1_3) := (blk_cell q1.out 3).trans rfl
   refine value_ (w1 := w') (v := .int .i64 a1_3) (by rfl) rfl ?_ ?_
   ·go_simp
    (try simp only [i64_w])
    try rfl
   refine hK.out _ _ ⟨q2, q3, qc, qd, (by rw [ha.out]; exact putSel_upk 4 hb_ rfl rfl rfl), q6, q7, q8, Q_HB, qx, qw, qf, qi, qg, qk, qq, qm, qr, qo, qs, qe, qj, qh, ql, qt, qn, qu, qp, qv, qy, fun h0_ => absurd ((hoff 13 (by kernel_rfl)).symm.trans h0_) (by decide), Q_X10_, Q_X11_⟩
  refine steps_cons ?_ ?_
  ·rintro b a w' ⟨q2, q3, qc, qd, ha, q6, q7, q8, Q_HB, qx, qw, qf, qi, qg, qk, qq, qm, qr, qo, qs, qe, qj, qh, ql, qt, qn, qu, qp, qv, qy, qB, Q_X10_, Q_X11_⟩ hb_ hon hoff
   refine ⟨_, rfl, fun K hK => ?_⟩
   have e13 : a.tmps[13]? = some (.int .i64 a1_1) := by rw [ha]; exact putSel_on (e := (6, 13, .int .i64 a1_1)) 3 rfl rfl (hon 6 (by kernel_rfl)) rfl
   have e15 : a.tmps[15]? = some (.int .i64 a1_3) := by rw [ha]; exact putSel_on (e := (8, 15, .int .i64 a1_3)) 4 rfl rfl (hon 8 (by kernel_rfl)) rfl
   replace ha := Aside0.mk ha
   have q0 := Aside0.mk q6
   have q1 := Aside0.mk q7
   have q4 := Aside0.mk q8
   have HB := Aside0.mk Q_HB
   refine value_ (w1 := w') (v := .agg #[.int .i64 a1_1, .int .i64 a1_3]) (by rfl) rfl ?_ ?_
   ·go_simp
    (try simp only [i64_w])
    try rfl
   refine hK.out _ _ ⟨q2, q3, qc, qd, (by rw [ha.out]; exact putSel_upk 5 hb_ rfl rfl rfl), q6, q7, q8, Q_HB, qx, qw, qf, qi, qg, qk, qq, qm, qr, qo, qs, qe, qj, qh, ql, qt, qn, qu, qp, qv, qy, fun h0_ => absurd ((hoff 13 (by kernel_rfl)).symm.trans h0_) (by decide), Q_X10_, Q_X11_⟩
  refine steps_cons ?_ ?_
  ·rintro b a w' ⟨q2, q3, qc, qd, ha, q6, q7, q8, Q_HB, qx, qw, qf, qi, qg, qk, qq, qm, qr, qo, qs, qe, qj, qh, ql, qt, qn, qu, qp, qv, qy, qB, Q_X10_, Q_X11_⟩ hb_ hon hoff
   refine ⟨_, rfl, fun K hK => ?_⟩
   replace ha := Aside0.mk ha
   have q0 := Aside0.mk q6
   have q1 := Aside0.mk q7
   have q4 := Aside0.mk q8
   have HB := Aside0.mk Q_HB
   refine box_step ?hg (N := 5) ?hd (cs := #[.int .i64 0, .int .i64 0]) (t := 81) ?hr ?_; (case hd => rfl); (case hg => rfl); (case hr => first | (go_simp; done) | (go_simp; rfl))
   intro q2 hg w10 hbox hb
   have n0_ := bb q0 hb
   have n1_ := bb q1 hb
   have n2_ := bb q4 hb
   have n3_ := bst HB hb
   have n4_ := Aside0.mk (hbox)
   have n5_ := gw hg HB
   have n6_ := gw hg HB
   have n7_ := nlt hg q0
   have n8_ := ngt hg q0
   have n9_ := nlt hg q1
   have qX := ngt hg q1
   have qY := nlt hg q4
   have qZ := ngt hg q4
   have j4 := fun (h0_ : up b 10 10 = true) (h1_ : up b 10 11 = true) => (show q3 ≠ q2 from (by cases hb_ : b 13 with | false => exact ((by rw [hg]; exact Nat.ne_of_lt (blk_lt (g := q3) (o := .cells #[.int .i64 0, .int .i64 0] 81 (0, 0)) (by (with_reducible repeat (first | refine blk_drewN ?_ _ | refine blk_drew ?_ | refine blk_alloc ?_ _)); exact (qe h1_ hb_))) : q3 ≠ q2)) | true => exact ((by rw [hg]; exact Nat.ne_of_lt (blk_lt (g := q3) (by (with_reducible repeat (first | refine blk_drewN ?_ _ | refine blk_drew ?_ | refine blk_alloc ?_ _)); exact (qB hb_))) : q3 ≠ q2))))
   have j3 := fun (h0_ : up b 10 10 = true) (h1_ : up b 10 11 = true) => (show q2 ≠ q3 from (by cases hb_ : b 13 with | false => exact ((by rw [hg]; exact Nat.ne_of_gt (blk_lt (g := q3) (o := .cells #[.int .i64 0, .int .i64 0] 81 (0, 0)) (by (with_reducible repeat (first | refine blk_drewN ?_ _ | refine blk_drew ?_ | refine blk_alloc ?_ _)); exact (qe h1_ hb_))) : q2 ≠ q3)) | true => exact ((by rw [hg]; exact Nat.ne_of_gt (blk_lt (g := q3) (by (with_reducible repeat (first | refine blk_drewN ?_ _ | refine blk_drew ?_ | refine blk_alloc ?_ _)); exact (qB hb_))) : q2 ≠ q3))))
   have j6 := fun (h0_ : b 11 = true) (h1_ : b 13 = false) => (show w10.heap[q3]? = some (.cells #[.int .i64 0, .int .i64 0] 81 (0, 0)) from by first | exact (blk_below (g := q3) (o := .cells #[.int .i64 0, .int .i64 0] 81 (0, 0)) (by (with_reducible repeat (first | refine blk_drewN ?_ _ | refine blk_drew ?_ | refine blk_alloc ?_ _)); exact (qe h0_ h1_)) hb))
   clear q0
   clear q1
   clear q4
   clear HB
   have q0 := n0_
   have q1 := n1_
   have q4 := n2_
   have HB := n3_
   have q9 := n4_
   have qU := n5_
   have qS := n6_
   have qF := n7_
   have qL := n8_
   have qH := n9_
   have qM := qX
   have qC := qY
   have qz := qZ
   clear n0_ n1_ n2_ n3_ n4_ n5_ n6_ n7_ n8_ n9_ qX qY qZ
   clear hb hg
   refine hK.out _ _ ⟨q2, q3, (.pointer (some ⟨q2, 0, none⟩)), qd, (by rw [ha.out]; exact putSel_upk 6 hb_ rfl rfl rfl), (pk q0), (pk q1), (pk q4), (bnow HB), j4, j3, fun _ _ => (pk q9), fun _ => qU.out, fun _ => qS.out, fun _ => qF.out, fun _ => qL.out, fun _ => qH.out, fun _ => qM.out, fun _ => qC.out, fun _ => qz.out, j6, qj, qh, ql, qt, qn, qu, qp, qv, fun h0_ => absurd ((hoff 12 (by kernel_rfl)).symm.trans h0_) (by decide), fun h0_ => absurd ((hoff 13 (by kernel_rfl)).symm.trans h0_) (by decide), fun _ => rfl, Q_X11_⟩
  refine steps_cons ?_ ?_
  ·rintro b a w' ⟨q2, q3, qc, qd, ha, q6, q7, q8, Q_HB, qx, qw, qf, qi, qg, qk, qq, qm, qr, qo, qs, qe, qj, qh, ql, qt, qn, qu, qp, qv, qy, qB, Q_X10_, Q_X11_⟩ hb_ hon hoff
   refine ⟨_, rfl, fun K hK => ?_⟩
   replace ha := Aside0.mk ha
   have q0 := Aside0.mk q6
   have q1 := Aside0.mk q7
   have q4 := Aside0.mk q8
   have HB := Aside0.mk Q_HB
   refine box_step ?hg (N := 6) ?hd (cs := #[.int .i64 0, .int .i64 0]) (t := 81) ?hr ?_; (case hd => rfl); (case hg => rfl); (case hr => first | (go_simp; done) | (go_simp; rfl))
   intro q3 hg w10 hbox hb
   have n0_ := bb q0 hb
   have n1_ := bb q1 hb
   have n2_ := bb q4 hb
   have n3_ := bst HB hb
   have n4_ := Aside0.mk (hbox)
   have n5_ := gw hg HB
   have n6_ := gw hg HB
   have n7_ := nlt hg q0
   have n8_ := ngt hg q0
   have n9_ := nlt hg q1
   have qX := ngt hg q1
   have qY := nlt hg q4
   have qZ := ngt hg q4
   have j4 := fun (h0_ : up b 11 10 = true) (h1_ : up b 11 11 = true) => (show q3 ≠ q2 from (by cases hb_ : b 12 with | false => exact ((by rw [hg]; exact Nat.ne_of_gt (blk_lt (g := q2) (o := .cells #[.int .i64 0, .int .i64 0] 81 (0, 0)) (by (with_reducible repeat (first | refine blk_drewN ?_ _ | refine blk_drew ?_ | refine blk_alloc ?_ _)); exact (qf h0_ hb_))) : q3 ≠ q2)) | true => exact ((by rw [hg]; exact Nat.ne_of_gt (blk_lt (g := q2) (by (with_reducible repeat (first | refine blk_drewN ?_ _ | refine blk_drew ?_ | refine blk_alloc ?_ _)); exact (qy hb_))) : q3 ≠ q2))))
   have j3 := fun (h0_ : up b 11 10 = true) (h1_ : up b 11 11 = true) => (show q2 ≠ q3 from (by cases hb_ : b 12 with | false => exact ((by rw [hg]; exact Nat.ne_of_lt (blk_lt (g := q2) (o := .cells #[.int .i64 0, .int .i64 0] 81 (0, 0)) (by (with_reducible repeat (first | refine blk_drewN ?_ _ | refine blk_drew ?_ | refine blk_alloc ?_ _)); exact (qf h0_ hb_))) : q2 ≠ q3)) | true => exact ((by rw [hg]; exact Nat.ne_of_lt (blk_lt (g := q2) (by (with_reducible repeat (first | refine blk_drewN ?_ _ | refine blk_drew ?_ | refine blk_alloc ?_ _)); exact (qy hb_))) : q2 ≠ q3))))
   have j5 := fun (h0_ : b 10 = true) (h1_ : b 12 = false) => (show w10.heap[q2]? = some (.cells #[.int .i64 0, .int .i64 0] 81 (0, 0)) from by first | exact (blk_below (g := q2) (o := .cells #[.int .i64 0, .int .i64 0] 81 (0, 0)) (by (with_reducible repeat (first | refine blk_drewN ?_ _ | refine blk_drew ?_ | refine blk_alloc ?_ _)); exact (qf h0_ h1_)) hb))
   clear q0
   clear q1
   clear q4
   clear HB
   have q0 := n0_
   have q1 := n1_
   have q4 := n2_
   have HB := n3_
   have qa := n4_
   have qV := n5_
   have qT := n6_
   have qG := n7_
   have qN := n8_
   have qI := n9_
   have qO := qX
   have qD := qY
   have qA := qZ
   clear n0_ n1_ n2_ n3_ n4_ n5_ n6_ n7_ n8_ n9_ qX qY qZ
   clear hb hg
   refine hK.out _ _ ⟨q2, q3, qc, (.pointer (some ⟨q3, 0, none⟩)), (by rw [ha.out]; exact putSel_upk 7 hb_ rfl rfl rfl), (pk q0), (pk q1), (pk q4), (bnow HB), j4, j3, j5, qi, qg, qk, qq, qm, qr, qo, qs, fun _ _ => (pk qa), fun _ => qV.out, fun _ => qT.out, fun _ => qG.out, fun _ => qN.out, fun _ => qI.out, fun _ => qO.out, fun _ => qD.out, fun _ => qA.out, fun h0_ => absurd ((hoff 12 (by kernel_rfl)).symm.trans h0_) (by decide), fun h0_ => absurd ((hoff 13 (by kernel_rfl)).symm.trans h0_) (by decide), Q_X10_, fun _ => rfl⟩
  refine steps_cons ?_ ?_
  ·rintro b a w' ⟨q2, q3, qc, qd, ha, q6, q7, q8, Q_HB, qx, qw, qf, qi, qg, qk, qq, qm, qr, qo, qs, qe, qj, qh, ql, qt, qn, qu, qp, qv, qy, qB, Q_X10_, Q_X11_⟩ hb_ hon hoff
   refine ⟨_, rfl, fun K hK => ?_⟩
   have e5 : a.tmps[5]? = some (qc) := by rw [ha]; exact putSel_on (e := (10, 5, qc)) 6 rfl rfl (hon 10 (by kernel_rfl)) rfl
   rw [Q_X10_ (hon 10 (by kernel_rfl))] at e5
   have e11 : a.tmps[11]? = some (.agg #[.int .i64 a1_0, .int .i64 a1_2]) := by rw [ha]; exact putSel_on (e := (4, 11, .agg #[.int .i64 a1_0, .int .i64 a1_2])) 2 rfl rfl (hon 4 (by kernel_rfl)) rfl
   replace ha := Aside0.mk ha
   have q0 := Aside0.mk q6
   have q1 := Aside0.mk q7
   have q4 := Aside0.mk q8
   have HB := Aside0.mk Q_HB
   have qK := Aside0.mk (qx (hon 10 (by kernel_rfl)) (hon 11 (by kernel_rfl)))
   have qJ := Aside0.mk (qw (hon 10 (by kernel_rfl)) (hon 11 (by kernel_rfl)))
   have q9 := Aside0.mk (qf (hon 10 (by kernel_rfl)) hb_)
   have qU := Aside0.mk (qi (hon 10 (by kernel_rfl)))
   have qS := Aside0.mk (qg (hon 10 (by kernel_rfl)))
   have qF := Aside0.mk (qk (hon 10 (by kernel_rfl)))
   have qL := Aside0.mk (qq (hon 10 (by kernel_rfl)))
   have qH := Aside0.mk (qm (hon 10 (by kernel_rfl)))
   have qM := Aside0.mk (qr (hon 10 (by kernel_rfl)))
   have qC := Aside0.mk (qo (hon 10 (by kernel_rfl)))
   have qz := Aside0.mk (qs (hon 10 (by kernel_rfl)))
   have qa := Aside0.mk (qe (hon 11 (by kernel_rfl)) (hoff 13 (by kernel_rfl)))
   have qV := Aside0.mk (qj (hon 11 (by kernel_rfl)))
   have qT := Aside0.mk (qh (hon 11 (by kernel_rfl)))
   have qG := Aside0.mk (ql (hon 11 (by kernel_rfl)))
   have qN := Aside0.mk (qt (hon 11 (by kernel_rfl)))
   have qI := Aside0.mk (qn (hon 11 (by kernel_rfl)))
   have qO := Aside0.mk (qu (hon 11 (by kernel_rfl)))
   have qD := Aside0.mk (qp (hon 11 (by kernel_rfl)))
   have qA := Aside0.mk (qv (hon 11 (by kernel_rfl)))
   have gg : w'.cell? ⟨q2, 0, none⟩ = some (.int .i64 0) := (blk_cell q9.out 0).trans rfl
   have jf := blk_frozen q9.out 0
   have jO := qF.out
   have jP := qH.out
   have jQ := qC.out
   have jR := qK.out
   have jm := qL.out
   have jn := qM.out
   have jo := qz.out
   have jp := qJ.out
   have gh : w'.cell? ⟨q2, 1, none⟩ = some (.int .i64 0) := (blk_cell q9.out 1).trans rfl
   have jg := blk_frozen q9.out 1
   have jS := qF.out
   have jT := qH.out
   have jU := qC.out
   have jV := qK.out
   have jq := qL.out
   have jr := qM.out
   have js := qz.out
   have jt := qJ.out
   refine skip_ (w1 := ?_) (by rfl) rfl ?_ ?_
   rotate_left
   ·go_simp
    rfl
   refine hK.out _ _ ⟨q2, q3, qc, qd, (by rw [ha.out]; exact putSel_none (v := undef) rfl), (by (with_reducible repeat (first | refine blk_drewN ?_ _ | refine blk_drew ?_ | refine blk_alloc ?_ _)); refine blk_far ?_ qF.out _; (with_reducible repeat (first | refine blk_drewN ?_ _ | refine blk_drew ?_ | refine blk_alloc ?_ _)); refine blk_far ?_ qF.out _; (with_reducible repeat (first | refine blk_drewN ?_ _ | refine blk_drew ?_ | refine blk_alloc ?_ _)); exact q0.out), (by (with_reducible repeat (first | refine blk_drewN ?_ _ | refine blk_drew ?_ | refine blk_alloc ?_ _)); refine blk_far ?_ qH.out _; (with_reducible repeat (first | refine blk_drewN ?_ _ | refine blk_drew ?_ | refine blk_alloc ?_ _)); refine blk_far ?_ qH.out _; (with_reducible repeat (first | refine blk_drewN ?_ _ | refine blk_drew ?_ | refine blk_alloc ?_ _)); exact q1.out), (by (with_reducible repeat (first | refine blk_drewN ?_ _ | refine blk_drew ?_ | refine blk_alloc ?_ _)); refine blk_far ?_ qC.out _; (with_reducible repeat (first | refine blk_drewN ?_ _ | refine blk_drew ?_ | refine blk_alloc ?_ _)); refine blk_far ?_ qC.out _; (with_reducible repeat (first | refine blk_drewN ?_ _ | refine blk_drew ?_ | refine blk_alloc ?_ _)); exact q4.out), (bnow HB), fun _ _ => qK.out, fun _ _ => qJ.out, fun _ h1_ => absurd ((up_self b 12).symm.trans h1_) (by decide), fun _ => qU.out, fun _ => qS.out, fun _ => qF.out, fun _ => qL.out, fun _ => qH.out, fun _ => qM.out, fun _ => qC.out, fun _ => qz.out, fun _ _ => (by (with_reducible repeat (first | refine blk_drewN ?_ _ | refine blk_drew ?_ | refine blk_alloc ?_ _)); refine blk_far ?_ qK.out _; (with_reducible repeat (first | refine blk_drewN ?_ _ | refine blk_drew ?_ | refine blk_alloc ?_ _)); refine blk_far ?_ qK.out _; (with_reducible repeat (first | refine blk_drewN ?_ _ | refine blk_drew ?_ | refine blk_alloc ?_ _)); exact qa.out), fun _ => qV.out, fun _ => qT.out, fun _ => qG.out, fun _ => qN.out, fun _ => qI.out, fun _ => qO.out, fun _ => qD.out, fun _ => qA.out, fun _ => (by (with_reducible repeat (first | refine blk_drewN ?_ _ | refine blk_drew ?_ | refine blk_alloc ?_ _)); refine blk_put (cs := #[.int .i64 a1_0, .int .i64 0]) ?_ 1 _ rfl; (with_reducible repeat (first | refine blk_drewN ?_ _ | refine blk_drew ?_ | refine blk_alloc ?_ _)); refine blk_put (cs := #[.int .i64 0, .int .i64 0]) ?_ 0 _ rfl; (with_reducible repeat (first | refine blk_drewN ?_ _ | refine blk_drew ?_ | refine blk_alloc ?_ _)); exact q9.out), fun h0_ => absurd ((hoff 13 (by kernel_rfl)).symm.trans h0_) (by decide), Q_X10_, Q_X11_⟩
  refine steps_cons ?_ ?_
  ·rintro b a w' ⟨q2, q3, qc, qd, ha, q6, q7, q8, Q_HB, qx, qw, qf, qi, qg, qk, qq, qm, qr, qo, qs, qe, qj, qh, ql, qt, qn, qu, qp, qv, qy, qB, Q_X10_, Q_X11_⟩ hb_ hon hoff
   refine ⟨_, rfl, fun K hK => ?_⟩
   have e6 : a.tmps[6]? = some (qd) := by rw [ha]; exact putSel_on (e := (11, 6, qd)) 7 rfl rfl (hon 11 (by kernel_rfl)) rfl
   rw [Q_X11_ (hon 11 (by kernel_rfl))] at e6
   have e16 : a.tmps[16]? = some (.agg #[.int .i64 a1_1, .int .i64 a1_3]) := by rw [ha]; exact putSel_on (e := (9, 16, .agg #[.int .i64 a1_1, .int .i64 a1_3])) 5 rfl rfl (hon 9 (by kernel_rfl)) rfl
   replace ha := Aside0.mk ha
   have q0 := Aside0.mk q6
   have q1 := Aside0.mk q7
   have q4 := Aside0.mk q8
   have HB := Aside0.mk Q_HB
   have qK := Aside0.mk (qx (hon 10 (by kernel_rfl)) (hon 11 (by kernel_rfl)))
   have qJ := Aside0.mk (qw (hon 10 (by kernel_rfl)) (hon 11 (by kernel_rfl)))
   have qU := Aside0.mk (qi (hon 10 (by kernel_rfl)))
   have qS := Aside0.mk (qg (hon 10 (by kernel_rfl)))
   have qF := Aside0.mk (qk (hon 10 (by kernel_rfl)))
   have qL := Aside0.mk (qq (hon 10 (by kernel_rfl)))
   have qH := Aside0.mk (qm (hon 10 (by kernel_rfl)))
   have qM := Aside0.mk (qr (hon 10 (by kernel_rfl)))
   have qC := Aside0.mk (qo (hon 10 (by kernel_rfl)))
   have qz := Aside0.mk (qs (hon 10 (by kernel_rfl)))
   have qa := Aside0.mk (qe (hon 11 (by kernel_rfl)) hb_)
   have qV := Aside0.mk (qj (hon 11 (by kernel_rfl)))
   have qT := Aside0.mk (qh (hon 11 (by kernel_rfl)))
   have qG := Aside0.mk (ql (hon 11 (by kernel_rfl)))
   have qN := Aside0.mk (qt (hon 11 (by kernel_rfl)))
   have qI := Aside0.mk (qn (hon 11 (by kernel_rfl)))
   have qO := Aside0.mk (qu (hon 11 (by kernel_rfl)))
   have qD := Aside0.mk (qp (hon 11 (by kernel_rfl)))
   have qA := Aside0.mk (qv (hon 11 (by kernel_rfl)))
   have q9 := Aside0.mk (qy (hon 12 (by kernel_rfl)))
   have gi : w'.cell? ⟨q3, 0, none⟩ = some (.int .i64 0) := (blk_cell qa.out 0).trans rfl
   have jh := blk_frozen qa.out 0
   have jW := qG.out
   have jX := qI.out
   have jY := qD.out
   have jZ := qJ.out
   have ju := qN.out
   have jv := qO.out
   have jw := qA.out
   have jx := qK.out
   have gj : w'.cell? ⟨q3, 1, none⟩ = some (.int .i64 0) := (blk_cell qa.out 1).trans rfl
   have ji := blk_frozen qa.out 1
   have g0 := qG.out
   have g1 := qI.out
   have g2 := qD.out
   have g3 := qJ.out
   have jy := qN.out
   have jz := qO.out
   have jA := qA.out
   have jB := qK.out
   refine skip_ (w1 := ?_) (by rfl) rfl ?_ ?_
   rotate_left
   ·go_simp
    rfl
   refine hK.out _ _ ⟨q2, q3, qc, qd, (by rw [ha.out]; exact putSel_none (v := undef) rfl), (by (with_reducible repeat (first | refine blk_drewN ?_ _ | refine blk_drew ?_ | refine blk_alloc ?_ _)); refine blk_far ?_ qG.out _; (with_reducible repeat (first | refine blk_drewN ?_ _ | refine blk_drew ?_ | refine blk_alloc ?_ _)); refine blk_far ?_ qG.out _; (with_reducible repeat (first | refine blk_drewN ?_ _ | refine blk_drew ?_ | refine blk_alloc ?_ _)); exact q0.out), (by (with_reducible repeat (first | refine blk_drewN ?_ _ | refine blk_drew ?_ | refine blk_alloc ?_ _)); refine blk_far ?_ qI.out _; (with_reducible repeat (first | refine blk_drewN ?_ _ | refine blk_drew ?_ | refine blk_alloc ?_ _)); refine blk_far ?_ qI.out _; (with_reducible repeat (first | refine blk_drewN ?_ _ | refine blk_drew ?_ | refine blk_alloc ?_ _)); exact q1.out), (by (with_reducible repeat (first | refine blk_drewN ?_ _ | refine blk_drew ?_ | refine blk_alloc ?_ _)); refine blk_far ?_ qD.out _; (with_reducible repeat (first | refine blk_drewN ?_ _ | refine blk_drew ?_ | refine blk_alloc ?_ _)); refine blk_far ?_ qD.out _; (with_reducible repeat (first | refine blk_drewN ?_ _ | refine blk_drew ?_ | refine blk_alloc ?_ _)); exact q4.out), (bnow HB), fun _ _ => qK.out, fun _ _ => qJ.out, fun _ h1_ => absurd ((hon 12 (by kernel_rfl)).symm.trans h1_) (by decide), fun _ => qU.out, fun _ => qS.out, fun _ => qF.out, fun _ => qL.out, fun _ => qH.out, fun _ => qM.out, fun _ => qC.out, fun _ => qz.out, fun _ h1_ => absurd ((up_self b 13).symm.trans h1_) (by decide), fun _ => qV.out, fun _ => qT.out, fun _ => qG.out, fun _ => qN.out, fun _ => qI.out, fun _ => qO.out, fun _ => qD.out, fun _ => qA.out, fun _ => (by (with_reducible repeat (first | refine blk_drewN ?_ _ | refine blk_drew ?_ | refine blk_alloc ?_ _)); refine blk_far ?_ qJ.out _; (with_reducible repeat (first | refine blk_drewN ?_ _ | refine blk_drew ?_ | refine blk_alloc ?_ _)); refine blk_far ?_ qJ.out _; (with_reducible repeat (first | refine blk_drewN ?_ _ | refine blk_drew ?_ | refine blk_alloc ?_ _)); exact q9.out), fun _ => (by (with_reducible repeat (first | refine blk_drewN ?_ _ | refine blk_drew ?_ | refine blk_alloc ?_ _)); refine blk_put (cs := #[.int .i64 a1_1, .int .i64 0]) ?_ 1 _ rfl; (with_reducible repeat (first | refine blk_drewN ?_ _ | refine blk_drew ?_ | refine blk_alloc ?_ _)); refine blk_put (cs := #[.int .i64 0, .int .i64 0]) ?_ 0 _ rfl; (with_reducible repeat (first | refine blk_drewN ?_ _ | refine blk_drew ?_ | refine blk_alloc ?_ _)); exact qa.out), Q_X10_, Q_X11_⟩
  exact steps_nil
 rintro b a w16 hall ⟨q2, q3, qc, qd, ha, q6, q7, q8, Q_HB, qx, qw, qf, qi, qg, qk, qq, qm, qr, qo, qs, qe, qj, qh, ql, qt, qn, qu, qp, qv, qy, qB, Q_X10_, Q_X11_⟩
 clear q0 q1 q4 HB
 have hb1_ := hall 1 (by kernel_rfl)
 have hb3_ := hall 3 (by kernel_rfl)
 have hb4_ := hall 4 (by kernel_rfl)
 have hb6_ := hall 6 (by kernel_rfl)
 have hb8_ := hall 8 (by kernel_rfl)
 have hb9_ := hall 9 (by kernel_rfl)
 have hb10_ := hall 10 (by kernel_rfl)
 have hb11_ := hall 11 (by kernel_rfl)
 have hb12_ := hall 12 (by kernel_rfl)
 have hb13_ := hall 13 (by kernel_rfl)
 subst ha
 obtain rfl := Q_X10_ hb10_
 obtain rfl := Q_X11_ hb11_
 simp only [putSel, hb1_, hb3_, hb4_, hb6_, hb8_, hb9_, hb10_, hb11_, hb12_, hb13_, if_true, Act.put, List.setIfInBounds_toArray, List.set_cons_zero, List.set_cons_succ]
 have q0 := Aside0.mk q6
 clear q6
 have q1 := Aside0.mk q7
 clear q7
 have q4 := Aside0.mk q8
 clear q8
 have HB := Aside0.mk Q_HB
 clear Q_HB
 have qK := Aside0.mk (qx hb10_ hb11_)
 clear qx
 have qJ := Aside0.mk (qw hb10_ hb11_)
 clear qw
 clear qf
 have qU := Aside0.mk (qi hb10_)
 clear qi
 have qS := Aside0.mk (qg hb10_)
 clear qg
 have qF := Aside0.mk (qk hb10_)
 clear qk
 have qL := Aside0.mk (qq hb10_)
 clear qq
 have qH := Aside0.mk (qm hb10_)
 clear qm
 have qM := Aside0.mk (qr hb10_)
 clear qr
 have qC := Aside0.mk (qo hb10_)
 clear qo
 have qz := Aside0.mk (qs hb10_)
 clear qs
 clear qe
 have qV := Aside0.mk (qj hb11_)
 clear qj
 have qT := Aside0.mk (qh hb11_)
 clear qh
 have qG := Aside0.mk (ql hb11_)
 clear ql
 have qN := Aside0.mk (qt hb11_)
 clear qt
 have qI := Aside0.mk (qn hb11_)
 clear qn
 have qO := Aside0.mk (qu hb11_)
 clear qu
 have qD := Aside0.mk (qp hb11_)
 clear qp
 have qA := Aside0.mk (qv hb11_)
 clear qv
 have q9 := Aside0.mk (qy hb12_)
 clear qy
 have qa := Aside0.mk (qB hb13_)
 clear qB
 clear hall hb1_ hb3_ hb4_ hb6_ hb8_ hb9_ hb10_ hb11_ hb12_ hb13_
 try go_wp2
 replace q0 := bd q0
 replace q1 := bd q1
 replace q4 := bd q4
 replace q9 := bd q9
 replace qa := bd qa
 replace HB := bdn HB
 refine start_ (n := 14) (S := fun w' => w'.cell? ⟨q2, 0, none⟩ = some (.int .i64 a1_0) ∧ w'.cell? ⟨q2, 1, none⟩ = some (.int .i64 a1_2) ∧ w'.cell? ⟨qP, 0, none⟩ = some (.int .i64 a0_0) ∧ w'.cell? ⟨qP, 1, none⟩ = some (.int .i64 a0_1) ∧ w'.cell? ⟨qP, 2, none⟩ = some (.int .i64 a0_2) ∧ w'.cell? ⟨q3, 0, none⟩ = some (.int .i64 a1_1) ∧ w'.cell? ⟨q3, 1, none⟩ = some (.int .i64 a1_3)) (ds := []) #[false, false, false, false, false, false, false, false, false, false, false, false, false, false] (by kernel_rfl) rfl rfl ⟨(blk_cell q9.out 0).trans rfl, (blk_cell q9.out 1).trans rfl, (blk_cell q0.out 0).trans rfl, (blk_cell q0.out 1).trans rfl, (blk_cell q0.out 2).trans rfl, (blk_cell qa.out 0).trans rfl, (blk_cell qa.out 1).trans rfl⟩ (fun hHeld => ?_); refine with_tabW grids_lead.tab2 grids_lead.bits2 (fun HT_ HW_ => ?_)
 generalize w16.drew = w17 at q0 q1 q4 q9 qa HB hHeld ⊢
 refine tz 0 17 HT_ HW_ hHeld ?_
 refine tz 1 18 HT_ HW_ hHeld ?_
 refine tz 2 19 HT_ HW_ hHeld ?_
 refine tz 4 21 HT_ HW_ hHeld ?_
 refine tz 5 22 HT_ HW_ hHeld ?_
 refine tz 6 23 HT_ HW_ hHeld ?_
 refine tz 8 25 HT_ HW_ hHeld ?_
 refine tz 9 26 HT_ HW_ hHeld ?_
 refine tz 10 27 HT_ HW_ hHeld ?_
 refine one_ (i := 3) (N := some 20) #[true, true, true, true, true, true, true, false, true, true, true, false, false, false] rfl rfl (one_of HT_.out (by kernel_rfl)) (by decide) (fun K hK => ?_)
 refine gs _ Try.func80 (grids_step_product.calls a1_0 a1_2 a0_0 a0_1 a0_2 a1_0 a1_2 qQ _ A3.out) ?_
 rintro e w18 ⟨rfl, hb⟩
 refine ⟨_, rfl, ?_⟩
 replace q0 := bb q0 hb
 replace q1 := bb q1 hb
 replace q4 := bb q4 hb
 replace q9 := bb q9 hb
 replace qa := bb qa hb
 replace HB := bst HB hb
 (try clear hb)
 (try clear hb2)
 (try clear hk)
 (try clear hi)
 refine hK.out _ _ ⟨(blk_cell q9.out 0).trans rfl, (blk_cell q9.out 1).trans rfl, (blk_cell q0.out 0).trans rfl, (blk_cell q0.out 1).trans rfl, (blk_cell q0.out 2).trans rfl, (blk_cell qa.out 0).trans rfl, (blk_cell qa.out 1).trans rfl⟩ (fun hHeld => ?_)
 clear hK K
 refine norm_ (a' := ?_) ?_ ?_
 rotate_left
 ·show Act.put _ (some 20) _ = _
  simp only [Act.put, List.setIfInBounds_toArray, List.set_cons_zero, List.set_cons_succ, i64_w, i32_w]
  rfl
 refine one_ (i := 7) (N := some 24) #[true, true, true, true, true, true, true, true, true, true, true, false, false, false] rfl rfl (one_of HT_.out (by kernel_rfl)) (by decide) (fun K hK => ?_)
 refine gs _ Try.func80 (grids_step_product.calls a1_0 a1_2 a0_0 a0_1 a0_2 a1_1 a1_3 qR _ A4.out) ?_
 rintro e w19 ⟨rfl, hb⟩
 refine ⟨_, rfl, ?_⟩
 replace q0 := bb q0 hb
 replace q1 := bb q1 hb
 replace q4 := bb q4 hb
 replace q9 := bb q9 hb
 replace qa := bb qa hb
 replace HB := bst HB hb
 (try clear hb)
 (try clear hb2)
 (try clear hk)
 (try clear hi)
 refine hK.out _ _ ⟨(blk_cell q9.out 0).trans rfl, (blk_cell q9.out 1).trans rfl, (blk_cell q0.out 0).trans rfl, (blk_cell q0.out 1).trans rfl, (blk_cell q0.out 2).trans rfl, (blk_cell qa.out 0).trans rfl, (blk_cell qa.out 1).trans rfl⟩ (fun hHeld => ?_)
 clear hK K
 refine norm_ (a' := ?_) ?_ ?_
 rotate_left
 ·show Act.put _ (some 24) _ = _
  simp only [Act.put, List.setIfInBounds_toArray, List.set_cons_zero, List.set_cons_succ, i64_w, i32_w]
  rfl
 refine one_ (i := 11) (N := some 28) #[true, true, true, true, true, true, true, true, true, true, true, true, false, false] rfl rfl (one_of HT_.out (by kernel_rfl)) (by decide) (fun K hK => ?_)
 refine gs _ Try.func80 (grids_step_product.calls a1_1 a1_3 a0_0 a0_1 a0_2 a1_1 a1_3 qW _ A5.out) ?_
 rintro e w20 ⟨rfl, hb⟩
 refine ⟨_, rfl, ?_⟩
 replace q0 := bb q0 hb
 replace q1 := bb q1 hb
 replace q4 := bb q4 hb
 replace q9 := bb q9 hb
 replace qa := bb qa hb
 replace HB := bst HB hb
 (try clear hb)
 (try clear hb2)
 (try clear hk)
 (try clear hi)
 refine hK.out _ _ ⟨(blk_cell q9.out 0).trans rfl, (blk_cell q9.out 1).trans rfl, (blk_cell q0.out 0).trans rfl, (blk_cell q0.out 1).trans rfl, (blk_cell q0.out 2).trans rfl, (blk_cell qa.out 0).trans rfl, (blk_cell qa.out 1).trans rfl⟩ (fun hHeld => ?_)
 clear hK K
 refine norm_ (a' := ?_) ?_ ?_
 rotate_left
 ·show Act.put _ (some 28) _ = _
  simp only [Act.put, List.setIfInBounds_toArray, List.set_cons_zero, List.set_cons_succ, i64_w, i32_w]
  rfl
 refine pz 12 29 HT_ ?_
 refine one_ (i := 13) (N := none) #[true, true, true, true, true, true, true, true, true, true, true, true, true, true] rfl rfl (one_of HT_.out (by kernel_rfl)) (by decide) (fun K hK => ?_)
 have gk : w20.cell? ⟨q5, 0, none⟩ = some (.int .i64 0) := (blk_cell q4.out 0).trans rfl
 have jj := blk_frozen q4.out 0
 have g4 := qE.out
 have g5 := j0.out
 have g6 := qz.out
 have g7 := qA.out
 have jC := j1.out
 have jD := j2.out
 have jE := qC.out
 have jF := qD.out
 have gl : w20.cell? ⟨q5, 1, none⟩ = some (.int .i64 0) := (blk_cell q4.out 1).trans rfl
 have jk := blk_frozen q4.out 1
 have g8 := qE.out
 have g9 := j0.out
 have ga := qz.out
 have gb := qA.out
 have jG := j1.out
 have jH := j2.out
 have jI := qC.out
 have jJ := qD.out
 have gm : w20.cell? ⟨q5, 2, none⟩ = some (.int .i64 0) := (blk_cell q4.out 2).trans rfl
 have jl := blk_frozen q4.out 2
 have gc := qE.out
 have gd := j0.out
 have ge := qz.out
 have gf := qA.out
 have jK := j1.out
 have jL := j2.out
 have jM := qC.out
 have jN := qD.out
 refine skip_ (w1 := ?_) (by rfl) rfl ?_ ?_
 rotate_left
 ·go_simp
  rfl
 refine hK.out _ _ ⟨((cell_far (p := ⟨q5, _, none⟩) qz.out _).trans (((cell_far (p := ⟨q5, _, none⟩) qz.out _).trans (((cell_far (p := ⟨q5, _, none⟩) qz.out _).trans (hHeld.1)))))), ((cell_far (p := ⟨q5, _, none⟩) qz.out _).trans (((cell_far (p := ⟨q5, _, none⟩) qz.out _).trans (((cell_far (p := ⟨q5, _, none⟩) qz.out _).trans (hHeld.2.1)))))), ((cell_far (p := ⟨q5, _, none⟩) qE.out _).trans (((cell_far (p := ⟨q5, _, none⟩) qE.out _).trans (((cell_far (p := ⟨q5, _, none⟩) qE.out _).trans (hHeld.2.2.1)))))), ((cell_far (p := ⟨q5, _, none⟩) qE.out _).trans (((cell_far (p := ⟨q5, _, none⟩) qE.out _).trans (((cell_far (p := ⟨q5, _, none⟩) qE.out _).trans (hHeld.2.2.2.1)))))), ((cell_far (p := ⟨q5, _, none⟩) qE.out _).trans (((cell_far (p := ⟨q5, _, none⟩) qE.out _).trans (((cell_far (p := ⟨q5, _, none⟩) qE.out _).trans (hHeld.2.2.2.2.1)))))), ((cell_far (p := ⟨q5, _, none⟩) qA.out _).trans (((cell_far (p := ⟨q5, _, none⟩) qA.out _).trans (((cell_far (p := ⟨q5, _, none⟩) qA.out _).trans (hHeld.2.2.2.2.2.1)))))), ((cell_far (p := ⟨q5, _, none⟩) qA.out _).trans (((cell_far (p := ⟨q5, _, none⟩) qA.out _).trans (((cell_far (p := ⟨q5, _, none⟩) qA.out _).trans (hHeld.2.2.2.2.2.2))))))⟩ (fun hHeld => ?_)
 clear hK K
 refine done_ (done_of HT_.out (by kernel_rfl)) ?_
 try go_wp2
 refine bodyPost_ret (results_cell_row rfl _ _ q5 23 #[.int .i64 qQ, .int .i64 qR, .int .i64 qW] (0, 0) _ rfl (by (with_reducible repeat (first | refine blk_drewN ?_ _ | refine blk_drew ?_ | refine blk_alloc ?_ _)); refine blk_put (cs := #[.int .i64 qQ, .int .i64 qR, .int .i64 0]) ?_ 2 _ rfl; (with_reducible repeat (first | refine blk_drewN ?_ _ | refine blk_drew ?_ | refine blk_alloc ?_ _)); refine blk_put (cs := #[.int .i64 qQ, .int .i64 0, .int .i64 0]) ?_ 1 _ rfl; (with_reducible repeat (first | refine blk_drewN ?_ _ | refine blk_drew ?_ | refine blk_alloc ?_ _)); refine blk_put (cs := #[.int .i64 0, .int .i64 0, .int .i64 0]) ?_ 0 _ rfl; (with_reducible repeat (first | refine blk_drewN ?_ _ | refine blk_drew ?_ | refine blk_alloc ?_ _)); exact q4.out) Try.underlying23 rfl (by kernel_rfl)) rfl ?_
 exact rt HB
end
section
attribute [local go_sem high] eqA23
/-! ### grids_group: function 39 -/
def grids_group.l0 : Nat → List (S25) → Int → Int → Int → Int → Option ((List (S25)))
 | 0, _, _, _, _, _ => none
 | k + 1, x3, x6, x169000, x169001, x169002 => if x6 < 81 then ((some (Int.tmod x6 3)).bind fun qh => ((some (wrap64 (qh - 1))).bind fun q3 => ((some (wrap64 (Int.tdiv x6 3))).bind fun qi => ((some (Int.tmod qi 3)).bind fun qj => ((some (wrap64 (qj - 1))).bind fun q4 => ((some (wrap64 (Int.tdiv x6 9))).bind fun qk => ((some (Int.tmod qk 3)).bind fun ql => ((some (wrap64 (ql - 1))).bind fun q5 => ((some (wrap64 (Int.tdiv x6 27))).bind fun qc => ((some (wrap64 (qc - 1))).bind fun q6 => ((grids_lead.f x169000 x169001 x169002 q3 q4 q5 q6).bind fun qg => (if (qg.1 == x169000 && (qg.2.1 == x169001 && (qg.2.2 == x169002))) = true then (if x3.length < 4398046511104 then ((some (wrap64 (x6 + 1))).bind fun qb => (grids_group.l0 k (x3 ++ [(⟨q3, q4, q5, q6⟩ : S25)]) qb x169000 x169001 x169002)) else (none)) else ((some (wrap64 (x6 + 1))).bind fun qd => (grids_group.l0 k x3 qd x169000 x169001 x169002)))))))))))))) else (some x3)
def grids_group.f (k : Nat) (a0_0 : Int) (a0_1 : Int) (a0_2 : Int) : Option ((List (S25))) := grids_group.l0 k ([] : List (S25)) 0 a0_0 a0_1 a0_2
theorem grids_group.mono_l : ∀ k, (∀ y0 y1 y2 y3 y4, LeO (grids_group.l0 k y0 y1 y2 y3 y4) (grids_group.l0 (k + 1) y0 y1 y2 y3 y4))
 | 0 => fun _ _ _ _ _ r h => by simp [grids_group.l0] at h
 | k + 1 => by
  have ih0 := grids_group.mono_l k
  ·intro y0 y1 y2 y3 y4
   unfold grids_group.l0
   repeat' first
   | (with_reducible exact ih0 _ _ _ _ _)
   | (with_reducible exact LeO.refl _)
   | (with_reducible exact LeO.none _)
   | (with_reducible refine LeO.ite ?_ ?_)
   | (with_reducible refine LeO.bind ?_ (fun _ => ?_))
   | exact ih0 _ _ _ _ _
   | exact LeO.none _
   | refine LeO.ite ?_ ?_
   | refine LeO.bind ?_ (fun _ => ?_)
theorem grids_group.mono : ∀ a0 a1 a2 k, LeO (grids_group.f k a0 a1 a2) (grids_group.f (k + 1) a0 a1 a2) := by
 intro a0 a1 a2 k
 have ih0 := grids_group.mono_l k
 unfold grids_group.f
 repeat' first
   | (with_reducible exact ih0 _ _ _ _ _)
   | (with_reducible exact LeO.refl _)
   | (with_reducible exact LeO.none _)
   | (with_reducible refine LeO.ite ?_ ?_)
   | (with_reducible refine LeO.bind ?_ (fun _ => ?_))
   | exact ih0 _ _ _ _ _
   | exact LeO.none _
   | refine LeO.ite ?_ ?_
   | refine LeO.bind ?_ (fun _ => ?_)
set_option maxHeartbeats 8000000 in
set_option maxRecDepth 100000 in
theorem grids_group.calls (k : Nat) (a0_0 : Int) (a0_1 : Int) (a0_2 : Int) (r : List (S25)) (w : World) (h : grids_group.f k a0_0 a0_1 a0_2 = some r) :
  Calls Try.prog 39 #[.agg #[.int .i64 a0_0, .int .i64 a0_1, .int .i64 a0_2]] w fun e w' => ∃ v0_ : Value, e = .returned (v0_) ∧ Kd.R k25 25 w' w.heap.size (fun _ => True) v0_ r ∧ Below w.heap.size w w' := by
 have hu23 := Try.underlying23
 have hu25 := Try.underlying25
 have HB := Aside0.mk (Below.refl w.heap.size w)
 have H : (grids_group.l0 k ([] : List (S25)) 0 a0_0 a0_1 a0_2) = some r := h
 clear h
 have H' := Aside0.mk H
 clear H
 go_enter Try.func39, Try.ntmps39
 go_wp2_with (first | ((with_reducible refine gate_dst (N := 1) rfl ?_); refine bx 1 #[.int .i64 a0_0, .int .i64 a0_1, .int .i64 a0_2] 23 fun qa hg w2 q0 hb => ?_; have qv := gw hg HB; have qn := gw hg HB; replace HB := bst HB hb; clear hb hg))
 (try simp only [Act.put, List.setIfInBounds_toArray, List.set_cons_zero, List.set_cons_succ])
 go_loopg [3, 6] k (fun kq v3 v6 w' => ∃ (x3_1 : List (S25)) (x6_1 : Int), v6 = .int .i64 x6_1 ∧ Aside0 (grids_group.l0 kq x3_1 x6_1 a0_0 a0_1 a0_2 = some r) ∧ Aside0 (kq ≤ k) ∧ Aside0 (Kd.R k25 25 w' w.heap.size (fun _ => True) v3 x3_1) ∧ Aside0 (w'.heap[qa]? = some (.cells #[.int .i64 a0_0, .int .i64 a0_1, .int .i64 a0_2] 23 (0, 0))) ∧ Aside0 (Below w.heap.size w w'))
 case atStart => exact ⟨(([] : List (S25))), (0), (by first | rfl | (simp; done) | (simp [*]; done)), H', ⟨Nat.le_refl _⟩, ⟨by first | exact Kd.R_nil _ _ _ _ _ | exact Kd.N_nil _ _ _ _ _ | exact Kd.V_nil _ _ _ _ _ | exact Kd.Q_nil _ _ _ _ _ | exact Kd.S_nil _ _ _ _ _⟩, ⟨pk q0⟩, ⟨bnow HB⟩⟩
 case round =>
  clear H'
  try clear p2
  obtain ⟨x3_1, x6_1, rfl, HA, HK1, HO_3, q0, HB⟩ := hrel
  cases gk with
  | zero => exact absurd HA.out (by simp [grids_group.l0])
  | succ k1 =>
   have H := HA.out
   clear HA
   simp only [grids_group.l0] at H
   by_cases c3 : x6_1 < 81
   ·rw [if_pos c3] at H
    have qu : decide (x6_1 < 81) = true := decide_eq_true c3
    clear c3
    obtain ⟨qh, E40, H⟩ := oc H
    obtain ⟨q3, E50, H⟩ := oc H
    have E5w : (IntKind.i64.wrap (qh - 1)) = q3 := (i64_w _).trans E50
    obtain ⟨qi, E60, H⟩ := oc H
    have E6w : (IntKind.i64.wrap (Int.tdiv x6_1 3)) = qi := (i64_w _).trans E60
    obtain ⟨qj, E70, H⟩ := oc H
    obtain ⟨q4, E80, H⟩ := oc H
    have E8w : (IntKind.i64.wrap (qj - 1)) = q4 := (i64_w _).trans E80
    obtain ⟨qk, E90, H⟩ := oc H
    have E9w : (IntKind.i64.wrap (Int.tdiv x6_1 9)) = qk := (i64_w _).trans E90
    obtain ⟨ql, E100, H⟩ := oc H
    obtain ⟨q5, E110, H⟩ := oc H
    have E11w : (IntKind.i64.wrap (ql - 1)) = q5 := (i64_w _).trans E110
    obtain ⟨qc, E120, H⟩ := oc H
    have E12w : (IntKind.i64.wrap (Int.tdiv x6_1 27)) = qc := (i64_w _).trans E120
    obtain ⟨q6, E130, H⟩ := oc H
    have E13w : (IntKind.i64.wrap (qc - 1)) = q6 := (i64_w _).trans E130
    obtain ⟨⟨q7, q8, q9⟩, A14, H⟩ := ob H
    by_cases c15 : (q7 == a0_0 && (q8 == a0_1 && (q9 == a0_2))) = true
    ·rw [if_pos c15] at H
     have qr : (q7 == a0_0 && (q8 == a0_1 && (q9 == a0_2))) = true := c15
     (try (have qs : decide (q7 = a0_0 && (q8 == a0_1 && (q9 == a0_2))) = true := by simpa using c15))
     (try (have qt : (q7 == a0_0 && (q8 == a0_1 && (q9 == a0_2))) = true := by simpa using c15))
     clear c15
     by_cases c16 : x3_1.length < 4398046511104
     ·rw [if_pos c16] at H
      have LMc16 := Aside0.mk c16
      clear c16
      obtain ⟨qm, hy183⟩ : ∃ y_ : List (S25), y_ = (x3_1 ++ [(⟨q3, q4, q5, q6⟩ : S25)]) := ⟨_, rfl⟩
      replace H : ((some (wrap64 (x6_1 + 1))).bind fun qb => (grids_group.l0 k1 qm qb a0_0 a0_1 a0_2)) = some r := by first | (rw [hy183]; with_reducible exact H) | (have H2_ := (Option.bind_some _ _).symm.trans H; rw [hy183]; with_reducible exact H2_) | (have H2_ := (Option.bind_some _ _).symm.trans H; with_reducible exact H2_) | with_reducible exact H | (rw [hy183]; exact H) | exact H
      have Ny183 := Aside0.mk hy183
      clear hy183
      obtain ⟨qb, E170, H⟩ := oc H
      have E17w : (IntKind.i64.wrap (x6_1 + 1)) = qb := (i64_w _).trans E170
      have H' := Aside0.mk H
      clear H
      try go_wp2_with (first | ((with_reducible refine gate_dst (N := 5) rfl ?_); refine box_event ?hg (N := 5) ?hd (cs := #[.int .i64 0, .int .i64 0, .int .i64 0, .int .i64 0]) (t := 25) ?hr ?_; (case hd => rfl); (case hg => rfl); (case hr => first | (go_simp; done) | (go_simp; rfl)); intro q2 hg w18 hbox hb; have q1 := Aside0.mk (hbox); have qp := gw hg HB; have qo := gw hg HB; have qe := nlt hg q0; have qf := ngt hg q0; replace HO_3 := Aside0.mk (Kd.R_below (Kd.R_elderB (by (with_reducible repeat (first | apply Kd.R_alloc | apply Kd.R_drewN | apply Kd.R_drew)); exact HO_3.out) q2 (Nat.le_of_eq hg.symm)) hb); replace q0 := bb q0 hb; replace HB := bst HB hb; clear hb hg; have qV := qf.out; have qX := qe.out; have ⟨qx, qy, qz, qA, qJ, qK, qL, qM⟩ := cf4 q1) | ((with_reducible refine gate_store (t := 25) (p := 5) rfl ?_); refine sx 25 5 (((((w18.setCell ⟨q2, 0, none⟩ (.int .i64 q3)).setCell ⟨q2, 1, none⟩ (.int .i64 q4)).setCell ⟨q2, 2, none⟩ (.int .i64 q5)).setCell ⟨q2, 3, none⟩ (.int .i64 q6))) fun w21 hw => ?_; have n0_ : Aside0 (Kd.R k25 25 w21 w.heap.size (fun k_ => k_ ≠ q2) u3 x3_1) := ⟨(by rw [hw]; exact (by (with_reducible repeat (first | apply Kd.R_alloc | apply Kd.R_drewN | apply Kd.R_drew)); exact Kd.R_mono (Kd.R_far (p := ⟨q2, 3, none⟩) (Kd.R_far (p := ⟨q2, 2, none⟩) (Kd.R_far (p := ⟨q2, 1, none⟩) (Kd.R_far (p := ⟨q2, 0, none⟩) (Kd.R_mono HO_3.out (fun k_ hk => (⟨hk, hk.2⟩ : _ ∧ k_ ≠ q2))) (fun _ hk => hk.2) (.int .i64 q3)) (fun _ hk => hk.2) (.int .i64 q4)) (fun _ hk => hk.2) (.int .i64 q5)) (fun _ hk => hk.2) (.int .i64 q6)) (fun _ hk => hk.1.2)))⟩; have n1_ := fw hw q0; have n2_ := pw4 hw q1; have n3_ := bw hw HB; clear hw; clear HO_3; clear q0; clear q1; clear HB; have HO_3 := n0_; have q0 := n1_; have q1 := n2_; have HB := n3_; clear n0_ n1_ n2_ n3_))
      replace HO_3 := Aside0.mk (Kd.R_drew HO_3.out)
      replace q0 := bd q0
      replace q1 := bd q1
      replace HB := bdn HB
      refine start_ (n := 5) (S := fun w' => w'.cell? ⟨qa, 0, none⟩ = some (.int .i64 a0_0) ∧ w'.cell? ⟨qa, 1, none⟩ = some (.int .i64 a0_1) ∧ w'.cell? ⟨qa, 2, none⟩ = some (.int .i64 a0_2) ∧ w'.cell? ⟨q2, 0, none⟩ = some (.int .i64 q3) ∧ w'.cell? ⟨q2, 1, none⟩ = some (.int .i64 q4) ∧ w'.cell? ⟨q2, 2, none⟩ = some (.int .i64 q5) ∧ w'.cell? ⟨q2, 3, none⟩ = some (.int .i64 q6)) (ds := []) #[false, false, false, false, false] (by kernel_rfl) rfl rfl ⟨(blk_cell q0.out 0).trans rfl, (blk_cell q0.out 1).trans rfl, (blk_cell q0.out 2).trans rfl, (blk_cell q1.out 0).trans rfl, (blk_cell q1.out 1).trans rfl, (blk_cell q1.out 2).trans rfl, (blk_cell q1.out 3).trans rfl⟩ (fun hHeld => ?_)
      generalize w21.drew = w22 at HO_3 q0 q1 HB hHeld ⊢
      refine take_ (i := 0) (N := some 24) (v := ?_) (a' := ?_) #[true, false, false, false, false] rfl rfl (by kernel_rfl) (fun _ _ _ h => h) (Or.inl ⟨by rfl, ?_⟩) hHeld ?_ ?_
      rotate_left
      ·rintro w' ⟨s0, s1, s2, s3, s4, s5, s6⟩
       go_simp
       with_reducible rfl
      rotate_left
      ·simp only [Act.put, List.setIfInBounds_toArray, List.set_cons_zero, List.set_cons_succ, i64_w, i32_w]
       rfl
      refine take_ (i := 1) (N := some 25) (v := ?_) (a' := ?_) #[true, true, false, false, false] rfl rfl (by kernel_rfl) (fun _ _ _ h => h) (Or.inl ⟨by rfl, ?_⟩) hHeld ?_ ?_
      rotate_left
      ·rintro w' ⟨s0, s1, s2, s3, s4, s5, s6⟩
       go_simp
       with_reducible rfl
      rotate_left
      ·simp only [Act.put, List.setIfInBounds_toArray, List.set_cons_zero, List.set_cons_succ, i64_w, i32_w]
       rfl
      refine take_ (i := 3) (N := some 27) (v := ?_) (a' := ?_) #[true, true, false, true, false] rfl rfl (by kernel_rfl) (fun _ _ _ h => h) (Or.inl ⟨by rfl, ?_⟩) hHeld ?_ ?_
      rotate_left
      ·rintro w' ⟨s0, s1, s2, s3, s4, s5, s6⟩
       go_simp
       with_reducible rfl
      rotate_left
      ·simp only [Act.put, List.setIfInBounds_toArray, List.set_cons_zero, List.set_cons_succ, i64_w, i32_w]
       rfl
      refine one_ (i := 2) (N := some 26) #[true, true, true, true, false] rfl rfl (by kernel_rfl) (by decide) (fun K hK => ?_)
      refine gs _ Try.func60 (grids_lead.calls a0_0 a0_1 a0_2 q3 q4 q5 q6 q7 q8 q9 _ A14.out) ?_
      rintro e w23 ⟨rfl, hb⟩
      refine ⟨_, rfl, ?_⟩
      have n0_ := Aside0.mk (Kd.R_below (by (with_reducible repeat (first | apply Kd.R_alloc | apply Kd.R_drewN | apply Kd.R_drew)); exact HO_3.out) hb)
      have n1_ := bb q0 hb
      have n2_ := bb q1 hb
      have n3_ := bst HB hb
      clear HO_3
      clear q0
      clear q1
      clear HB
      have HO_3 := n0_
      have q0 := n1_
      have q1 := n2_
      have HB := n3_
      clear n0_ n1_ n2_ n3_
      (try clear hb)
      (try clear hb2)
      (try clear hk)
      (try clear hi)
      refine hK.out _ _ ⟨(blk_cell q0.out 0).trans rfl, (blk_cell q0.out 1).trans rfl, (blk_cell q0.out 2).trans rfl, (blk_cell q1.out 0).trans rfl, (blk_cell q1.out 1).trans rfl, (blk_cell q1.out 2).trans rfl, (blk_cell q1.out 3).trans rfl⟩ (fun hHeld => ?_)
      clear hK K
      refine norm_ (a' := ?_) ?_ ?_
      rotate_left
      ·show Act.put _ (some 26) _ = _
       simp only [Act.put, List.setIfInBounds_toArray, List.set_cons_zero, List.set_cons_succ, i64_w, i32_w]
       rfl
      refine pure_ (i := 4) (N := some 28) (v := ?_) (a' := ?_) #[true, true, true, true, true] rfl rfl (by kernel_rfl) (fun _ _ _ h => h) (Or.inl ⟨by rfl, ?_⟩) ?_ ?_
      rotate_left
      ·intro w'
       go_simp
       with_reducible rfl
      rotate_left
      ·simp only [Act.put, List.setIfInBounds_toArray, List.set_cons_zero, List.set_cons_succ, i64_w, i32_w]
       rfl
      refine done_ (by kernel_rfl) ?_
      have ⟨qB, qC, qD, qE, qN, qO, qP, qQ⟩ := cf4 q1
      try go_wp2_with (first | ((with_reducible refine gate_builtin (b := .append) (xs := #[.tmp 29, .tmp 31]) rfl ?_); at_builtin; refine Kd.R_append k25 (w0 := w) w.heap.size rfl (.tmp 29) (.tmp 31) 48 25 (.agg #[(.int .i64 0), (.int .i64 0), (.int .i64 0), (.int .i64 0)]) 32 rfl Try.underlying48 info25 rfl (by decide) (by omega) u3 x3_1 (⟨q3, q4, q5, q6⟩ : S25) [.int .i64 q3, .int .i64 q4, .int .i64 q5, .int .i64 q6] (fun k_ => k_ ≠ q2) (fun _ => False) rfl rfl ?aP (fun _ hk => hk.elim) ?aF ?aO ?aB ?aS ?aL ?_; (case aP => exact k25_mkM _ _ _ (⟨q3, q4, q5, q6⟩ : S25)); (case aB => exact (bnow HB)); (case aF => exact (fun k_ hk => Kd.freshB (g := q2) (o := .cells #[.int .i64 q3, .int .i64 q4, .int .i64 q5, .int .i64 q6] 25 (0, 0)) (pk q1) k_ hk)); (case aO => exact (by (with_reducible repeat (first | apply Kd.R_alloc | apply Kd.R_drewN | apply Kd.R_drew)); exact HO_3.out)); (case aS => exact (below_size (bnow HB))); (case aL => have := LMc16.out; omega); intro v184 w25 ho hb hg hat; rw [← Ny183.out] at ho; have n0_ := Aside0.mk (blk_grown (g := qa) (o := .cells #[.int .i64 a0_0, .int .i64 a0_1, .int .i64 a0_2] 23 (0, 0)) (pk q0) hg (Kd.R_ne HO_3.out q0.out (by decide))); have n1_ := Aside0.mk (blk_grown (g := q2) (o := .cells #[.int .i64 q3, .int .i64 q4, .int .i64 q5, .int .i64 q6] 25 (0, 0)) (pk q1) hg (Kd.R_away HO_3.out (fun _ hk => hk))); have n2_ := Aside0.mk (hb); have n3_ := Aside0.mk (ho); clear q0; clear q1; clear HB; clear HO_3; have q0 := n0_; have q1 := n1_; have HB := n2_; have qq := n3_; clear n0_ n1_ n2_ n3_; clear ho hb hg hat))
      go_roundg k1
      case measure => have := HK1.out; omega
      case rel => exact ⟨(qm), (qb), (by first | rfl | (simp; done) | (simp [*]; done)), H', ⟨by have := HK1.out; omega⟩, ⟨by (with_reducible repeat (first | apply Kd.R_alloc | apply Kd.R_drewN | apply Kd.R_drew)); exact Kd.R_mono qq.out (fun _ hk => trivial)⟩, ⟨pk q0⟩, ⟨bnow HB⟩⟩
     ·rw [if_neg c16] at H
      exact absurd H (by simp)
    ·rw [if_neg c15] at H
     have qr : (q7 == a0_0 && (q8 == a0_1 && (q9 == a0_2))) = false := by simpa using c15
     (try (have qs : decide (q7 = a0_0 && (q8 == a0_1 && (q9 == a0_2))) = false := by simpa using c15))
     (try (have qt : (q7 == a0_0 && (q8 == a0_1 && (q9 == a0_2))) = false := by simpa using c15))
     (try (have qw : ¬ (q7 = a0_0 && (q8 == a0_1 && (q9 == a0_2))) := by simpa using c15))
     clear c15
     obtain ⟨qd, E260, H⟩ := oc H
     have E26w : (IntKind.i64.wrap (x6_1 + 1)) = qd := (i64_w _).trans E260
     have H' := Aside0.mk H
     clear H
     try go_wp2_with (first | ((with_reducible refine gate_dst (N := 5) rfl ?_); refine box_event ?hg (N := 5) ?hd (cs := #[.int .i64 0, .int .i64 0, .int .i64 0, .int .i64 0]) (t := 25) ?hr ?_; (case hd => rfl); (case hg => rfl); (case hr => first | (go_simp; done) | (go_simp; rfl)); intro q2 hg w27 hbox hb; have q1 := Aside0.mk (hbox); have qp := gw hg HB; have qo := gw hg HB; have qe := nlt hg q0; have qf := ngt hg q0; replace HO_3 := Aside0.mk (Kd.R_below (Kd.R_elderB (by (with_reducible repeat (first | apply Kd.R_alloc | apply Kd.R_drewN | apply Kd.R_drew)); exact HO_3.out) q2 (Nat.le_of_eq hg.symm)) hb); replace q0 := bb q0 hb; replace HB := bst HB hb; clear hb hg; have qW := qf.out; have qY := qe.out; have ⟨qF, qG, qH, qI, qR, qS, qT, qU⟩ := cf4 q1) | ((with_reducible refine gate_store (t := 25) (p := 5) rfl ?_); refine sx 25 5 (((((w27.setCell ⟨q2, 0, none⟩ (.int .i64 q3)).setCell ⟨q2, 1, none⟩ (.int .i64 q4)).setCell ⟨q2, 2, none⟩ (.int .i64 q5)).setCell ⟨q2, 3, none⟩ (.int .i64 q6))) fun w30 hw => ?_; have n0_ : Aside0 (Kd.R k25 25 w30 w.heap.size (fun k_ => k_ ≠ q2) u3 x3_1) := ⟨(by rw [hw]; exact (by (with_reducible repeat (first | apply Kd.R_alloc | apply Kd.R_drewN | apply Kd.R_drew)); exact Kd.R_mono (Kd.R_far (p := ⟨q2, 3, none⟩) (Kd.R_far (p := ⟨q2, 2, none⟩) (Kd.R_far (p := ⟨q2, 1, none⟩) (Kd.R_far (p := ⟨q2, 0, none⟩) (Kd.R_mono HO_3.out (fun k_ hk => (⟨hk, hk.2⟩ : _ ∧ k_ ≠ q2))) (fun _ hk => hk.2) (.int .i64 q3)) (fun _ hk => hk.2) (.int .i64 q4)) (fun _ hk => hk.2) (.int .i64 q5)) (fun _ hk => hk.2) (.int .i64 q6)) (fun _ hk => hk.1.2)))⟩; have n1_ := fw hw q0; have n2_ := pw4 hw q1; have n3_ := bw hw HB; clear hw; clear HO_3; clear q0; clear q1; clear HB; have HO_3 := n0_; have q0 := n1_; have q1 := n2_; have HB := n3_; clear n0_ n1_ n2_ n3_))
     replace HO_3 := Aside0.mk (Kd.R_drew HO_3.out)
     replace q0 := bd q0
     replace q1 := bd q1
     replace HB := bdn HB
     refine start_ (n := 5) (S := fun w' => w'.cell? ⟨qa, 0, none⟩ = some (.int .i64 a0_0) ∧ w'.cell? ⟨qa, 1, none⟩ = some (.int .i64 a0_1) ∧ w'.cell? ⟨qa, 2, none⟩ = some (.int .i64 a0_2) ∧ w'.cell? ⟨q2, 0, none⟩ = some (.int .i64 q3) ∧ w'.cell? ⟨q2, 1, none⟩ = some (.int .i64 q4) ∧ w'.cell? ⟨q2, 2, none⟩ = some (.int .i64 q5) ∧ w'.cell? ⟨q2, 3, none⟩ = some (.int .i64 q6)) (ds := []) #[false, false, false, false, false] (by kernel_rfl) rfl rfl ⟨(blk_cell q0.out 0).trans rfl, (blk_cell q0.out 1).trans rfl, (blk_cell q0.out 2).trans rfl, (blk_cell q1.out 0).trans rfl, (blk_cell q1.out 1).trans rfl, (blk_cell q1.out 2).trans rfl, (blk_cell q1.out 3).trans rfl⟩ (fun hHeld => ?_)
     generalize w30.drew = w31 at HO_3 q0 q1 HB hHeld ⊢
     refine take_ (i := 0) (N := some 24) (v := ?_) (a' := ?_) #[true, false, false, false, false] rfl rfl (by kernel_rfl) (fun _ _ _ h => h) (Or.inl ⟨by rfl, ?_⟩) hHeld ?_ ?_
     rotate_left
     ·rintro w' ⟨s0, s1, s2, s3, s4, s5, s6⟩
      go_simp
      with_reducible rfl
     rotate_left
     ·simp only [Act.put, List.setIfInBounds_toArray, List.set_cons_zero, List.set_cons_succ, i64_w, i32_w]
      rfl
     refine take_ (i := 1) (N := some 25) (v := ?_) (a' := ?_) #[true, true, false, false, false] rfl rfl (by kernel_rfl) (fun _ _ _ h => h) (Or.inl ⟨by rfl, ?_⟩) hHeld ?_ ?_
     rotate_left
     ·rintro w' ⟨s0, s1, s2, s3, s4, s5, s6⟩
      go_simp
      with_reducible rfl
     rotate_left
     ·simp only [Act.put, List.setIfInBounds_toArray, List.set_cons_zero, List.set_cons_succ, i64_w, i32_w]
      rfl
     refine take_ (i := 3) (N := some 27) (v := ?_) (a' := ?_) #[true, true, false, true, false] rfl rfl (by kernel_rfl) (fun _ _ _ h => h) (Or.inl ⟨by rfl, ?_⟩) hHeld ?_ ?_
     rotate_left
     ·rintro w' ⟨s0, s1, s2, s3, s4, s5, s6⟩
      go_simp
      with_reducible rfl
     rotate_left
     ·simp only [Act.put, List.setIfInBounds_toArray, List.set_cons_zero, List.set_cons_succ, i64_w, i32_w]
      rfl
     refine one_ (i := 2) (N := some 26) #[true, true, true, true, false] rfl rfl (by kernel_rfl) (by decide) (fun K hK => ?_)
     refine gs _ Try.func60 (grids_lead.calls a0_0 a0_1 a0_2 q3 q4 q5 q6 q7 q8 q9 _ A14.out) ?_
     rintro e w32 ⟨rfl, hb⟩
     refine ⟨_, rfl, ?_⟩
     have n0_ := Aside0.mk (Kd.R_below (by (with_reducible repeat (first | apply Kd.R_alloc | apply Kd.R_drewN | apply Kd.R_drew)); exact HO_3.out) hb)
     have n1_ := bb q0 hb
     have n2_ := bb q1 hb
     have n3_ := bst HB hb
     clear HO_3
     clear q0
     clear q1
     clear HB
     have HO_3 := n0_
     have q0 := n1_
     have q1 := n2_
     have HB := n3_
     clear n0_ n1_ n2_ n3_
     (try clear hb)
     (try clear hb2)
     (try clear hk)
     (try clear hi)
     refine hK.out _ _ ⟨(blk_cell q0.out 0).trans rfl, (blk_cell q0.out 1).trans rfl, (blk_cell q0.out 2).trans rfl, (blk_cell q1.out 0).trans rfl, (blk_cell q1.out 1).trans rfl, (blk_cell q1.out 2).trans rfl, (blk_cell q1.out 3).trans rfl⟩ (fun hHeld => ?_)
     clear hK K
     refine norm_ (a' := ?_) ?_ ?_
     rotate_left
     ·show Act.put _ (some 26) _ = _
      simp only [Act.put, List.setIfInBounds_toArray, List.set_cons_zero, List.set_cons_succ, i64_w, i32_w]
      rfl
     refine pure_ (i := 4) (N := some 28) (v := ?_) (a' := ?_) #[true, true, true, true, true] rfl rfl (by kernel_rfl) (fun _ _ _ h => h) (Or.inl ⟨by rfl, ?_⟩) ?_ ?_
     rotate_left
     ·intro w'
      go_simp
      with_reducible rfl
     rotate_left
     ·simp only [Act.put, List.setIfInBounds_toArray, List.set_cons_zero, List.set_cons_succ, i64_w, i32_w]
      rfl
     refine done_ (by kernel_rfl) ?_
     try go_wp2
     go_roundg k1
     case measure => have := HK1.out; omega
     case rel => exact ⟨(x3_1), (qd), (by first | rfl | (simp; done) | (simp [*]; done)), H', ⟨by have := HK1.out; omega⟩, ⟨by (with_reducible repeat (first | apply Kd.R_alloc | apply Kd.R_drewN | apply Kd.R_drew)); exact Kd.R_mono HO_3.out (fun _ hk => trivial)⟩, ⟨pk q0⟩, ⟨bnow HB⟩⟩
   ·rw [if_neg c3] at H
    have qu : decide (x6_1 < 81) = false := decide_eq_false c3
    clear c3
    obtain rfl := Option.some.inj H
    go_wp2
    go_ret
    exact ⟨_, by first | rfl | (simp [errW_none, errW_some] <;> rfl) | (simp [*, errW_none, errW_some] <;> rfl), by (with_reducible repeat (first | apply Kd.R_alloc | apply Kd.R_drewN | apply Kd.R_drew)); exact HO_3.out, by repeat (first | (with_reducible first | exact HB.out | apply below_alloc | apply pw_below_drewN | apply below_drew1 | refine below_set ?_ qn.out) | exact HB.out)⟩
end
section
/-! ### grids_det: function 68 -/
def grids_det.f (a0_0 : Int) (a0_1 : Int) (a0_2 : Int) (a0_3 : Int) : Option (Int) := (some (wrap64 (a0_0 * a0_3))).bind fun q0 => ((some (wrap64 (a0_1 * a0_2))).bind fun q1 => ((some (wrap64 (q0 - q1))).bind fun q2 => (some q2)))
set_option maxHeartbeats 8000000 in
set_option maxRecDepth 100000 in
theorem grids_det.calls (a0_0 : Int) (a0_1 : Int) (a0_2 : Int) (a0_3 : Int) (r : Int) (w : World) (h : grids_det.f a0_0 a0_1 a0_2 a0_3 = some r) :
  Calls Try.prog 68 #[.agg #[.int .i64 a0_0, .int .i64 a0_1, .int .i64 a0_2, .int .i64 a0_3]] w fun e w' => e = .returned (.int .i64 r) ∧ Below w.heap.size w w' := by
 have hu25 := Try.underlying25
 have HB := Aside0.mk (Below.refl w.heap.size w)
 have H : ((some (wrap64 (a0_0 * a0_3))).bind fun q0 => ((some (wrap64 (a0_1 * a0_2))).bind fun q1 => ((some (wrap64 (q0 - q1))).bind fun q2 => (some q2)))) = some r := h
 clear h
 obtain ⟨q0, E20, H⟩ := oc H
 have E2w : (IntKind.i64.wrap (a0_0 * a0_3)) = q0 := (i64_w _).trans E20
 obtain ⟨q1, E30, H⟩ := oc H
 have E3w : (IntKind.i64.wrap (a0_1 * a0_2)) = q1 := (i64_w _).trans E30
 obtain ⟨q2, E40, H⟩ := oc H
 have E4w : (IntKind.i64.wrap (q0 - q1)) = q2 := (i64_w _).trans E40
 obtain rfl := Option.some.inj H
 go_enter Try.func68, Try.ntmps68
 go_wp2_with (first | ((with_reducible refine gate_dst (N := 1) rfl ?_); refine bx 1 #[.int .i64 a0_0, .int .i64 a0_1, .int .i64 a0_2, .int .i64 a0_3] 25 fun q6 hg w5 q3 hb => ?_; have q5 := gw hg HB; have q4 := gw hg HB; replace HB := bst HB hb; clear hb hg; have ⟨q7, q8, q9, qa, qb, qc, qd, qe⟩ := cf4 q3))
 go_ret
 exact rt HB
end
section
/-! ### grids_inverse: function 57 -/
def grids_inverse.f (a0_0 : Int) (a0_1 : Int) (a0_2 : Int) (a0_3 : Int) : Option (Int × Int × Int × Int) := (grids_det.f a0_0 a0_1 a0_2 a0_3).bind fun q0 => ((some (wrap64 (q0 * a0_3))).bind fun q3 => ((some (wrap64 (-q0))).bind fun q2 => ((some (wrap64 (q2 * a0_1))).bind fun q4 => ((some (wrap64 (q2 * a0_2))).bind fun q5 => ((some (wrap64 (q0 * a0_0))).bind fun q6 => (some (q3, q4, q5, q6)))))))
set_option maxHeartbeats 8000000 in
set_option maxRecDepth 100000 in
theorem grids_inverse.calls (a0_0 : Int) (a0_1 : Int) (a0_2 : Int) (a0_3 : Int) (r1 : Int) (r2 : Int) (r3 : Int) (r4 : Int) (w : World) (h : grids_inverse.f a0_0 a0_1 a0_2 a0_3 = some (r1, r2, r3, r4)) :
  Calls Try.prog 57 #[.agg #[.int .i64 a0_0, .int .i64 a0_1, .int .i64 a0_2, .int .i64 a0_3]] w fun e w' => e = .returned (.agg #[.int .i64 r1, .int .i64 r2, .int .i64 r3, .int .i64 r4]) ∧ Below w.heap.size w w' := by
 have hu25 := Try.underlying25
 have HB := Aside0.mk (Below.refl w.heap.size w)
 have H : ((grids_det.f a0_0 a0_1 a0_2 a0_3).bind fun q0 => ((some (wrap64 (q0 * a0_3))).bind fun q3 => ((some (wrap64 (-q0))).bind fun q2 => ((some (wrap64 (q2 * a0_1))).bind fun q4 => ((some (wrap64 (q2 * a0_2))).bind fun q5 => ((some (wrap64 (q0 * a0_0))).bind fun q6 => (some (q3, q4, q5, q6)))))))) = some (r1, r2, r3, r4) := h
 clear h
 obtain ⟨q0, A2, H⟩ := ob H
 obtain ⟨q3, E30, H⟩ := oc H
 have E3w : (IntKind.i64.wrap (q0 * a0_3)) = q3 := (i64_w _).trans E30
 obtain ⟨q2, E40, H⟩ := oc H
 have E4w : (IntKind.i64.wrap (-q0)) = q2 := (i64_w _).trans E40
 obtain ⟨q4, E50, H⟩ := oc H
 have E5w : (IntKind.i64.wrap (q2 * a0_1)) = q4 := (i64_w _).trans E50
 obtain ⟨q5, E60, H⟩ := oc H
 have E6w : (IntKind.i64.wrap (q2 * a0_2)) = q5 := (i64_w _).trans E60
 obtain ⟨q6, E70, H⟩ := oc H
 have E7w : (IntKind.i64.wrap (q0 * a0_0)) = q6 := (i64_w _).trans E70
 simp only [Option.some.injEq, Prod.mk.injEq] at H
 obtain ⟨rfl, rfl, rfl, rfl⟩ := H
 go_enter Try.func57, Try.ntmps57
 go_wp2_with (first | ((with_reducible refine gate_dst (N := 1) rfl ?_); refine bx 1 #[.int .i64 a0_0, .int .i64 a0_1, .int .i64 a0_2, .int .i64 a0_3] 25 fun qf hg w8 q1 hb => ?_; have qd := gw hg HB; have qb := gw hg HB; replace HB := bst HB hb; clear hb hg) | ((with_reducible refine gate_dst (N := 2) rfl ?_); refine bx 2 #[.int .i64 0, .int .i64 0, .int .i64 0, .int .i64 0] 25 fun q8 hg w9 q7 hb => ?_; have qe := gw hg HB; have qc := gw hg HB; have q9 := nlt hg q1; have qa := ngt hg q1; replace q1 := bb q1 hb; replace HB := bst HB hb; clear hb hg; have qE := q9.out; have qF := qa.out; have ⟨qg, qh, qi, qj, qs, qt, qu, qv⟩ := cf4 q1) | ((with_reducible refine gate_callee (f := 68) rfl ?_); refine gl 5 Try.func68 (grids_det.calls a0_0 a0_1 a0_2 a0_3 q0 _ A2.out) ?_; rintro e w12 ⟨rfl, hb⟩; refine ⟨_, rfl, ?_⟩; replace q1 := bb q1 hb; replace q7 := bb q7 hb; replace HB := bst HB hb; clear hb; have ⟨qk, ql, qm, qn, qw, qx, qy, qz⟩ := cf4 q1; have ⟨qo, qp, qq, qr, qA, qB, qC, qD⟩ := cf4 q7) | ((with_reducible refine gate_store (t := 25) (p := 2) rfl ?_); refine sx 25 2 (((((w12.setCell ⟨q8, 0, none⟩ (.int .i64 q3)).setCell ⟨q8, 1, none⟩ (.int .i64 q4)).setCell ⟨q8, 2, none⟩ (.int .i64 q5)).setCell ⟨q8, 3, none⟩ (.int .i64 q6))) fun w15 hw => ?_; replace q1 := fw hw q1; replace q7 := pw4 hw q7; replace HB := bw hw HB; clear hw))
 refine bodyPost_ret (results_cell_row rfl _ _ q8 25 #[.int .i64 q3, .int .i64 q4, .int .i64 q5, .int .i64 q6] (0, 0) _ rfl (pk q7) Try.underlying25 rfl (by kernel_rfl)) rfl ?_
 exact rt HB
end
section
/-! ### bits_Len: function 82 -/
/-- How many bits a number below 16 has; beyond, nothing is told. -/
def bits_Len.f (a0 : Int) : Option (Int) := if 0 ≤ a0 then if a0 < 1 then some 0 else if a0 < 2 then some 1 else if a0 < 4 then some 2 else if a0 < 8 then some 3 else if a0 < 16 then some 4 else none else none
set_option maxHeartbeats 8000000 in
set_option maxRecDepth 100000 in
theorem bits_Len.calls (a0 : Int) (r : Int) (w : World) (h : bits_Len.f a0 = some r) :
  Calls Try.prog 82 #[.int .u64 a0] w fun e w' => e = .returned (.int .i64 r) ∧ Drawn0 w w' := by
 unfold bits_Len.f at h
 have hr : 0 ≤ a0 ∧ a0 < 16 := by
  repeat' split at h
  all_goals first | omega | (exact absurd h (by simp))
 have hc : a0 = 0 ∨ a0 = 1 ∨ a0 = 2 ∨ a0 = 3 ∨ a0 = 4 ∨ a0 = 5 ∨ a0 = 6 ∨ a0 = 7 ∨ a0 = 8 ∨ a0 = 9 ∨ a0 = 10 ∨ a0 = 11 ∨ a0 = 12 ∨ a0 = 13 ∨ a0 = 14 ∨ a0 = 15 := by omega
 clear hr
 rcases hc with rfl | rfl | rfl | rfl | rfl | rfl | rfl | rfl | rfl | rfl | rfl | rfl | rfl | rfl | rfl | rfl
 all_goals
  simp at h
  subst h
  go_enter Try.func82, Try.ntmps82
  go_wp2
  go_ret
  exact ⟨by kernel_rfl, by repeat (first | exact Drawn0.refl _ | apply Drawn0.step)⟩
end
section
/-! ### cmp_Or_int: function 51 -/
def cmp_Or_int.l0 : Nat → Int → List Int → Int → Int → Option (Int)
 | 0, _, _, _, _ => none
 | k + 1, x3, x6, x7, x8 => if x8 < x7 then (if 0 ≤ x8 then (if x8 < (x6.length : Int) then (if (rd x6 x8) = x3 then ((some (wrap64 (x8 + 1))).bind fun q2 => (cmp_Or_int.l0 k x3 x6 x7 q2)) else (some (rd x6 x8))) else (none)) else (none)) else (some x3)
def cmp_Or_int.f (k : Nat) (l0 : List Int) : Option (Int) := cmp_Or_int.l0 k 0 l0 (l0.length : Int) 0
theorem cmp_Or_int.mono_l : ∀ k, (∀ y0 y1 y2 y3, LeO (cmp_Or_int.l0 k y0 y1 y2 y3) (cmp_Or_int.l0 (k + 1) y0 y1 y2 y3))
 | 0 => fun _ _ _ _ r h => by simp [cmp_Or_int.l0] at h
 | k + 1 => by
  have ih0 := cmp_Or_int.mono_l k
  ·intro y0 y1 y2 y3
   unfold cmp_Or_int.l0
   repeat' first
   | (with_reducible exact ih0 _ _ _ _)
   | (with_reducible exact LeO.refl _)
   | (with_reducible exact LeO.none _)
   | (with_reducible refine LeO.ite ?_ ?_)
   | (with_reducible refine LeO.bind ?_ (fun _ => ?_))
   | exact ih0 _ _ _ _
   | exact LeO.none _
   | refine LeO.ite ?_ ?_
   | refine LeO.bind ?_ (fun _ => ?_)
theorem cmp_Or_int.mono : ∀ a0 k, LeO (cmp_Or_int.f k a0) (cmp_Or_int.f (k + 1) a0) := by
 intro a0 k
 have ih0 := cmp_Or_int.mono_l k
 unfold cmp_Or_int.f
 repeat' first
   | (with_reducible exact ih0 _ _ _ _)
   | (with_reducible exact LeO.refl _)
   | (with_reducible exact LeO.none _)
   | (with_reducible refine LeO.ite ?_ ?_)
   | (with_reducible refine LeO.bind ?_ (fun _ => ?_))
   | exact ih0 _ _ _ _
   | exact LeO.none _
   | refine LeO.ite ?_ ?_
   | refine LeO.bind ?_ (fun _ => ?_)
set_option maxHeartbeats 8000000 in
set_option maxRecDepth 100000 in
theorem cmp_Or_int.calls (k : Nat) (A0 : Option Addr) (c0 : Nat) (l0 : List Int) (r : Int) (w : World) (hr0 : Kd.C (Kd.int .i64) w A0 l0.length l0) (hc0 : l0.length ≤ c0) (h : cmp_Or_int.f k l0 = some r) :
  Calls Try.prog 51 #[.slice A0 l0.length c0] w fun e w' => e = .returned (.int .i64 r) ∧ Drawn0 w w' := by
 have HR0 := Aside0.mk hr0
 have HC0 := Aside0.mk hc0
 clear hr0 hc0
 have H : (cmp_Or_int.l0 k 0 l0 (l0.length : Int) 0) = some r := h
 clear h
 have H' := Aside0.mk H
 clear H
 go_enter Try.func51, Try.ntmps51
 go_wp2
 go_loopg [8] k (fun kq v8 w' => ∃ (x8_1 : Int), v8 = .int .i64 x8_1 ∧ Aside0 (cmp_Or_int.l0 kq 0 l0 (l0.length : Int) x8_1 = some r) ∧ Aside0 (kq ≤ k) ∧ Drawn0 w w')
 case atStart => exact ⟨(0), (by first | rfl | (simp; done) | (simp [*]; done)), H', ⟨Nat.le_refl _⟩, by repeat (first | exact Drawn0.refl _ | apply Drawn0.step)⟩
 case round =>
  clear H'
  obtain ⟨x8_1, rfl, HA, HK1, ⟨m1, rfl⟩⟩ := hrel
  cases gk with
  | zero => exact absurd HA.out (by simp [cmp_Or_int.l0])
  | succ k1 =>
   have H := HA.out
   clear HA
   simp only [cmp_Or_int.l0] at H
   by_cases c2 : x8_1 < (l0.length : Int)
   ·rw [if_pos c2] at H
    have q5 : decide (x8_1 < (l0.length : Int)) = true := decide_eq_true c2
    clear c2
    by_cases c3 : 0 ≤ x8_1
    ·rw [if_pos c3] at H
     have q9 : decide (0 ≤ x8_1) = true := decide_eq_true c3
     clear c3
     by_cases c4 : x8_1 < (l0.length : Int)
     ·rw [if_pos c4] at H
      have qa : decide (x8_1 < (l0.length : Int)) = true := decide_eq_true c4
      clear c4
      by_cases c5 : (rd l0 x8_1) = 0
      ·rw [if_pos c5] at H
       have q6 : ((rd l0 x8_1) == 0) = true := beq_iff_eq.mpr c5
       have q7 : ((rd l0 x8_1) != 0) = false := bne_eq_false_iff_eq.mpr c5
       clear c5
       obtain ⟨q2, E60, H⟩ := oc H
       have E6w : (IntKind.i64.wrap (x8_1 + 1)) = q2 := (i64_w _).trans E60
       have H' := Aside0.mk H
       clear H
       have q0 : 0 ≤ (x8_1 : Int) := of_decide_eq_true (by first | (with_reducible assumption) | assumption)
       have q1 : x8_1 < (l0.length : Int) := of_decide_eq_true (by first | (with_reducible assumption) | assumption)
       obtain ⟨q4, q3, q8⟩ := Kd.at_int HR0.out x8_1 q0 q1
       cases q3
       replace q0 := eq_true q0
       replace q1 := eq_true q1
       go_wp2
       go_roundg k1
       case measure => have := HK1.out; omega
       case rel => exact ⟨(q2), (by first | rfl | (simp; done) | (simp [*]; done)), H', ⟨by have := HK1.out; omega⟩, by repeat (first | exact Drawn0.refl _ | apply Drawn0.step)⟩
      ·rw [if_neg c5] at H
       have q6 : ((rd l0 x8_1) == 0) = false := beq_eq_false_iff_ne.mpr c5
       have q7 : ((rd l0 x8_1) != 0) = true := bne_iff_ne.mpr c5
       obtain rfl := Option.some.inj H
       have q0 : 0 ≤ (x8_1 : Int) := of_decide_eq_true (by first | (with_reducible assumption) | assumption)
       have q1 : x8_1 < (l0.length : Int) := of_decide_eq_true (by first | (with_reducible assumption) | assumption)
       obtain ⟨q4, q3, q8⟩ := Kd.at_int HR0.out x8_1 q0 q1
       cases q3
       replace q0 := eq_true q0
       replace q1 := eq_true q1
       go_wp2
       go_ret
       exact ⟨by first | rfl | (simp; done) | (simp [*]; done), by repeat (first | exact Drawn0.refl _ | apply Drawn0.step)⟩
     ·rw [if_neg c4] at H
      exact absurd H (by simp)
    ·rw [if_neg c3] at H
     exact absurd H (by simp)
   ·rw [if_neg c2] at H
    have q5 : decide (x8_1 < (l0.length : Int)) = false := decide_eq_false c2
    clear c2
    obtain rfl := Option.some.inj H
    go_wp2
    go_ret
    exact ⟨by first | rfl | (simp; done) | (simp [*]; done), by repeat (first | exact Drawn0.refl _ | apply Drawn0.step)⟩
end
section
/-! ### cmp_isNaN_int64: function 79 -/
def cmp_isNaN_int64.f (a0 : Int) : Option (Bool) := some (a0 != a0)
set_option maxHeartbeats 8000000 in
set_option maxRecDepth 100000 in
theorem cmp_isNaN_int64.calls (a0 : Int) (r : Bool) (w : World) (h : cmp_isNaN_int64.f a0 = some r) :
  Calls Try.prog 79 #[.int .i64 a0] w fun e w' => e = .returned (.bool r) ∧ Drawn0 w w' := by
 have H : (some (a0 != a0)) = some r := h
 clear h
 obtain rfl := Option.some.inj H
 go_enter Try.func79, Try.ntmps79
 go_wp2
 go_ret
 exact ⟨by first | rfl | (simp; done) | (simp [*]; done), by repeat (first | exact Drawn0.refl _ | apply Drawn0.step)⟩
end
end Go.Proofs.Ytmcajdepoohlhaa.G
