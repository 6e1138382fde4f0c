/- Functions of the program as plain Lean functions, and their contracts (printed by a program of this session). No condition beyond what each states. -/
import Derived.Test.YtmcajdepoohlhaaProg
import Derived.Below
import Derived.Deep.Draws
import Derived.Deep.AppendLies
import Derived.Maps.AppendAt
import Derived.OwnWalk
import Derived.Laws.BytesArg
import Derived.Laws.MakeOwn
import Derived.Laws.OwnMore
import Derived.Deep.OwnRows
import Derived.Tactics
import Derived.Lib.ConvBytes
import Derived.Laws.Slices
import Derived.WalkKit
import Derived.KernelRfl
import Derived.RowKit3
import Derived.Deep.LoopGhost
import Derived.Deep.QuietTactic
import Derived.BigQuiet
import Derived.WideLaws
import Derived.Deep.DeepCutAuto
import Derived.Deep.CutBlock
import Derived.Deep.RegionHeld3
import Derived.Laws.Rows
import Derived.Lib.AppendStr
import Derived.ArgAppend
import Derived.Laws.IdiomCopy
import Derived.OrdersHeld
import Derived.Laws.BitsLemmas
import Derived.RowKit
import Derived.Test.YtmcajdepoohlhaaCKeepFn
import Derived.Test.YtmcajdepoohlhaaCKeepZ
import Derived.Test.YtmcajdepoohlhaaCKeepWWords
import Derived.Test.YtmcajdepoohlhaaCKeepWLast
import Derived.Test.YtmcajdepoohlhaaCKeepWTab
import Derived.Test.YtmcajdepoohlhaaCKeepWFour
import Derived.Test.YtmcajdepoohlhaaCKeepWQPut
import Derived.Test.YtmcajdepoohlhaaCKeepWApart
import Derived.Test.YtmcajdepoohlhaaCKeepWArr
import Derived.Test.YtmcajdepoohlhaaCKeepWZeros
import Derived.Test.YtmcajdepoohlhaaCKeepWFoot
import Derived.Test.YtmcajdepoohlhaaCKeepWKept
import Derived.Test.YtmcajdepoohlhaaCKeepWShare
import Derived.Test.YtmcajdepoohlhaaCKeepWN
import Derived.Test.YtmcajdepoohlhaaCKeepWFootNe
import Derived.Test.YtmcajdepoohlhaaCKeepWAt
import Derived.Test.YtmcajdepoohlhaaCKeepWEqStruct
import Derived.Test.YtmcajdepoohlhaaCKeepWRepsOne
import Derived.Test.YtmcajdepoohlhaaCKeepWInv
import Derived.Test.YtmcajdepoohlhaaCKeepWInvWords
import Derived.Test.YtmcajdepoohlhaaCKeepWGuard
import Derived.Test.YtmcajdepoohlhaaCKeepWNEv
import Derived.Test.YtmcajdepoohlhaaCKeepWMore
import Derived.Test.YtmcajdepoohlhaaCKeepY
namespace Go.Proofs.Ytmcajdepoohlhaa.G
open Go.RowKit Go.Proofs.YtmcajdepoohlhaaW.PrintWords Go.Proofs.YtmcajdepoohlhaaW.PrintLast Go.Proofs.YtmcajdepoohlhaaW.PrintMore
attribute [local go_sem] max2_int min2_int max_two min_two max_three min_three max_four min_four
set_option linter.unusedVariables false
set_option linter.unusedSimpArgs false
section
def errW : Option Int → Value
 | none => .nilIface
 | some c => .iface 0 (.int .i64 c)
theorem errW_none : errW none = .nilIface := rfl
theorem errW_some (c : Int) : errW (some c) = .iface 0 (.int .i64 c) := rfl
theorem info3 : (Try.prog.info? 3).map (fun i => (i.zero, i.size, i.bytes)) = some (some (.int .i64 0), 1, 8) := by kernel_rfl
theorem info25 : (Try.prog.info? 25).map (fun i => (i.zero, i.size, i.bytes)) = some (some (.agg #[(.int .i64 0), (.int .i64 0), (.int .i64 0), (.int .i64 0)]), 4, 32) := by kernel_rfl
theorem info37 : (Try.prog.info? 37).map (fun i => (i.zero, i.size, i.bytes)) = some (some (.agg #[(.int .i64 0), (.int .i64 0)]), 2, 16) := by kernel_rfl
-- the values' own types
/-! #### struct type 25 -/
structure S25 where
 f0 : Int
 f1 : Int
 f2 : Int
 f3 : Int
def z25 : S25 := ⟨(0 : Int), (0 : Int), (0 : Int), (0 : Int)⟩
def k25 : Kd S25 := Kd.iso (Kd.pair (Kd.int .i64) (Kd.pair (Kd.int .i64) (Kd.pair (Kd.int .i64) (Kd.int .i64)))) (fun x : S25 => (x.f0, x.f1, x.f2, x.f3))
theorem k25_open {w : World} {x : S25} {cs : List Value} (h : k25.K w x cs) : cs = [.int .i64 x.f0, .int .i64 x.f1, .int .i64 x.f2, .int .i64 x.f3] := by
 obtain ⟨_, _, rfl, rfl, ⟨_, _, rfl, rfl, ⟨_, _, rfl, rfl, rfl⟩⟩⟩ := h
 exact rfl
theorem k25_openM {w : World} {base : Nat} {ok : Nat → Prop} {x : S25} {cs : List Value} (h : k25.M w base ok x cs) : cs = [.int .i64 x.f0, .int .i64 x.f1, .int .i64 x.f2, .int .i64 x.f3] := by
 obtain ⟨_, _, rfl, rfl, ⟨_, _, rfl, rfl, ⟨_, _, rfl, rfl, rfl⟩⟩⟩ := h
 exact rfl
theorem k25_mk (w : World) (x : S25)  : k25.K w x [.int .i64 x.f0, .int .i64 x.f1, .int .i64 x.f2, .int .i64 x.f3] := ⟨[.int .i64 x.f0], [.int .i64 x.f1, .int .i64 x.f2, .int .i64 x.f3], rfl, rfl, ⟨[.int .i64 x.f1], [.int .i64 x.f2, .int .i64 x.f3], rfl, rfl, ⟨[.int .i64 x.f2], [.int .i64 x.f3], rfl, rfl, rfl⟩⟩⟩
theorem k25_mkM (w : World) (base : Nat) (ok : Nat → Prop) (x : S25)  : k25.M w base ok x [.int .i64 x.f0, .int .i64 x.f1, .int .i64 x.f2, .int .i64 x.f3] := ⟨[.int .i64 x.f0], [.int .i64 x.f1, .int .i64 x.f2, .int .i64 x.f3], rfl, rfl, ⟨[.int .i64 x.f1], [.int .i64 x.f2, .int .i64 x.f3], rfl, rfl, ⟨[.int .i64 x.f2], [.int .i64 x.f3], rfl, rfl, rfl⟩⟩⟩
def rd_T25 (xs : List S25) (i : Int) : S25 := xs.getD i.toNat z25
theorem at_T25 {w : World} {A : Option Addr} {n : Nat} {xs : List S25} (h : Kd.C k25 w A n xs) (i : Int) (h0 : 0 ≤ i) (h1 : i < n) : ∃ ad , A = some ad ∧ w.cell? (ad.add (i.toNat * 4)) = some (.int .i64 (rd_T25 xs i).f0) ∧ w.cell? ⟨(ad.add (i.toNat * 4)).block, (ad.add (i.toNat * 4)).off + 1, none⟩ = some (.int .i64 (rd_T25 xs i).f1) ∧ w.cell? ⟨(ad.add (i.toNat * 4)).block, (ad.add (i.toNat * 4)).off + 2, none⟩ = some (.int .i64 (rd_T25 xs i).f2) ∧ w.cell? ⟨(ad.add (i.toNat * 4)).block, (ad.add (i.toNat * 4)).off + 3, none⟩ = some (.int .i64 (rd_T25 xs i).f3) := by
 obtain ⟨ad, c, e, _, hK, hc0⟩ := Kd.C_get h z25 i h0 h1
 have hc : ∀ j u, c[j]? = some u → w.cell? (ad.add (i.toNat * 4 + j)) = some u := hc0
 obtain rfl := k25_open hK
 exact ⟨ad, e, hc 0 _ rfl, by rw [← add_field _ _ 1 (by omega)]; exact hc 1 _ rfl, by rw [← add_field _ _ 2 (by omega)]; exact hc 2 _ rfl, by rw [← add_field _ _ 3 (by omega)]; exact hc 3 _ rfl⟩
/-! #### struct type 37 -/
structure S37 where
 f0 : Int
 f1 : Int
def z37 : S37 := ⟨(0 : Int), (0 : Int)⟩
def k37 : Kd S37 := Kd.iso (Kd.pair (Kd.int .i64) (Kd.int .i64)) (fun x : S37 => (x.f0, x.f1))
theorem k37_open {w : World} {x : S37} {cs : List Value} (h : k37.K w x cs) : cs = [.int .i64 x.f0, .int .i64 x.f1] := by
 obtain ⟨_, _, rfl, rfl, rfl⟩ := h
 exact rfl
theorem k37_openM {w : World} {base : Nat} {ok : Nat → Prop} {x : S37} {cs : List Value} (h : k37.M w base ok x cs) : cs = [.int .i64 x.f0, .int .i64 x.f1] := by
 obtain ⟨_, _, rfl, rfl, rfl⟩ := h
 exact rfl
theorem k37_mk (w : World) (x : S37)  : k37.K w x [.int .i64 x.f0, .int .i64 x.f1] := ⟨[.int .i64 x.f0], [.int .i64 x.f1], rfl, rfl, rfl⟩
theorem k37_mkM (w : World) (base : Nat) (ok : Nat → Prop) (x : S37)  : k37.M w base ok x [.int .i64 x.f0, .int .i64 x.f1] := ⟨[.int .i64 x.f0], [.int .i64 x.f1], rfl, rfl, rfl⟩
def rd_T37 (xs : List S37) (i : Int) : S37 := xs.getD i.toNat z37
theorem at_T37 {w : World} {A : Option Addr} {n : Nat} {xs : List S37} (h : Kd.C k37 w A n xs) (i : Int) (h0 : 0 ≤ i) (h1 : i < n) : ∃ ad , A = some ad ∧ w.cell? (ad.add (i.toNat * 2)) = some (.int .i64 (rd_T37 xs i).f0) ∧ w.cell? ⟨(ad.add (i.toNat * 2)).block, (ad.add (i.toNat * 2)).off + 1, none⟩ = some (.int .i64 (rd_T37 xs i).f1) := by
 obtain ⟨ad, c, e, _, hK, hc0⟩ := Kd.C_get h z37 i h0 h1
 have hc : ∀ j u, c[j]? = some u → w.cell? (ad.add (i.toNat * 2 + j)) = some u := hc0
 obtain rfl := k37_open hK
 exact ⟨ad, e, hc 0 _ rfl, by rw [← add_field _ _ 1 (by omega)]; exact hc 1 _ rfl⟩
end
section
/-! ### grids_outside: function 46 -/
def grids_outside.f (a0 : Int) (a1 : Int) : Option (Bool) := (some (wrap64 (-a1))).bind fun q0 => (if a0 < q0 then (some true) else (some (decide (a0 > a1))))
set_option maxHeartbeats 8000000 in
set_option maxRecDepth 100000 in
theorem grids_outside.calls (a0 : Int) (a1 : Int) (r : Bool) (w : World) (h : grids_outside.f a0 a1 = some r) :
  Calls Try.prog 46 #[.int .i64 a0, .int .i64 a1] w fun e w' => e = .returned (.bool r) ∧ Drawn0 w w' := by
 have H : ((some (wrap64 (-a1))).bind fun q0 => (if a0 < q0 then (some true) else (some (decide (a0 > a1))))) = some r := h
 clear h
 obtain ⟨q0, E30, H⟩ := oc H
 have E3w : (IntKind.i64.wrap (-a1)) = q0 := (i64_w _).trans E30
 by_cases c4 : a0 < q0
 ·rw [if_pos c4] at H
  have q1 : decide (a0 < q0) = true := decide_eq_true c4
  clear c4
  obtain rfl := Option.some.inj H
  go_enter Try.func46, Try.ntmps46
  go_wp2
  go_ret
  exact ⟨by first | rfl | (simp; done) | (simp [*]; done), by repeat (first | exact Drawn0.refl _ | apply Drawn0.step)⟩
 ·rw [if_neg c4] at H
  have q1 : decide (a0 < q0) = false := decide_eq_false c4
  clear c4
  obtain rfl := Option.some.inj H
  go_enter Try.func46, Try.ntmps46
  go_wp2
  go_ret
  exact ⟨by first | rfl | (simp; done) | (simp [*]; done), by repeat (first | exact Drawn0.refl _ | apply Drawn0.step)⟩
end
section
/-! ### grids_Check: function 14 -/
def grids_Check.j0 : Nat → Bool → Option (Int)
 | 0, _ => none
 | k + 1, x38 => if x38 = true then (some 2) else (some 0)
def grids_Check.f (k : Nat) (a0_0 : Int) (a0_1 : Int) (a0_2 : Int) : Option (Int) := if a0_0 < 1 then (grids_Check.j0 k true) else (if a0_2 < 1 then (grids_Check.j0 k true) else (if a0_0 > 10000 then (grids_Check.j0 k true) else (if a0_2 > 10000 then (grids_Check.j0 k true) else ((grids_outside.f a0_1 10000).bind fun q4 => (if q4 = true then (grids_Check.j0 k true) else ((some (wrap64 (a0_0 * a0_2))).bind fun q1 => ((some (wrap64 (a0_1 * a0_1))).bind fun q2 => (grids_Check.j0 k (decide (q1 ≤ q2))))))))))
theorem grids_Check.mono_l : ∀ k, (∀ y0, LeO (grids_Check.j0 k y0) (grids_Check.j0 (k + 1) y0))
 | 0 => fun _ r h => by simp [grids_Check.j0] at h
 | k + 1 => by
  have ih0 := grids_Check.mono_l k
  ·intro y0
   unfold grids_Check.j0
   repeat' first
   | (with_reducible exact ih0 _)
   | (with_reducible exact LeO.refl _)
   | (with_reducible exact LeO.none _)
   | (with_reducible refine LeO.ite ?_ ?_)
   | (with_reducible refine LeO.bind ?_ (fun _ => ?_))
   | exact ih0 _
   | exact LeO.none _
   | refine LeO.ite ?_ ?_
   | refine LeO.bind ?_ (fun _ => ?_)
theorem grids_Check.mono : ∀ a0 a1 a2 k, LeO (grids_Check.f k a0 a1 a2) (grids_Check.f (k + 1) a0 a1 a2) := by
 intro a0 a1 a2 k
 have ih0 := grids_Check.mono_l k
 unfold grids_Check.f
 repeat' first
   | (with_reducible exact ih0 _)
   | (with_reducible exact LeO.refl _)
   | (with_reducible exact LeO.none _)
   | (with_reducible refine LeO.ite ?_ ?_)
   | (with_reducible refine LeO.bind ?_ (fun _ => ?_))
   | exact ih0 _
   | exact LeO.none _
   | refine LeO.ite ?_ ?_
   | refine LeO.bind ?_ (fun _ => ?_)
set_option maxHeartbeats 8000000 in
set_option maxRecDepth 100000 in
theorem grids_Check.calls (k : Nat) (a0_0 : Int) (a0_1 : Int) (a0_2 : Int) (r : Int) (w : World) (h : grids_Check.f k a0_0 a0_1 a0_2 = some r) :
  Calls Try.prog 14 #[.agg #[.int .i64 a0_0, .int .i64 a0_1, .int .i64 a0_2]] w fun e w' => e = .returned (.int .i64 r) ∧ Below w.heap.size w w' := by
 have hu23 := Try.underlying23
 have HB := Aside0.mk (Below.refl w.heap.size w)
 have H : (if a0_0 < 1 then (grids_Check.j0 k true) else (if a0_2 < 1 then (grids_Check.j0 k true) else (if a0_0 > 10000 then (grids_Check.j0 k true) else (if a0_2 > 10000 then (grids_Check.j0 k true) else ((grids_outside.f a0_1 10000).bind fun q4 => (if q4 = true then (grids_Check.j0 k true) else ((some (wrap64 (a0_0 * a0_2))).bind fun q1 => ((some (wrap64 (a0_1 * a0_1))).bind fun q2 => (grids_Check.j0 k (decide (q1 ≤ q2))))))))))) = some r := h
 clear h
 have HC2 := Aside0.mk H
 clear H
 go_enter Try.func14, Try.ntmps14
 go_upto_region 1 with (first | ((with_reducible refine gate_dst (N := 1) rfl ?_); refine bx 1 #[.int .i64 a0_0, .int .i64 a0_1, .int .i64 a0_2] 23 fun q8 hg w3 q0 hb => ?_; have qK := gw hg HB; have qJ := gw hg HB; replace HB := bst HB hb; clear hb hg))
 (try simp only [Act.put, List.setIfInBounds_toArray, List.set_cons_zero, List.set_cons_succ])
 go_cut [38] (fun v38 wc => ∃ (kq : Nat) (x38_1 : Bool), v38 = .bool x38_1 ∧ Aside0 (grids_Check.j0 kq x38_1 = some r) ∧ Aside0 (kq ≤ k) ∧ Aside0 (wc.heap[q8]? = some (.cells #[.int .i64 a0_0, .int .i64 a0_1, .int .i64 a0_2] 23 (0, 0))) ∧ Aside0 (Below w.heap.size w wc))
 case first =>
  have H := HC2.out
  clear HC2
  by_cases c4 : a0_0 < 1
  ·rw [if_pos c4] at H
   have q3 : decide (a0_0 < 1) = true := decide_eq_true c4
   clear c4
   (first | rw [q3] | (simp only [i64_w, i32_w]; rw [q3]) | skip)
   have H' := Aside0.mk H
   clear H
   have ⟨qi, qj, qk, qA, qB, qC⟩ := cf3 q0
   go_wp2
   go_meet
   case rel => exact ⟨_, (true), (by first | rfl | (simp; done) | (simp [*]; done)), H', ⟨by first | omega | exact Nat.le_refl _⟩, ⟨pk q0⟩, ⟨bnow HB⟩⟩
  ·rw [if_neg c4] at H
   have q3 : decide (a0_0 < 1) = false := decide_eq_false c4
   clear c4
   (first | rw [q3] | (simp only [i64_w, i32_w]; rw [q3]) | skip)
   by_cases c6 : a0_2 < 1
   ·rw [if_pos c6] at H
    have q6 : decide (a0_2 < 1) = true := decide_eq_true c6
    clear c6
    have H' := Aside0.mk H
    clear H
    have ⟨ql, qm, qn, qD, qE, qF⟩ := cf3 q0
    go_wp2
    go_meet
    case rel => exact ⟨_, (true), (by first | rfl | (simp; done) | (simp [*]; done)), H', ⟨by first | omega | exact Nat.le_refl _⟩, ⟨pk q0⟩, ⟨bnow HB⟩⟩
   ·rw [if_neg c6] at H
    have q6 : decide (a0_2 < 1) = false := decide_eq_false c6
    clear c6
    by_cases c8 : a0_0 > 10000
    ·rw [if_pos c8] at H
     have q7 : decide (10000 < a0_0) = true := decide_eq_true c8
     clear c8
     have H' := Aside0.mk H
     clear H
     have ⟨qo, qp, qq, qG, qH, qI⟩ := cf3 q0
     go_wp2
     go_meet
     case rel => exact ⟨_, (true), (by first | rfl | (simp; done) | (simp [*]; done)), H', ⟨by first | omega | exact Nat.le_refl _⟩, ⟨pk q0⟩, ⟨bnow HB⟩⟩
    ·rw [if_neg c8] at H
     have q7 : decide (10000 < a0_0) = false := decide_eq_false c8
     clear c8
     by_cases c10 : a0_2 > 10000
     ·rw [if_pos c10] at H
      have q5 : decide (10000 < a0_2) = true := decide_eq_true c10
      clear c10
      have H' := Aside0.mk H
      clear H
      have ⟨q9, qa, qb, qr, qs, qt⟩ := cf3 q0
      go_wp2
      go_meet
      case rel => exact ⟨_, (true), (by first | rfl | (simp; done) | (simp [*]; done)), H', ⟨by first | omega | exact Nat.le_refl _⟩, ⟨pk q0⟩, ⟨bnow HB⟩⟩
     ·rw [if_neg c10] at H
      have q5 : decide (10000 < a0_2) = false := decide_eq_false c10
      clear c10
      obtain ⟨q4, A12, H⟩ := ob H
      by_cases c13 : q4 = true
      ·subst c13
       have H1 : (grids_Check.j0 k true) = some r := by rw [if_pos rfl] at H; exact H
       clear H
       have H := H1
       clear H1
       have H' := Aside0.mk H
       clear H
       have ⟨qc, qd, qe, qu, qv, qw⟩ := cf3 q0
       go_wp2_with (first | (go_at_call 46; (with_reducible refine (grids_outside.calls a0_1 10000 true _ A12.out).mono ?_); rintro e w' ⟨rfl, ⟨nd, rfl⟩⟩))
       go_meet
       case rel => exact ⟨_, (true), (by first | rfl | (simp; done) | (simp [*]; done)), H', ⟨by first | omega | exact Nat.le_refl _⟩, ⟨pk q0⟩, ⟨bnow HB⟩⟩
      ·replace c13 := Bool.eq_false_iff.mpr c13
       subst c13
       have H1 : ((some (wrap64 (a0_0 * a0_2))).bind fun q1 => ((some (wrap64 (a0_1 * a0_1))).bind fun q2 => (grids_Check.j0 k (decide (q1 ≤ q2))))) = some r := by rw [if_neg (show ¬ (false = true) by decide)] at H; exact H
       clear H
       have H := H1
       clear H1
       obtain ⟨q1, E150, H⟩ := oc H
       have E15w : (IntKind.i64.wrap (a0_0 * a0_2)) = q1 := (i64_w _).trans E150
       obtain ⟨q2, E160, H⟩ := oc H
       have E16w : (IntKind.i64.wrap (a0_1 * a0_1)) = q2 := (i64_w _).trans E160
       have H' := Aside0.mk H
       clear H
       have ⟨qf, qg, qh, qx, qy, qz⟩ := cf3 q0
       go_wp2_with (first | (go_at_call 46; (with_reducible refine (grids_outside.calls a0_1 10000 false _ A12.out).mono ?_); rintro e w' ⟨rfl, ⟨nd, rfl⟩⟩))
       go_meet
       case rel => exact ⟨_, (decide (q1 ≤ q2)), (by first | rfl | (simp; done) | (simp [*]; done)), H', ⟨by first | omega | exact Nat.le_refl _⟩, ⟨pk q0⟩, ⟨bnow HB⟩⟩
 case rest =>
  clear HC2
  try clear c1; try clear p2; try clear c4; try clear q3; try clear c6; try clear q6; try clear p6; try clear c8; try clear q7; try clear c10; try clear q5; try clear c13; try clear c14; try clear q9; try clear qa; try clear qb; try clear qc; try clear qd; try clear qe; try clear qf; try clear qg; try clear qh; try clear qi; try clear qj; try clear qk; try clear ql; try clear qm; try clear qn; try clear qo; try clear qp; try clear qq; try clear qr; try clear qs; try clear qt; try clear qu; try clear qv; try clear qw; try clear qx; try clear qy; try clear qz; try clear qA; try clear qB; try clear qC; try clear qD; try clear qE; try clear qF; try clear qG; try clear qH; try clear qI
  obtain ⟨kq, x38_1, rfl, HA, HJ1, q0, HB⟩ := hcut
  cases kq with
  | zero => exact absurd HA.out (by simp [grids_Check.j0])
  | succ kj1 =>
   have H := HA.out
   clear HA
   simp only [grids_Check.j0] at H
   by_cases c18 : x38_1 = true
   ·subst c18
    have H1 : (some 2) = some r := by rw [if_pos rfl] at H; exact H
    clear H
    have H := H1
    clear H1
    obtain rfl := Option.some.inj H
    go_wp2
    go_ret
    exact rt HB
   ·replace c18 := Bool.eq_false_iff.mpr c18
    subst c18
    have H1 : (some 0) = some r := by rw [if_neg (show ¬ (false = true) by decide)] at H; exact H
    clear H
    have H := H1
    clear H1
    obtain rfl := Option.some.inj H
    go_wp2
    go_ret
    exact rt HB
end
section
/-! ### grids_step_product: function 80 -/
def grids_step_product.f (a0_0 : Int) (a0_1 : Int) (a1_0 : Int) (a1_1 : Int) (a1_2 : Int) (a2_0 : Int) (a2_1 : Int) : Option (Int) := (some (wrap64 (a1_0 * a2_0))).bind fun q1 => ((some (wrap64 (a1_1 * a2_1))).bind fun q2 => ((some (wrap64 (q1 + q2))).bind fun q3 => ((some (wrap64 (a0_0 * q3))).bind fun q4 => ((some (wrap64 (a1_1 * a2_0))).bind fun q5 => ((some (wrap64 (a1_2 * a2_1))).bind fun q6 => ((some (wrap64 (q5 + q6))).bind fun q7 => ((some (wrap64 (a0_1 * q7))).bind fun q8 => ((some (wrap64 (q4 + q8))).bind fun qa => (some qa)))))))))
set_option maxHeartbeats 8000000 in
set_option maxRecDepth 100000 in
theorem grids_step_product.calls (a0_0 : Int) (a0_1 : Int) (a1_0 : Int) (a1_1 : Int) (a1_2 : Int) (a2_0 : Int) (a2_1 : Int) (r : Int) (w : World) (h : grids_step_product.f a0_0 a0_1 a1_0 a1_1 a1_2 a2_0 a2_1 = some r) :
  Calls Try.prog 80 #[.agg #[.int .i64 a0_0, .int .i64 a0_1], .agg #[.int .i64 a1_0, .int .i64 a1_1, .int .i64 a1_2], .agg #[.int .i64 a2_0, .int .i64 a2_1]] w fun e w' => e = .returned (.int .i64 r) ∧ Below w.heap.size w w' := by
 have hu81 := Try.underlying81
 have hu23 := Try.underlying23
 have HB := Aside0.mk (Below.refl w.heap.size w)
 have H : ((some (wrap64 (a1_0 * a2_0))).bind fun q1 => ((some (wrap64 (a1_1 * a2_1))).bind fun q2 => ((some (wrap64 (q1 + q2))).bind fun q3 => ((some (wrap64 (a0_0 * q3))).bind fun q4 => ((some (wrap64 (a1_1 * a2_0))).bind fun q5 => ((some (wrap64 (a1_2 * a2_1))).bind fun q6 => ((some (wrap64 (q5 + q6))).bind fun q7 => ((some (wrap64 (a0_1 * q7))).bind fun q8 => ((some (wrap64 (q4 + q8))).bind fun qa => (some qa)))))))))) = some r := h
 clear h
 obtain ⟨q1, E40, H⟩ := oc H
 have E4w : (IntKind.i64.wrap (a1_0 * a2_0)) = q1 := (i64_w _).trans E40
 obtain ⟨q2, E50, H⟩ := oc H
 have E5w : (IntKind.i64.wrap (a1_1 * a2_1)) = q2 := (i64_w _).trans E50
 obtain ⟨q3, E60, H⟩ := oc H
 have E6w : (IntKind.i64.wrap (q1 + q2)) = q3 := (i64_w _).trans E60
 obtain ⟨q4, E70, H⟩ := oc H
 have E7w : (IntKind.i64.wrap (a0_0 * q3)) = q4 := (i64_w _).trans E70
 obtain ⟨q5, E80, H⟩ := oc H
 have E8w : (IntKind.i64.wrap (a1_1 * a2_0)) = q5 := (i64_w _).trans E80
 obtain ⟨q6, E90, H⟩ := oc H
 have E9w : (IntKind.i64.wrap (a1_2 * a2_1)) = q6 := (i64_w _).trans E90
 obtain ⟨q7, E100, H⟩ := oc H
 have E10w : (IntKind.i64.wrap (q5 + q6)) = q7 := (i64_w _).trans E100
 obtain ⟨q8, E110, H⟩ := oc H
 have E11w : (IntKind.i64.wrap (a0_1 * q7)) = q8 := (i64_w _).trans E110
 obtain ⟨qa, E120, H⟩ := oc H
 have E12w : (IntKind.i64.wrap (q4 + q8)) = qa := (i64_w _).trans E120
 obtain rfl := Option.some.inj H
 go_enter Try.func80, Try.ntmps80
 go_wp2_with (first | ((with_reducible refine gate_dst (N := 3) rfl ?_); refine bx 3 #[.int .i64 a0_0, .int .i64 a0_1] 81 fun qo hg w13 q0 hb => ?_; have ql := gw hg HB; have qi := gw hg HB; replace HB := bst HB hb; clear hb hg) | ((with_reducible refine gate_dst (N := 4) rfl ?_); refine bx 4 #[.int .i64 a1_0, .int .i64 a1_1, .int .i64 a1_2] 23 fun qp hg w14 q9 hb => ?_; have qm := gw hg HB; have qj := gw hg HB; have qc := nlt hg q0; have qe := ngt hg q0; replace q0 := bb q0 hb; replace HB := bst HB hb; clear hb hg) | ((with_reducible refine gate_dst (N := 5) rfl ?_); refine bx 5 #[.int .i64 a2_0, .int .i64 a2_1] 81 fun qq hg w15 qb hb => ?_; have qn := gw hg HB; have qk := gw hg HB; have qd := nlt hg q0; have qg := ngt hg q0; have qf := nlt hg q9; have qh := ngt hg q9; replace q0 := bb q0 hb; replace q9 := bb q9 hb; replace HB := bst HB hb; clear hb hg; have qF := qc.out; have qI := qe.out; have qG := qd.out; have qJ := qg.out; have ⟨qr, qs, qy, qz⟩ := cf2 q0; have qH := qf.out; have qK := qh.out; have ⟨qt, qu, qv, qA, qB, qC⟩ := cf3 q9; have ⟨qw, qx, qD, qE⟩ := cf2 qb))
 go_ret
 exact rt HB
end
section
/-! ### grids_point_1: function 77 -/
def grids_point_1.f (a0_0 : Int) (a0_1 : Int) : Option (Bool) := (grids_outside.f a0_0 1000000).bind fun q1 => (if q1 = true then (some true) else ((grids_outside.f a0_1 1000000).bind fun q0 => (some q0)))
set_option maxHeartbeats 8000000 in
set_option maxRecDepth 100000 in
theorem grids_point_1.calls (a0_0 : Int) (a0_1 : Int) (r : Bool) (w : World) (h : grids_point_1.f a0_0 a0_1 = some r) :
  Calls Try.prog 77 #[.agg #[.int .i64 a0_0, .int .i64 a0_1]] w fun e w' => e = .returned (.bool r) ∧ Below w.heap.size w w' := by
 have hu37 := Try.underlying37
 have HB := Aside0.mk (Below.refl w.heap.size w)
 have H : ((grids_outside.f a0_0 1000000).bind fun q1 => (if q1 = true then (some true) else ((grids_outside.f a0_1 1000000).bind fun q0 => (some q0)))) = some r := h
 clear h
 obtain ⟨q1, A2, H⟩ := ob H
 by_cases c3 : q1 = true
 ·subst c3
  have H1 : (some true) = some r := by rw [if_pos rfl] at H; exact H
  clear H
  have H := H1
  clear H1
  obtain rfl := Option.some.inj H
  go_enter Try.func77, Try.ntmps77
  go_wp2_with (first | ((with_reducible refine gate_dst (N := 1) rfl ?_); refine bx 1 #[.int .i64 a0_0, .int .i64 a0_1] 37 fun q5 hg w4 q2 hb => ?_; have q4 := gw hg HB; have q3 := gw hg HB; replace HB := bst HB hb; clear hb hg; have ⟨q6, q7, qa, qb⟩ := cf2 q2) | ((with_reducible refine gate_callee (f := 46) rfl ?_); refine goesL_ (some 5) rfl rfl Try.func46 (by kernel_rfl) rfl #[.int .i64 a0_0, .int .i64 1000000] rfl am ?_; (with_reducible refine (grids_outside.calls a0_0 1000000 true _ A2.out).mono ?_); rintro e w' ⟨rfl, ⟨nd, rfl⟩⟩; refine ⟨_, rfl, ?_⟩))
  go_ret
  exact rt HB
 ·replace c3 := Bool.eq_false_iff.mpr c3
  subst c3
  have H1 : ((grids_outside.f a0_1 1000000).bind fun q0 => (some q0)) = some r := by rw [if_neg (show ¬ (false = true) by decide)] at H; exact H
  clear H
  have H := H1
  clear H1
  obtain ⟨q0, A6, H⟩ := ob H
  obtain rfl := Option.some.inj H
  go_enter Try.func77, Try.ntmps77
  go_wp2_with (first | ((with_reducible refine gate_dst (N := 1) rfl ?_); refine bx 1 #[.int .i64 a0_0, .int .i64 a0_1] 37 fun q5 hg w7 q2 hb => ?_; have q4 := gw hg HB; have q3 := gw hg HB; replace HB := bst HB hb; clear hb hg; have ⟨q8, q9, qc, qd⟩ := cf2 q2) | ((with_reducible refine gate_callee (f := 46) rfl ?_); refine goesL_ (some 5) rfl rfl Try.func46 (by kernel_rfl) rfl #[.int .i64 a0_0, .int .i64 1000000] rfl am ?_; (with_reducible refine (grids_outside.calls a0_0 1000000 false _ A2.out).mono ?_); rintro e w' ⟨rfl, ⟨nd, rfl⟩⟩; refine ⟨_, rfl, ?_⟩) | (go_at_call 46; (with_reducible refine (grids_outside.calls a0_1 1000000 q0 _ A6.out).mono ?_); rintro e w' ⟨rfl, ⟨nd, rfl⟩⟩))
  go_ret
  exact rt HB
end
section
/-! ### api_GrPoint_84: function 84 -/
def api_GrPoint_84.l0 : Nat → List (S37) → Int → Int → Option (Int)
 | 0, _, _, _ => none
 | k + 1, x0, x7, x8 => if x8 < x7 then (if 0 ≤ x8 then (if x8 < (x0.length : Int) then ((grids_point_1.f ((rd_T37 x0 x8).f0) ((rd_T37 x0 x8).f1)).bind fun q6 => (if q6 = true then (some x8) else ((some (wrap64 (x8 + 1))).bind fun q4 => (api_GrPoint_84.l0 k x0 x7 q4)))) else (none)) else (none)) else (some (-1))
def api_GrPoint_84.f (k : Nat) (l0 : List (S37))  : Option (Int) := api_GrPoint_84.l0 k l0 (l0.length : Int) 0
theorem api_GrPoint_84.mono_l : ∀ k, (∀ y0 y1 y2, LeO (api_GrPoint_84.l0 k y0 y1 y2) (api_GrPoint_84.l0 (k + 1) y0 y1 y2))
 | 0 => fun _ _ _ r h => by simp [api_GrPoint_84.l0] at h
 | k + 1 => by
  have ih0 := api_GrPoint_84.mono_l k
  ·intro y0 y1 y2
   unfold api_GrPoint_84.l0
   repeat' first
   | (with_reducible exact ih0 _ _ _)
   | (with_reducible exact LeO.refl _)
   | (with_reducible exact LeO.none _)
   | (with_reducible refine LeO.ite ?_ ?_)
   | (with_reducible refine LeO.bind ?_ (fun _ => ?_))
   | exact ih0 _ _ _
   | exact LeO.none _
   | refine LeO.ite ?_ ?_
   | refine LeO.bind ?_ (fun _ => ?_)
theorem api_GrPoint_84.mono : ∀ a0 k, LeO (api_GrPoint_84.f k a0) (api_GrPoint_84.f (k + 1) a0) := by
 intro a0 k
 have ih0 := api_GrPoint_84.mono_l k
 unfold api_GrPoint_84.f
 repeat' first
   | (with_reducible exact ih0 _ _ _)
   | (with_reducible exact LeO.refl _)
   | (with_reducible exact LeO.none _)
   | (with_reducible refine LeO.ite ?_ ?_)
   | (with_reducible refine LeO.bind ?_ (fun _ => ?_))
   | exact ih0 _ _ _
   | exact LeO.none _
   | refine LeO.ite ?_ ?_
   | refine LeO.bind ?_ (fun _ => ?_)
set_option maxHeartbeats 8000000 in
set_option maxRecDepth 100000 in
theorem api_GrPoint_84.calls (k : Nat) (A0 : Option Addr) (c0 : Nat) (l0 : List (S37))  (r : Int) (w : World) (hr0 : Kd.C k37 w A0 l0.length l0) (hc0 : l0.length ≤ c0) (h : api_GrPoint_84.f k l0 = some r) :
  Calls Try.prog 84 #[.slice A0 l0.length c0, .func (.func 77) #[] #[]] w fun e w' => e = .returned (.int .i64 r) ∧ Below w.heap.size w w' := by
 have hu37 := Try.underlying37
 have HR0 := Aside0.mk hr0
 have HC0 := Aside0.mk hc0
 clear hr0 hc0
 have HB := Aside0.mk (Below.refl w.heap.size w)
 have H : (api_GrPoint_84.l0 k l0 (l0.length : Int) 0) = some r := h
 clear h
 have H' := Aside0.mk H
 clear H
 go_enter Try.func84, Try.ntmps84
 go_wp2
 go_loopg [8] k (fun kq v8 w' => ∃ (x8_1 : Int), v8 = .int .i64 x8_1 ∧ Aside0 (api_GrPoint_84.l0 kq l0 (l0.length : Int) x8_1 = some r) ∧ Aside0 (kq ≤ k) ∧ Aside0 (Below w.heap.size w w'))
 case atStart => exact ⟨(0), (by first | rfl | (simp; done) | (simp [*]; done)), H', ⟨Nat.le_refl _⟩, ⟨bnow HB⟩⟩
 case round =>
  clear H'
  try clear p2
  obtain ⟨x8_1, rfl, HA, HK1, HB⟩ := hrel
  cases gk with
  | zero => exact absurd HA.out (by simp [api_GrPoint_84.l0])
  | succ k1 =>
   have H := HA.out
   clear HA
   simp only [api_GrPoint_84.l0] at H
   by_cases c3 : x8_1 < (l0.length : Int)
   ·rw [if_pos c3] at H
    have q8 : decide (x8_1 < (l0.length : Int)) = true := decide_eq_true c3
    clear c3
    by_cases c4 : 0 ≤ x8_1
    ·rw [if_pos c4] at H
     have q9 : decide (0 ≤ x8_1) = true := decide_eq_true c4
     clear c4
     by_cases c5 : x8_1 < (l0.length : Int)
     ·rw [if_pos c5] at H
      have qa : decide (x8_1 < (l0.length : Int)) = true := decide_eq_true c5
      clear c5
      obtain ⟨q6, A6, H⟩ := ob H
      by_cases c7 : q6 = true
      ·subst c7
       have H1 : (some x8_1) = some r := by rw [if_pos rfl] at H; exact H
       clear H
       have H := H1
       clear H1
       obtain rfl := Option.some.inj H
       have q2 : 0 ≤ (x8_1 : Int) := of_decide_eq_true (by first | (with_reducible assumption) | assumption)
       have q3 : x8_1 < (l0.length : Int) := of_decide_eq_true (by first | (with_reducible assumption) | assumption)
       obtain ⟨q7, q5, q0, q1⟩ := at_T37 HR0.out x8_1 q2 q3
       cases q5
       replace q0 := (HB.out.cell (World.block_lt_of_cell? w _ q0)).trans q0
       replace q1 := (HB.out.cell (World.block_lt_of_cell? w _ q1)).trans q1
       replace q2 := eq_true q2
       replace q3 := eq_true q3
       go_wp2_with (first | (go_at_call 77; (with_reducible refine (grids_point_1.calls ((rd_T37 l0 x8_1).f0) ((rd_T37 l0 x8_1).f1) true _ A6.out).mono ?_); rintro e w8 ⟨rfl, hb⟩; replace HB := bst HB hb; clear hb))
       go_ret
       exact rt HB
      ·replace c7 := Bool.eq_false_iff.mpr c7
       subst c7
       have H1 : ((some (wrap64 (x8_1 + 1))).bind fun q4 => (api_GrPoint_84.l0 k1 l0 (l0.length : Int) q4)) = some r := by rw [if_neg (show ¬ (false = true) by decide)] at H; exact H
       clear H
       have H := H1
       clear H1
       obtain ⟨q4, E90, H⟩ := oc H
       have E9w : (IntKind.i64.wrap (x8_1 + 1)) = q4 := (i64_w _).trans E90
       have H' := Aside0.mk H
       clear H
       have q2 : 0 ≤ (x8_1 : Int) := of_decide_eq_true (by first | (with_reducible assumption) | assumption)
       have q3 : x8_1 < (l0.length : Int) := of_decide_eq_true (by first | (with_reducible assumption) | assumption)
       obtain ⟨q7, q5, q0, q1⟩ := at_T37 HR0.out x8_1 q2 q3
       cases q5
       replace q0 := (HB.out.cell (World.block_lt_of_cell? w _ q0)).trans q0
       replace q1 := (HB.out.cell (World.block_lt_of_cell? w _ q1)).trans q1
       replace q2 := eq_true q2
       replace q3 := eq_true q3
       go_wp2_with (first | (go_at_call 77; (with_reducible refine (grids_point_1.calls ((rd_T37 l0 x8_1).f0) ((rd_T37 l0 x8_1).f1) false _ A6.out).mono ?_); rintro e w10 ⟨rfl, hb⟩; replace HB := bst HB hb; clear hb))
       go_roundg k1
       case measure => have := HK1.out; omega
       case rel => exact ⟨(q4), (by first | rfl | (simp; done) | (simp [*]; done)), H', ⟨by have := HK1.out; omega⟩, ⟨bnow HB⟩⟩
     ·rw [if_neg c5] at H
      exact absurd H (by simp)
    ·rw [if_neg c4] at H
     exact absurd H (by simp)
   ·rw [if_neg c3] at H
    have q8 : decide (x8_1 < (l0.length : Int)) = false := decide_eq_false c3
    clear c3
    obtain rfl := Option.some.inj H
    go_wp2
    go_ret
    exact rt HB
end
section
/-! ### api_GrPoint_76: function 76 -/
def api_GrPoint_76.f (k : Nat) (l0 : List (S37))  : Option (Bool) := (api_GrPoint_84.f k l0).bind fun q0 => (some (decide (q0 ≥ 0)))
theorem api_GrPoint_76.mono : ∀ a0 k, LeO (api_GrPoint_76.f k a0) (api_GrPoint_76.f (k + 1) a0) := by
 intro a0 k
 unfold api_GrPoint_76.f
 repeat' first
   | (with_reducible exact api_GrPoint_84.mono _ _)
   | (with_reducible exact LeO.refl _)
   | (with_reducible exact LeO.none _)
   | (with_reducible refine LeO.ite ?_ ?_)
   | (with_reducible refine LeO.bind ?_ (fun _ => ?_))
   | exact api_GrPoint_84.mono _ _
   | exact LeO.none _
   | refine LeO.ite ?_ ?_
   | refine LeO.bind ?_ (fun _ => ?_)
set_option maxHeartbeats 8000000 in
set_option maxRecDepth 100000 in
theorem api_GrPoint_76.calls (k : Nat) (A0 : Option Addr) (c0 : Nat) (l0 : List (S37))  (r : Bool) (w : World) (hr0 : Kd.C k37 w A0 l0.length l0) (hc0 : l0.length ≤ c0) (h : api_GrPoint_76.f k l0 = some r) :
  Calls Try.prog 76 #[.slice A0 l0.length c0, .func (.func 77) #[] #[]] w fun e w' => e = .returned (.bool r) ∧ Below w.heap.size w w' := by
 have HR0 := Aside0.mk hr0
 have HC0 := Aside0.mk hc0
 clear hr0 hc0
 have HB := Aside0.mk (Below.refl w.heap.size w)
 have H : ((api_GrPoint_84.f k l0).bind fun q0 => (some (decide (q0 ≥ 0)))) = some r := h
 clear h
 obtain ⟨q0, A3, H⟩ := ob H
 obtain rfl := Option.some.inj H
 go_enter Try.func76, Try.ntmps76
 go_wp2_with (first | ((with_reducible refine gate_callee (f := 84) rfl ?_); refine goesL_ (some 7) rfl rfl Try.func84 (by kernel_rfl) rfl #[.slice A0 l0.length c0, .func (.func 77) #[] #[]] rfl am ?_; (with_reducible refine (api_GrPoint_84.calls k _ _ l0  q0 _ ?side1 ?side2 A3.out).mono ?_); (case side1 => repeat (first | exact HR0.out | (with_reducible refine Kd.C_alloc ?_ _) | (with_reducible refine Kd.C_drewN ?_ _) | (with_reducible refine Kd.C_drew ?_))); (case side2 => exact HC0.out); rintro e w4 ⟨rfl, hb⟩; refine ⟨_, rfl, ?_⟩; replace HB := bst HB hb; clear hb))
 go_ret
 exact rt HB
end
section
/-! ### grids_point: function 49 -/
def grids_point.f (k : Nat) (l0 : List (S37)) : Option (Bool) := (api_GrPoint_76.f k l0).bind fun q0 => (some (!q0))
theorem grids_point.mono : ∀ a0 k, LeO (grids_point.f k a0) (grids_point.f (k + 1) a0) := by
 intro a0 k
 unfold grids_point.f
 repeat' first
   | (with_reducible exact api_GrPoint_76.mono _ _)
   | (with_reducible exact LeO.refl _)
   | (with_reducible exact LeO.none _)
   | (with_reducible refine LeO.ite ?_ ?_)
   | (with_reducible refine LeO.bind ?_ (fun _ => ?_))
   | exact api_GrPoint_76.mono _ _
   | exact LeO.none _
   | refine LeO.ite ?_ ?_
   | refine LeO.bind ?_ (fun _ => ?_)
set_option maxHeartbeats 8000000 in
set_option maxRecDepth 100000 in
theorem grids_point.calls (k : Nat) (A0 : Option Addr) (c0 : Nat) (l0 : List (S37)) (r : Bool) (w : World) (hr0 : Kd.C k37 w A0 l0.length l0) (hc0 : l0.length ≤ c0) (h : grids_point.f k l0 = some r) :
  Calls Try.prog 49 #[.slice A0 l0.length c0] w fun e w' => e = .returned (.bool r) ∧ Below w.heap.size w w' := by
 have HR0 := Aside0.mk hr0
 have HC0 := Aside0.mk hc0
 clear hr0 hc0
 have HB := Aside0.mk (Below.refl w.heap.size w)
 have H : ((api_GrPoint_76.f k l0).bind fun q0 => (some (!q0))) = some r := h
 clear h
 obtain ⟨q0, A2, H⟩ := ob H
 obtain rfl := Option.some.inj H
 go_enter Try.func49, Try.ntmps49
 go_wp2_with (first | ((with_reducible refine gate_callee (f := 76) rfl ?_); refine goesL_ (some 4) rfl rfl Try.func76 (by kernel_rfl) rfl #[.slice A0 l0.length c0, .func (.func 77) #[] #[]] rfl am ?_; (with_reducible refine (api_GrPoint_76.calls k _ _ l0  q0 _ ?side1 ?side2 A2.out).mono ?_); (case side1 => repeat (first | exact HR0.out | (with_reducible refine Kd.C_alloc ?_ _) | (with_reducible refine Kd.C_drewN ?_ _) | (with_reducible refine Kd.C_drew ?_))); (case side2 => exact HC0.out); rintro e w3 ⟨rfl, hb⟩; refine ⟨_, rfl, ?_⟩; replace HB := bst HB hb; clear hb))
 go_ret
 exact rt HB
end
section
/-! ### grids_to: function 50 -/
def grids_to.f (a0_0 : Int) (a0_1 : Int) (a1_0 : Int) (a1_1 : Int) : Option (Int × Int) := (some (wrap64 (a1_0 - a0_0))).bind fun q1 => ((some (wrap64 (a1_1 - a0_1))).bind fun q2 => (some (q1, q2)))
set_option maxHeartbeats 8000000 in
set_option maxRecDepth 100000 in
theorem grids_to.calls (a0_0 : Int) (a0_1 : Int) (a1_0 : Int) (a1_1 : Int) (r1 : Int) (r2 : Int) (w : World) (h : grids_to.f a0_0 a0_1 a1_0 a1_1 = some (r1, r2)) :
  Calls Try.prog 50 #[.agg #[.int .i64 a0_0, .int .i64 a0_1], .agg #[.int .i64 a1_0, .int .i64 a1_1]] w fun e w' => e = .returned (.agg #[.int .i64 r1, .int .i64 r2]) ∧ Below w.heap.size w w' := by
 have hu37 := Try.underlying37
 have hu81 := Try.underlying81
 have HB := Aside0.mk (Below.refl w.heap.size w)
 have H : ((some (wrap64 (a1_0 - a0_0))).bind fun q1 => ((some (wrap64 (a1_1 - a0_1))).bind fun q2 => (some (q1, q2)))) = some (r1, r2) := h
 clear h
 obtain ⟨q1, E30, H⟩ := oc H
 have E3w : (IntKind.i64.wrap (a1_0 - a0_0)) = q1 := (i64_w _).trans E30
 obtain ⟨q2, E40, H⟩ := oc H
 have E4w : (IntKind.i64.wrap (a1_1 - a0_1)) = q2 := (i64_w _).trans E40
 simp only [Option.some.injEq, Prod.mk.injEq] at H
 obtain ⟨rfl, rfl⟩ := H
 go_enter Try.func50, Try.ntmps50
 go_wp2_with (first | ((with_reducible refine gate_dst (N := 2) rfl ?_); refine bx 2 #[.int .i64 a0_0, .int .i64 a0_1] 37 fun qi hg w5 q0 hb => ?_; have qf := gw hg HB; have qc := gw hg HB; replace HB := bst HB hb; clear hb hg) | ((with_reducible refine gate_dst (N := 3) rfl ?_); refine bx 3 #[.int .i64 a1_0, .int .i64 a1_1] 37 fun qj hg w6 q3 hb => ?_; have qg := gw hg HB; have qd := gw hg HB; have q5 := nlt hg q0; have q7 := ngt hg q0; replace q0 := bb q0 hb; replace HB := bst HB hb; clear hb hg) | ((with_reducible refine gate_dst (N := 4) rfl ?_); refine bx 4 #[.int .i64 0, .int .i64 0] 81 fun qb hg w7 q4 hb => ?_; have qh := gw hg HB; have qe := gw hg HB; have q6 := nlt hg q0; have q9 := ngt hg q0; have q8 := nlt hg q3; have qa := ngt hg q3; replace q0 := bb q0 hb; replace q3 := bb q3 hb; replace HB := bst HB hb; clear hb hg; have qx := q7.out; have qA := q5.out; have qy := q8.out; have qB := qa.out; have ⟨qk, ql, qq, qr⟩ := cf2 q3; have qw := q6.out; have qz := q9.out; have ⟨qm, qn, qs, qt⟩ := cf2 q0; have ⟨qo, qp, qu, qv⟩ := cf2 q4))
 refine bodyPost_ret (results_cell_row rfl _ _ qb 81 #[.int .i64 q1, .int .i64 q2] (0, 0) _ rfl (by (with_reducible repeat (first | refine blk_drewN ?_ _ | refine blk_drew ?_ | refine blk_alloc ?_ _)); refine blk_put (cs := #[.int .i64 q1, .int .i64 0]) ?_ 1 _ rfl; (with_reducible repeat (first | refine blk_drewN ?_ _ | refine blk_drew ?_ | refine blk_alloc ?_ _)); refine blk_put (cs := #[.int .i64 0, .int .i64 0]) ?_ 0 _ rfl; (with_reducible repeat (first | refine blk_drewN ?_ _ | refine blk_drew ?_ | refine blk_alloc ?_ _)); exact q4.out) Try.underlying81 rfl (by kernel_rfl)) rfl ?_
 exact rt HB
end
section
/-! ### grids_Dot: function 56 -/
def grids_Dot.j0 : Nat → Bool → Int → Int → Int → Int → Int → Int → Int → Int → Int → Option (Int × Int)
 | 0, _, _, _, _, _, _, _, _, _, _ => none
 | k + 1, x20, x448000, x448001, x448002, x449000, x449001, x450000, x450001, x451000, x451001 => if x20 = true then (some (0, 2)) else ((grids_to.f x449000 x449001 x450000 x450001).bind fun q8 => ((grids_to.f x449000 x449001 x451000 x451001).bind fun q9 => ((grids_step_product.f q8.1 q8.2 x448000 x448001 x448002 q9.1 q9.2).bind fun qb => (some (qb, 0)))))
def grids_Dot.f (k : Nat) (a0_0 : Int) (a0_1 : Int) (a0_2 : Int) (a1_0 : Int) (a1_1 : Int) (a2_0 : Int) (a2_1 : Int) (a3_0 : Int) (a3_1 : Int) : Option (Int × Int) := (grids_Check.f k a0_0 a0_1 a0_2).bind fun q4 => (if q4 = 0 then ((grids_point.f k (([(⟨a1_0, a1_1⟩ : S37), (⟨a2_0, a2_1⟩ : S37), (⟨a3_0, a3_1⟩ : S37)] : List (S37)))).bind fun q5 => (grids_Dot.j0 k (!q5) a0_0 a0_1 a0_2 a1_0 a1_1 a2_0 a2_1 a3_0 a3_1)) else (grids_Dot.j0 k true a0_0 a0_1 a0_2 a1_0 a1_1 a2_0 a2_1 a3_0 a3_1))
theorem grids_Dot.mono_l : ∀ k, (∀ y0 y1 y2 y3 y4 y5 y6 y7 y8 y9, LeO (grids_Dot.j0 k y0 y1 y2 y3 y4 y5 y6 y7 y8 y9) (grids_Dot.j0 (k + 1) y0 y1 y2 y3 y4 y5 y6 y7 y8 y9))
 | 0 => fun _ _ _ _ _ _ _ _ _ _ r h => by simp [grids_Dot.j0] at h
 | k + 1 => by
  have ih0 := grids_Dot.mono_l k
  ·intro y0 y1 y2 y3 y4 y5 y6 y7 y8 y9
   unfold grids_Dot.j0
   repeat' first
   | (with_reducible exact ih0 _ _ _ _ _ _ _ _ _ _)
   | (with_reducible exact grids_Check.mono _ _ _ _)
   | (with_reducible exact grids_point.mono _ _)
   | (with_reducible exact LeO.refl _)
   | (with_reducible exact LeO.none _)
   | (with_reducible refine LeO.ite ?_ ?_)
   | (with_reducible refine LeO.bind ?_ (fun _ => ?_))
   | exact ih0 _ _ _ _ _ _ _ _ _ _
   | exact grids_Check.mono _ _ _ _
   | exact grids_point.mono _ _
   | exact LeO.none _
   | refine LeO.ite ?_ ?_
   | refine LeO.bind ?_ (fun _ => ?_)
theorem grids_Dot.mono : ∀ a0 a1 a2 a3 a4 a5 a6 a7 a8 k, LeO (grids_Dot.f k a0 a1 a2 a3 a4 a5 a6 a7 a8) (grids_Dot.f (k + 1) a0 a1 a2 a3 a4 a5 a6 a7 a8) := by
 intro a0 a1 a2 a3 a4 a5 a6 a7 a8 k
 have ih0 := grids_Dot.mono_l k
 unfold grids_Dot.f
 repeat' first
   | (with_reducible exact ih0 _ _ _ _ _ _ _ _ _ _)
   | (with_reducible exact grids_Check.mono _ _ _ _)
   | (with_reducible exact grids_point.mono _ _)
   | (with_reducible exact LeO.refl _)
   | (with_reducible exact LeO.none _)
   | (with_reducible refine LeO.ite ?_ ?_)
   | (with_reducible refine LeO.bind ?_ (fun _ => ?_))
   | exact ih0 _ _ _ _ _ _ _ _ _ _
   | exact grids_Check.mono _ _ _ _
   | exact grids_point.mono _ _
   | exact LeO.none _
   | refine LeO.ite ?_ ?_
   | refine LeO.bind ?_ (fun _ => ?_)
def grids_Dot.T3 : Bool × List (List Nat × List Nat) := (true, [([], []), ([], []), ([0, 1], [0, 1]), ([], []), ([], []), ([], []), ([4, 5, 2], [4, 5]), ([2, 3, 6, 6], [2, 3, 6]), ([7, 7, 0, 1, 2, 3, 4, 5, 6, 7], [7]), ([8, 0, 1, 2, 3, 4, 5, 6, 7, 8], [])])
def grids_Dot.B3 : List Nat := [0, 0, 3, 0, 0, 0, 55, 127, 255, 511]
theorem grids_Dot.tab3 : rtab .any (opsOf Try.f56 3) = grids_Dot.T3 := by kernel_rfl
theorem grids_Dot.bits3 : waitsOk grids_Dot.T3.2 grids_Dot.B3 = true := by kernel_rfl
set_option maxHeartbeats 8000000 in
set_option maxRecDepth 100000 in
theorem grids_Dot.calls (k : Nat) (a0_0 : Int) (a0_1 : Int) (a0_2 : Int) (a1_0 : Int) (a1_1 : Int) (a2_0 : Int) (a2_1 : Int) (a3_0 : Int) (a3_1 : Int) (r1 : Int) (r2 : Int) (w : World) (h : grids_Dot.f k a0_0 a0_1 a0_2 a1_0 a1_1 a2_0 a2_1 a3_0 a3_1 = some (r1, r2)) :
  Calls Try.prog 56 #[.agg #[.int .i64 a0_0, .int .i64 a0_1, .int .i64 a0_2], .agg #[.int .i64 a1_0, .int .i64 a1_1], .agg #[.int .i64 a2_0, .int .i64 a2_1], .agg #[.int .i64 a3_0, .int .i64 a3_1]] w fun e w' => e = .returned (.tuple #[.int .i64 r1, .int .i64 r2]) ∧ Below w.heap.size w w' := by
 have hu23 := Try.underlying23
 have hu37 := Try.underlying37
 have HB := Aside0.mk (Below.refl w.heap.size w)
 have H : ((grids_Check.f k a0_0 a0_1 a0_2).bind fun q4 => (if q4 = 0 then ((grids_point.f k (([(⟨a1_0, a1_1⟩ : S37), (⟨a2_0, a2_1⟩ : S37), (⟨a3_0, a3_1⟩ : S37)] : List (S37)))).bind fun q5 => (grids_Dot.j0 k (!q5) a0_0 a0_1 a0_2 a1_0 a1_1 a2_0 a2_1 a3_0 a3_1)) else (grids_Dot.j0 k true a0_0 a0_1 a0_2 a1_0 a1_1 a2_0 a2_1 a3_0 a3_1))) = some (r1, r2) := h
 clear h
 have HC5 := Aside0.mk H
 clear H
 go_enter Try.func56, Try.ntmps56
 go_upto_region 1 with (first | ((with_reducible refine gate_dst (N := 4) rfl ?_); (try (refine gate_guard (by rfl) ?_; dsimp only)); refine bx 4 #[.int .i64 a0_0, .int .i64 a0_1, .int .i64 a0_2] 23 fun qc hg w6 q0 hb => ?_; have j2 := gw hg HB; have qY := gw hg HB; replace HB := bst HB hb; clear hb hg) | ((with_reducible refine gate_dst (N := 5) rfl ?_); (try (refine gate_guard (by rfl) ?_; dsimp only)); refine bx 5 #[.int .i64 a1_0, .int .i64 a1_1] 37 fun qd hg w7 q1 hb => ?_; have j3 := gw hg HB; have qZ := gw hg HB; have qg := nlt hg q0; have qj := ngt hg q0; replace q0 := bb q0 hb; replace HB := bst HB hb; clear hb hg) | ((with_reducible refine gate_dst (N := 6) rfl ?_); (try (refine gate_guard (by rfl) ?_; dsimp only)); refine bx 6 #[.int .i64 a2_0, .int .i64 a2_1] 37 fun qe hg w8 q2 hb => ?_; have j4 := gw hg HB; have j0 := gw hg HB; have qh := nlt hg q0; have qk := ngt hg q0; have qs := nlt hg q1; have qu := ngt hg q1; replace q0 := bb q0 hb; replace q1 := bb q1 hb; replace HB := bst HB hb; clear hb hg) | ((with_reducible refine gate_dst (N := 7) rfl ?_); (try (refine gate_guard (by rfl) ?_; dsimp only)); refine bx 7 #[.int .i64 a3_0, .int .i64 a3_1] 37 fun qf hg w9 q3 hb => ?_; have j5 := gw hg HB; have j1 := gw hg HB; have qi := nlt hg q0; have ql := ngt hg q0; have qt := nlt hg q1; have qw := ngt hg q1; have qv := nlt hg q2; have qx := ngt hg q2; replace q0 := bb q0 hb; replace q1 := bb q1 hb; replace q2 := bb q2 hb; replace HB := bst HB hb; clear hb hg))
 (try simp only [Act.put, List.setIfInBounds_toArray, List.set_cons_zero, List.set_cons_succ])
 go_cut [20] (fun v20 wc => ∃ (kq : Nat) (x20_4 : Bool), v20 = .bool x20_4 ∧ Aside0 (grids_Dot.j0 kq x20_4 a0_0 a0_1 a0_2 a1_0 a1_1 a2_0 a2_1 a3_0 a3_1 = some (r1, r2)) ∧ Aside0 (kq ≤ k) ∧ Aside0 (wc.heap[qc]? = some (.cells #[.int .i64 a0_0, .int .i64 a0_1, .int .i64 a0_2] 23 (0, 0))) ∧ Aside0 (wc.heap[qd]? = some (.cells #[.int .i64 a1_0, .int .i64 a1_1] 37 (0, 0))) ∧ Aside0 (wc.heap[qe]? = some (.cells #[.int .i64 a2_0, .int .i64 a2_1] 37 (0, 0))) ∧ Aside0 (wc.heap[qf]? = some (.cells #[.int .i64 a3_0, .int .i64 a3_1] 37 (0, 0))) ∧ Aside0 (Below w.heap.size w wc))
 case first =>
  have H := HC5.out
  clear HC5
  obtain ⟨q4, A10, H⟩ := ob H
  by_cases c11 : q4 = 0
  ·rw [if_pos c11] at H
   have q6 : (q4 == 0) = true := beq_iff_eq.mpr c11
   have qm : (q4 != 0) = false := bne_eq_false_iff_eq.mpr c11
   clear c11
   (first | rw [q6] | (simp only [i64_w, i32_w]; rw [q6]) | skip)
   obtain ⟨qr, hy452⟩ : ∃ y_ : List (S37), y_ = (([(⟨a1_0, a1_1⟩ : S37), (⟨a2_0, a2_1⟩ : S37), (⟨a3_0, a3_1⟩ : S37)] : List (S37))) := ⟨_, rfl⟩
   replace H : ((grids_point.f k qr).bind fun q5 => (grids_Dot.j0 k (!q5) a0_0 a0_1 a0_2 a1_0 a1_1 a2_0 a2_1 a3_0 a3_1)) = some (r1, r2) := by first | (rw [hy452]; with_reducible exact H) | (have H2_ := (Option.bind_some _ _).symm.trans H; rw [hy452]; with_reducible exact H2_) | (have H2_ := (Option.bind_some _ _).symm.trans H; with_reducible exact H2_) | with_reducible exact H | (rw [hy452]; exact H) | exact H
   have Ny452 := Aside0.mk hy452
   clear hy452
   obtain ⟨q5, A12, H⟩ := ob H
   have H' := Aside0.mk H
   clear H
   have j7 := qg.out
   have jg := qj.out
   have j8 := qh.out
   have jh := qk.out
   have j9 := qi.out
   have ji := ql.out
   have ⟨qz, qA, qB, qL, qM, qN⟩ := cf3 q0
   go_wp2_with (first | ((with_reducible refine gate_callee (f := 14) rfl ?_); refine gl 11 Try.func14 (grids_Check.calls k a0_0 a0_1 a0_2 q4 _ A10.out) ?_; rintro e w17 ⟨rfl, hb⟩; refine ⟨_, rfl, ?_⟩; replace q0 := bb q0 hb; replace q1 := bb q1 hb; replace q2 := bb q2 hb; replace q3 := bb q3 hb; replace HB := bst HB hb; clear hb; have ja := qs.out; have jj := qu.out; have jb := qt.out; have jk := qw.out; have ⟨qC, qD, qO, qP⟩ := cf2 q1; have jc := qv.out; have jl := qx.out; have ⟨qE, qF, qQ, qR⟩ := cf2 q2; have ⟨qG, qH, qS, qT⟩ := cf2 q3) | ((with_reducible refine gate_dst (N := 17) rfl ?_); (try (refine gate_guard (by rfl) ?_; dsimp only)); refine Kd.R_lit k37 _ 37 ?hg (N := 17) ?hd (xs := ([(⟨a1_0, a1_1⟩ : S37), (⟨a2_0, a2_1⟩ : S37), (⟨a3_0, a3_1⟩ : S37)] : List (S37))) (inner := [.int .i64 a1_0, .int .i64 a1_1, .int .i64 a2_0, .int .i64 a2_1, .int .i64 a3_0, .int .i64 a3_1]) (ok := fun _ => True) (okp := fun _ => True) ?hr ?hp (fun _ hk => hk) trivial (Below.refl _ _) (Nat.le_refl _) (by simp) ?_; (case hd => rfl); (case hg => rfl); (case hr => first | (go_simp; done) | (go_simp; rfl)); (case hp => exact (Reps.c2 (show Kd.M k37 _ _ _ (⟨a1_0, a1_1⟩ : S37) [.int .i64 a1_0, .int .i64 a1_1] from (k37_mkM _ _ _ (⟨a1_0, a1_1⟩ : S37) )) (Reps.c2 (show Kd.M k37 _ _ _ (⟨a2_0, a2_1⟩ : S37) [.int .i64 a2_0, .int .i64 a2_1] from (k37_mkM _ _ _ (⟨a2_0, a2_1⟩ : S37) )) (Reps.c2 (show Kd.M k37 _ _ _ (⟨a3_0, a3_1⟩ : S37) [.int .i64 a3_0, .int .i64 a3_1] from (k37_mkM _ _ _ (⟨a3_0, a3_1⟩ : S37) )) (Reps.none _ _))))); intro v453 w24 qa hb hg_ hnew_; clear hg_ hnew_; (first | rw [← Ny452.out] at qa | (simp only [Int.reduceToNat] at qa; rw [← Ny452.out] at qa)); have q7 := Aside0.mk (Kd.R_lower (Kd.R_newB (Kd.R_newB (Kd.R_newB qa (g := qd) (o := .cells #[.int .i64 a1_0, .int .i64 a1_1] 37 (0, 0)) (pk q1)) (g := qe) (o := .cells #[.int .i64 a2_0, .int .i64 a2_1] 37 (0, 0)) (pk q2)) (g := qf) (o := .cells #[.int .i64 a3_0, .int .i64 a3_1] 37 (0, 0)) (pk q3)) (below_size (bnow HB))); replace q0 := bb q0 hb; replace q1 := bb q1 hb; replace q2 := bb q2 hb; replace q3 := bb q3 hb; replace HB := bst HB hb; clear hb qa; obtain ⟨qX, j6, qy⟩ := Kd.R_slice q7.out; subst qy) | (go_at_call 49; (with_reducible refine (grids_point.calls k _ _ qr q5 _ ?side1 ?side2 A12.out).mono ?_); (case side1 => repeat (first | exact (Kd.R_reads' q7.out).2.2 | (with_reducible refine Kd.C_alloc ?_ _) | (with_reducible refine Kd.C_drewN ?_ _) | (with_reducible refine Kd.C_drew ?_))); (case side2 => exact (Kd.R_reads' q7.out).2.1); rintro e w27 ⟨rfl, hb⟩; replace q7 := Aside0.mk (Kd.R_below (by (with_reducible repeat (first | apply Kd.R_alloc | apply Kd.R_drewN | apply Kd.R_drew)); exact q7.out) hb); replace q0 := bb q0 hb; replace q1 := bb q1 hb; replace q2 := bb q2 hb; replace q3 := bb q3 hb; replace HB := bst HB hb; (try clear hb); (try clear hb2); (try clear hk); (try clear hi)))
   go_meet
   case rel => exact ⟨_, (!q5), (by first | rfl | (simp; done) | (simp [*]; done)), H', ⟨by first | omega | exact Nat.le_refl _⟩, ⟨pk q0⟩, ⟨pk q1⟩, ⟨pk q2⟩, ⟨pk q3⟩, ⟨bnow HB⟩⟩
  ·rw [if_neg c11] at H
   have q6 : (q4 == 0) = false := beq_eq_false_iff_ne.mpr c11
   have qm : (q4 != 0) = true := bne_iff_ne.mpr c11
   (first | rw [q6] | (simp only [i64_w, i32_w]; rw [q6]) | skip)
   have H' := Aside0.mk H
   clear H
   have jd := qg.out
   have jm := qj.out
   have je := qh.out
   have jn := qk.out
   have jf := qi.out
   have jo := ql.out
   have ⟨qI, qJ, qK, qU, qV, qW⟩ := cf3 q0
   go_wp2_with (first | ((with_reducible refine gate_callee (f := 14) rfl ?_); refine gl 11 Try.func14 (grids_Check.calls k a0_0 a0_1 a0_2 q4 _ A10.out) ?_; rintro e w32 ⟨rfl, hb⟩; refine ⟨_, rfl, ?_⟩; replace q0 := bb q0 hb; replace q1 := bb q1 hb; replace q2 := bb q2 hb; replace q3 := bb q3 hb; replace HB := bst HB hb; clear hb))
   go_meet
   case rel => exact ⟨_, (true), (by first | rfl | (simp; done) | (simp [*]; done)), H', ⟨by first | omega | exact Nat.le_refl _⟩, ⟨pk q0⟩, ⟨pk q1⟩, ⟨pk q2⟩, ⟨pk q3⟩, ⟨bnow HB⟩⟩
 case rest =>
  clear HC5
  try clear c1; try clear c2; try clear p2; try clear c3; try clear c5; try clear c11; try clear q6; try clear qm; try clear c13; try clear c14; try clear c15; try clear c18; try clear c19; try clear c21; try clear c28; try clear c29; try clear c30; try clear qz; try clear qA; try clear qB; try clear qC; try clear qD; try clear qE; try clear qF; try clear qG; try clear qH; try clear qI; try clear qJ; try clear qK; try clear qL; try clear qM; try clear qN; try clear qO; try clear qP; try clear qQ; try clear qR; try clear qS; try clear qT; try clear qU; try clear qV; try clear qW
  obtain ⟨kq, x20_4, rfl, HA, HJ4, q0, q1, q2, q3, HB⟩ := hcut
  cases kq with
  | zero => exact absurd HA.out (by simp [grids_Dot.j0])
  | succ kj4 =>
   have H := HA.out
   clear HA
   simp only [grids_Dot.j0] at H
   by_cases c33 : x20_4 = true
   ·subst c33
    have H1 : (some (0, 2)) = some (r1, r2) := by rw [if_pos rfl] at H; exact H
    clear H
    have H := H1
    clear H1
    simp only [Option.some.injEq, Prod.mk.injEq] at H
    obtain ⟨rfl, rfl⟩ := H
    go_wp2
    go_ret2
    exact rt HB
   ·replace c33 := Bool.eq_false_iff.mpr c33
    subst c33
    have H1 : ((grids_to.f a1_0 a1_1 a2_0 a2_1).bind fun q8 => ((grids_to.f a1_0 a1_1 a3_0 a3_1).bind fun q9 => ((grids_step_product.f q8.1 q8.2 a0_0 a0_1 a0_2 q9.1 q9.2).bind fun qb => (some (qb, 0))))) = some (r1, r2) := by rw [if_neg (show ¬ (false = true) by decide)] at H; exact H
    clear H
    have H := H1
    clear H1
    obtain ⟨⟨qn, qo⟩, A34, H⟩ := ob H
    obtain ⟨⟨qp, qq⟩, A35, H⟩ := ob H
    obtain ⟨qb, A36, H⟩ := ob H
    simp only [Option.some.injEq, Prod.mk.injEq] at H
    obtain ⟨rfl, rfl⟩ := H
    try go_wp2
    replace q0 := bd q0
    replace q1 := bd q1
    replace q2 := bd q2
    replace q3 := bd q3
    replace HB := bdn HB
    refine start_ (n := 10) (S := fun w' => w'.cell? ⟨qd, 0, none⟩ = some (.int .i64 a1_0) ∧ w'.cell? ⟨qd, 1, none⟩ = some (.int .i64 a1_1) ∧ w'.cell? ⟨qe, 0, none⟩ = some (.int .i64 a2_0) ∧ w'.cell? ⟨qe, 1, none⟩ = some (.int .i64 a2_1) ∧ w'.cell? ⟨qc, 0, none⟩ = some (.int .i64 a0_0) ∧ w'.cell? ⟨qc, 1, none⟩ = some (.int .i64 a0_1) ∧ w'.cell? ⟨qc, 2, none⟩ = some (.int .i64 a0_2) ∧ w'.cell? ⟨qf, 0, none⟩ = some (.int .i64 a3_0) ∧ w'.cell? ⟨qf, 1, none⟩ = some (.int .i64 a3_1)) (ds := []) #[false, false, false, false, false, false, false, false, false, false] (by kernel_rfl) rfl rfl ⟨(blk_cell q1.out 0).trans rfl, (blk_cell q1.out 1).trans rfl, (blk_cell q2.out 0).trans rfl, (blk_cell q2.out 1).trans rfl, (blk_cell q0.out 0).trans rfl, (blk_cell q0.out 1).trans rfl, (blk_cell q0.out 2).trans rfl, (blk_cell q3.out 0).trans rfl, (blk_cell q3.out 1).trans rfl⟩ (fun hHeld => ?_); refine with_tabW grids_Dot.tab3 grids_Dot.bits3 (fun HT_ HW_ => ?_)
    generalize wc.drew = w37 at q0 q1 q2 q3 HB hHeld ⊢
    refine tz 0 21 HT_ HW_ hHeld ?_
    refine tz 1 22 HT_ HW_ hHeld ?_
    refine tz 3 24 HT_ HW_ hHeld ?_
    refine tz 4 25 HT_ HW_ hHeld ?_
    refine tz 5 26 HT_ HW_ hHeld ?_
    refine one_ (i := 2) (N := some 23) #[true, true, true, true, true, true, false, false, false, false] rfl rfl (one_of HT_.out (by kernel_rfl)) (by decide) (fun K hK => ?_)
    refine gs _ Try.func50 (grids_to.calls a1_0 a1_1 a2_0 a2_1 qn qo _ A34.out) ?_
    rintro e w38 ⟨rfl, hb⟩
    refine ⟨_, rfl, ?_⟩
    replace q0 := bb q0 hb
    replace q1 := bb q1 hb
    replace q2 := bb q2 hb
    replace q3 := bb q3 hb
    replace HB := bst HB hb
    (try clear hb)
    (try clear hb2)
    (try clear hk)
    (try clear hi)
    refine hK.out _ _ ⟨(blk_cell q1.out 0).trans rfl, (blk_cell q1.out 1).trans rfl, (blk_cell q2.out 0).trans rfl, (blk_cell q2.out 1).trans rfl, (blk_cell q0.out 0).trans rfl, (blk_cell q0.out 1).trans rfl, (blk_cell q0.out 2).trans rfl, (blk_cell q3.out 0).trans rfl, (blk_cell q3.out 1).trans rfl⟩ (fun hHeld => ?_)
    clear hK K
    refine norm_ (a' := ?_) ?_ ?_
    rotate_left
    ·show Act.put _ (some 23) _ = _
     simp only [Act.put, List.setIfInBounds_toArray, List.set_cons_zero, List.set_cons_succ, i64_w, i32_w]
     rfl
    refine one_ (i := 6) (N := some 27) #[true, true, true, true, true, true, true, false, false, false] rfl rfl (one_of HT_.out (by kernel_rfl)) (by decide) (fun K hK => ?_)
    refine gs _ Try.func50 (grids_to.calls a1_0 a1_1 a3_0 a3_1 qp qq _ A35.out) ?_
    rintro e w39 ⟨rfl, hb⟩
    refine ⟨_, rfl, ?_⟩
    replace q0 := bb q0 hb
    replace q1 := bb q1 hb
    replace q2 := bb q2 hb
    replace q3 := bb q3 hb
    replace HB := bst HB hb
    (try clear hb)
    (try clear hb2)
    (try clear hk)
    (try clear hi)
    refine hK.out _ _ ⟨(blk_cell q1.out 0).trans rfl, (blk_cell q1.out 1).trans rfl, (blk_cell q2.out 0).trans rfl, (blk_cell q2.out 1).trans rfl, (blk_cell q0.out 0).trans rfl, (blk_cell q0.out 1).trans rfl, (blk_cell q0.out 2).trans rfl, (blk_cell q3.out 0).trans rfl, (blk_cell q3.out 1).trans rfl⟩ (fun hHeld => ?_)
    clear hK K
    refine norm_ (a' := ?_) ?_ ?_
    rotate_left
    ·show Act.put _ (some 27) _ = _
     simp only [Act.put, List.setIfInBounds_toArray, List.set_cons_zero, List.set_cons_succ, i64_w, i32_w]
     rfl
    refine one_ (i := 7) (N := some 28) #[true, true, true, true, true, true, true, true, false, false] rfl rfl (one_of HT_.out (by kernel_rfl)) (by decide) (fun K hK => ?_)
    refine gs _ Try.func80 (grids_step_product.calls qn qo a0_0 a0_1 a0_2 qp qq qb _ A36.out) ?_
    rintro e w40 ⟨rfl, hb⟩
    refine ⟨_, rfl, ?_⟩
    replace q0 := bb q0 hb
    replace q1 := bb q1 hb
    replace q2 := bb q2 hb
    replace q3 := bb q3 hb
    replace HB := bst HB hb
    (try clear hb)
    (try clear hb2)
    (try clear hk)
    (try clear hi)
    refine hK.out _ _ ⟨(blk_cell q1.out 0).trans rfl, (blk_cell q1.out 1).trans rfl, (blk_cell q2.out 0).trans rfl, (blk_cell q2.out 1).trans rfl, (blk_cell q0.out 0).trans rfl, (blk_cell q0.out 1).trans rfl, (blk_cell q0.out 2).trans rfl, (blk_cell q3.out 0).trans rfl, (blk_cell q3.out 1).trans rfl⟩ (fun hHeld => ?_)
    clear hK K
    refine norm_ (a' := ?_) ?_ ?_
    rotate_left
    ·show Act.put _ (some 28) _ = _
     simp only [Act.put, List.setIfInBounds_toArray, List.set_cons_zero, List.set_cons_succ, i64_w, i32_w]
     rfl
    refine pz 8 8 HT_ ?_
    refine pz 9 9 HT_ ?_
    refine done_ (done_of HT_.out (by kernel_rfl)) ?_
    try go_wp2
    go_ret2
    exact rt HB
end
section
/-! ### grids_Square: function 20 -/
def grids_Square.f (k : Nat) (a0_0 : Int) (a0_1 : Int) (a0_2 : Int) (a1_0 : Int) (a1_1 : Int) (a2_0 : Int) (a2_1 : Int) : Option (Int × Int) := (grids_Dot.f k a0_0 a0_1 a0_2 a1_0 a1_1 a2_0 a2_1 a2_0 a2_1).bind fun q2 => (some (q2.1, q2.2))
theorem grids_Square.mono : ∀ a0 a1 a2 a3 a4 a5 a6 k, LeO (grids_Square.f k a0 a1 a2 a3 a4 a5 a6) (grids_Square.f (k + 1) a0 a1 a2 a3 a4 a5 a6) := by
 intro a0 a1 a2 a3 a4 a5 a6 k
 unfold grids_Square.f
 repeat' first
   | (with_reducible exact grids_Dot.mono _ _ _ _ _ _ _ _ _ _)
   | (with_reducible exact LeO.refl _)
   | (with_reducible exact LeO.none _)
   | (with_reducible refine LeO.ite ?_ ?_)
   | (with_reducible refine LeO.bind ?_ (fun _ => ?_))
   | exact grids_Dot.mono _ _ _ _ _ _ _ _ _ _
   | exact LeO.none _
   | refine LeO.ite ?_ ?_
   | refine LeO.bind ?_ (fun _ => ?_)
set_option maxHeartbeats 8000000 in
set_option maxRecDepth 100000 in
theorem grids_Square.calls (k : Nat) (a0_0 : Int) (a0_1 : Int) (a0_2 : Int) (a1_0 : Int) (a1_1 : Int) (a2_0 : Int) (a2_1 : Int) (r1 : Int) (r2 : Int) (w : World) (h : grids_Square.f k a0_0 a0_1 a0_2 a1_0 a1_1 a2_0 a2_1 = some (r1, r2)) :
  Calls Try.prog 20 #[.agg #[.int .i64 a0_0, .int .i64 a0_1, .int .i64 a0_2], .agg #[.int .i64 a1_0, .int .i64 a1_1], .agg #[.int .i64 a2_0, .int .i64 a2_1]] w fun e w' => e = .returned (.tuple #[.int .i64 r1, .int .i64 r2]) ∧ Below w.heap.size w w' := by
 have hu23 := Try.underlying23
 have hu37 := Try.underlying37
 have HB := Aside0.mk (Below.refl w.heap.size w)
 have H : ((grids_Dot.f k a0_0 a0_1 a0_2 a1_0 a1_1 a2_0 a2_1 a2_0 a2_1).bind fun q2 => (some (q2.1, q2.2))) = some (r1, r2) := h
 clear h
 obtain ⟨⟨qa, qb⟩, A4, H⟩ := ob H
 simp only [Option.some.injEq, Prod.mk.injEq] at H
 obtain ⟨rfl, rfl⟩ := H
 go_enter Try.func20, Try.ntmps20
 go_wp2_with (first | ((with_reducible refine gate_dst (N := 3) rfl ?_); refine bx 3 #[.int .i64 a0_0, .int .i64 a0_1, .int .i64 a0_2] 23 fun qi hg w5 q0 hb => ?_; have qf := gw hg HB; have qc := gw hg HB; replace HB := bst HB hb; clear hb hg) | ((with_reducible refine gate_dst (N := 4) rfl ?_); refine bx 4 #[.int .i64 a1_0, .int .i64 a1_1] 37 fun qj hg w6 q1 hb => ?_; have qg := gw hg HB; have qd := gw hg HB; have q4 := nlt hg q0; have q6 := ngt hg q0; replace q0 := bb q0 hb; replace HB := bst HB hb; clear hb hg) | ((with_reducible refine gate_dst (N := 5) rfl ?_); refine bx 5 #[.int .i64 a2_0, .int .i64 a2_1] 37 fun qk hg w7 q3 hb => ?_; have qh := gw hg HB; have qe := gw hg HB; have q5 := nlt hg q0; have q8 := ngt hg q0; have q7 := nlt hg q1; have q9 := ngt hg q1; replace q0 := bb q0 hb; replace q1 := bb q1 hb; replace HB := bst HB hb; clear hb hg; have qA := q4.out; have qD := q6.out; have qB := q5.out; have qE := q8.out; have ⟨ql, qm, qn, qs, qt, qu⟩ := cf3 q0; have qz := q7.out; have qC := q9.out; have ⟨qo, qp, qv, qw⟩ := cf2 q1; have ⟨qq, qr, qx, qy⟩ := cf2 q3) | ((with_reducible refine gate_callee (f := 56) rfl ?_); refine gl 12 Try.func56 (grids_Dot.calls k a0_0 a0_1 a0_2 a1_0 a1_1 a2_0 a2_1 a2_0 a2_1 qa qb _ A4.out) ?_; rintro e w14 ⟨rfl, hb⟩; refine ⟨_, rfl, ?_⟩; replace q0 := bb q0 hb; replace q1 := bb q1 hb; replace q3 := bb q3 hb; replace HB := bst HB hb; clear hb))
 go_ret2
 exact rt HB
end
section
/-! ### cmp_isNaN_int64: function 79 -/
def cmp_isNaN_int64.f (a0 : Int) : Option (Bool) := some (a0 != a0)
set_option maxHeartbeats 8000000 in
set_option maxRecDepth 100000 in
theorem cmp_isNaN_int64.calls (a0 : Int) (r : Bool) (w : World) (h : cmp_isNaN_int64.f a0 = some r) :
  Calls Try.prog 79 #[.int .i64 a0] w fun e w' => e = .returned (.bool r) ∧ Drawn0 w w' := by
 have H : (some (a0 != a0)) = some r := h
 clear h
 obtain rfl := Option.some.inj H
 go_enter Try.func79, Try.ntmps79
 go_wp2
 go_ret
 exact ⟨by first | rfl | (simp; done) | (simp [*]; done), by repeat (first | exact Drawn0.refl _ | apply Drawn0.step)⟩
end
section
/-! ### cmp_Compare_int64: function 54 -/
def cmp_Compare_int64.f (a0 : Int) (a1 : Int) : Option (Int) := (cmp_isNaN_int64.f a0).bind fun q1 => ((cmp_isNaN_int64.f a1).bind fun q0 => (if q1 = true then (if q0 = true then (some 0) else (some (-1))) else (if q0 = true then (some 1) else (if a0 < a1 then (some (-1)) else (if a0 > a1 then (some 1) else (some 0))))))
set_option maxHeartbeats 8000000 in
set_option maxRecDepth 100000 in
theorem cmp_Compare_int64.calls (a0 : Int) (a1 : Int) (r : Int) (w : World) (h : cmp_Compare_int64.f a0 a1 = some r) :
  Calls Try.prog 54 #[.int .i64 a0, .int .i64 a1] w fun e w' => e = .returned (.int .i64 r) ∧ Drawn0 w w' := by
 have H : ((cmp_isNaN_int64.f a0).bind fun q1 => ((cmp_isNaN_int64.f a1).bind fun q0 => (if q1 = true then (if q0 = true then (some 0) else (some (-1))) else (if q0 = true then (some 1) else (if a0 < a1 then (some (-1)) else (if a0 > a1 then (some 1) else (some 0))))))) = some r := h
 clear h
 obtain ⟨q1, A3, H⟩ := ob H
 obtain ⟨q0, A4, H⟩ := ob H
 by_cases c5 : q1 = true
 ·subst c5
  have H1 : (if q0 = true then (some 0) else (some (-1))) = some r := by rw [if_pos rfl] at H; exact H
  clear H
  have H := H1
  clear H1
  by_cases c6 : q0 = true
  ·subst c6
   have H1 : (some 0) = some r := by rw [if_pos rfl] at H; exact H
   clear H
   have H := H1
   clear H1
   obtain rfl := Option.some.inj H
   go_enter Try.func54, Try.ntmps54
   go_wp2_with (first | ((with_reducible refine gate_callee (f := 79) rfl ?_); refine goesL_ (some 8) rfl rfl Try.func79 (by kernel_rfl) rfl #[.int .i64 a0] rfl am ?_; (with_reducible refine (cmp_isNaN_int64.calls a0 true _ A3.out).mono ?_); rintro e w' ⟨rfl, ⟨nd, rfl⟩⟩; refine ⟨_, rfl, ?_⟩) | ((with_reducible refine gate_callee (f := 79) rfl ?_); refine goesL_ (some 10) rfl rfl Try.func79 (by kernel_rfl) rfl #[.int .i64 a1] rfl am ?_; (with_reducible refine (cmp_isNaN_int64.calls a1 true _ A4.out).mono ?_); rintro e w' ⟨rfl, ⟨nd, rfl⟩⟩; refine ⟨_, rfl, ?_⟩))
   go_ret
   exact ⟨by first | rfl | (simp; done) | (simp [*]; done), by repeat (first | exact Drawn0.refl _ | apply Drawn0.step)⟩
  ·replace c6 := Bool.eq_false_iff.mpr c6
   subst c6
   have H1 : (some (-1)) = some r := by rw [if_neg (show ¬ (false = true) by decide)] at H; exact H
   clear H
   have H := H1
   clear H1
   obtain rfl := Option.some.inj H
   go_enter Try.func54, Try.ntmps54
   go_wp2_with (first | ((with_reducible refine gate_callee (f := 79) rfl ?_); refine goesL_ (some 8) rfl rfl Try.func79 (by kernel_rfl) rfl #[.int .i64 a0] rfl am ?_; (with_reducible refine (cmp_isNaN_int64.calls a0 true _ A3.out).mono ?_); rintro e w' ⟨rfl, ⟨nd, rfl⟩⟩; refine ⟨_, rfl, ?_⟩) | ((with_reducible refine gate_callee (f := 79) rfl ?_); refine goesL_ (some 10) rfl rfl Try.func79 (by kernel_rfl) rfl #[.int .i64 a1] rfl am ?_; (with_reducible refine (cmp_isNaN_int64.calls a1 false _ A4.out).mono ?_); rintro e w' ⟨rfl, ⟨nd, rfl⟩⟩; refine ⟨_, rfl, ?_⟩))
   go_ret
   exact ⟨by first | rfl | (simp; done) | (simp [*]; done), by repeat (first | exact Drawn0.refl _ | apply Drawn0.step)⟩
 ·replace c5 := Bool.eq_false_iff.mpr c5
  subst c5
  have H1 : (if q0 = true then (some 1) else (if a0 < a1 then (some (-1)) else (if a0 > a1 then (some 1) else (some 0)))) = some r := by rw [if_neg (show ¬ (false = true) by decide)] at H; exact H
  clear H
  have H := H1
  clear H1
  by_cases c7 : q0 = true
  ·subst c7
   have H1 : (some 1) = some r := by rw [if_pos rfl] at H; exact H
   clear H
   have H := H1
   clear H1
   obtain rfl := Option.some.inj H
   go_enter Try.func54, Try.ntmps54
   go_wp2_with (first | ((with_reducible refine gate_callee (f := 79) rfl ?_); refine goesL_ (some 8) rfl rfl Try.func79 (by kernel_rfl) rfl #[.int .i64 a0] rfl am ?_; (with_reducible refine (cmp_isNaN_int64.calls a0 false _ A3.out).mono ?_); rintro e w' ⟨rfl, ⟨nd, rfl⟩⟩; refine ⟨_, rfl, ?_⟩) | ((with_reducible refine gate_callee (f := 79) rfl ?_); refine goesL_ (some 10) rfl rfl Try.func79 (by kernel_rfl) rfl #[.int .i64 a1] rfl am ?_; (with_reducible refine (cmp_isNaN_int64.calls a1 true _ A4.out).mono ?_); rintro e w' ⟨rfl, ⟨nd, rfl⟩⟩; refine ⟨_, rfl, ?_⟩))
   go_ret
   exact ⟨by first | rfl | (simp; done) | (simp [*]; done), by repeat (first | exact Drawn0.refl _ | apply Drawn0.step)⟩
  ·replace c7 := Bool.eq_false_iff.mpr c7
   subst c7
   have H1 : (if a0 < a1 then (some (-1)) else (if a0 > a1 then (some 1) else (some 0))) = some r := by rw [if_neg (show ¬ (false = true) by decide)] at H; exact H
   clear H
   have H := H1
   clear H1
   by_cases c8 : a0 < a1
   ·rw [if_pos c8] at H
    have q2 : decide (a0 < a1) = true := decide_eq_true c8
    clear c8
    obtain rfl := Option.some.inj H
    go_enter Try.func54, Try.ntmps54
    go_wp2_with (first | ((with_reducible refine gate_callee (f := 79) rfl ?_); refine goesL_ (some 8) rfl rfl Try.func79 (by kernel_rfl) rfl #[.int .i64 a0] rfl am ?_; (with_reducible refine (cmp_isNaN_int64.calls a0 false _ A3.out).mono ?_); rintro e w' ⟨rfl, ⟨nd, rfl⟩⟩; refine ⟨_, rfl, ?_⟩) | ((with_reducible refine gate_callee (f := 79) rfl ?_); refine goesL_ (some 10) rfl rfl Try.func79 (by kernel_rfl) rfl #[.int .i64 a1] rfl am ?_; (with_reducible refine (cmp_isNaN_int64.calls a1 false _ A4.out).mono ?_); rintro e w' ⟨rfl, ⟨nd, rfl⟩⟩; refine ⟨_, rfl, ?_⟩))
    go_ret
    exact ⟨by first | rfl | (simp; done) | (simp [*]; done), by repeat (first | exact Drawn0.refl _ | apply Drawn0.step)⟩
   ·rw [if_neg c8] at H
    have q2 : decide (a0 < a1) = false := decide_eq_false c8
    clear c8
    by_cases c9 : a0 > a1
    ·rw [if_pos c9] at H
     have q3 : decide (a1 < a0) = true := decide_eq_true c9
     clear c9
     obtain rfl := Option.some.inj H
     go_enter Try.func54, Try.ntmps54
     go_wp2_with (first | ((with_reducible refine gate_callee (f := 79) rfl ?_); refine goesL_ (some 8) rfl rfl Try.func79 (by kernel_rfl) rfl #[.int .i64 a0] rfl am ?_; (with_reducible refine (cmp_isNaN_int64.calls a0 false _ A3.out).mono ?_); rintro e w' ⟨rfl, ⟨nd, rfl⟩⟩; refine ⟨_, rfl, ?_⟩) | ((with_reducible refine gate_callee (f := 79) rfl ?_); refine goesL_ (some 10) rfl rfl Try.func79 (by kernel_rfl) rfl #[.int .i64 a1] rfl am ?_; (with_reducible refine (cmp_isNaN_int64.calls a1 false _ A4.out).mono ?_); rintro e w' ⟨rfl, ⟨nd, rfl⟩⟩; refine ⟨_, rfl, ?_⟩))
     go_ret
     exact ⟨by first | rfl | (simp; done) | (simp [*]; done), by repeat (first | exact Drawn0.refl _ | apply Drawn0.step)⟩
    ·rw [if_neg c9] at H
     have q3 : decide (a1 < a0) = false := decide_eq_false c9
     clear c9
     obtain rfl := Option.some.inj H
     go_enter Try.func54, Try.ntmps54
     go_wp2_with (first | ((with_reducible refine gate_callee (f := 79) rfl ?_); refine goesL_ (some 8) rfl rfl Try.func79 (by kernel_rfl) rfl #[.int .i64 a0] rfl am ?_; (with_reducible refine (cmp_isNaN_int64.calls a0 false _ A3.out).mono ?_); rintro e w' ⟨rfl, ⟨nd, rfl⟩⟩; refine ⟨_, rfl, ?_⟩) | ((with_reducible refine gate_callee (f := 79) rfl ?_); refine goesL_ (some 10) rfl rfl Try.func79 (by kernel_rfl) rfl #[.int .i64 a1] rfl am ?_; (with_reducible refine (cmp_isNaN_int64.calls a1 false _ A4.out).mono ?_); rintro e w' ⟨rfl, ⟨nd, rfl⟩⟩; refine ⟨_, rfl, ?_⟩))
     go_ret
     exact ⟨by first | rfl | (simp; done) | (simp [*]; done), by repeat (first | exact Drawn0.refl _ | apply Drawn0.step)⟩
end
section
/-! ### grids_step_cross: function 55 -/
def grids_step_cross.f (a0_0 : Int) (a0_1 : Int) (a1_0 : Int) (a1_1 : Int) : Option (Int) := (some (wrap64 (a0_0 * a1_1))).bind fun q0 => ((some (wrap64 (a0_1 * a1_0))).bind fun q1 => ((some (wrap64 (q0 - q1))).bind fun q3 => (some q3)))
set_option maxHeartbeats 8000000 in
set_option maxRecDepth 100000 in
theorem grids_step_cross.calls (a0_0 : Int) (a0_1 : Int) (a1_0 : Int) (a1_1 : Int) (r : Int) (w : World) (h : grids_step_cross.f a0_0 a0_1 a1_0 a1_1 = some r) :
  Calls Try.prog 55 #[.agg #[.int .i64 a0_0, .int .i64 a0_1], .agg #[.int .i64 a1_0, .int .i64 a1_1]] w fun e w' => e = .returned (.int .i64 r) ∧ Below w.heap.size w w' := by
 have hu81 := Try.underlying81
 have HB := Aside0.mk (Below.refl w.heap.size w)
 have H : ((some (wrap64 (a0_0 * a1_1))).bind fun q0 => ((some (wrap64 (a0_1 * a1_0))).bind fun q1 => ((some (wrap64 (q0 - q1))).bind fun q3 => (some q3)))) = some r := h
 clear h
 obtain ⟨q0, E30, H⟩ := oc H
 have E3w : (IntKind.i64.wrap (a0_0 * a1_1)) = q0 := (i64_w _).trans E30
 obtain ⟨q1, E40, H⟩ := oc H
 have E4w : (IntKind.i64.wrap (a0_1 * a1_0)) = q1 := (i64_w _).trans E40
 obtain ⟨q3, E50, H⟩ := oc H
 have E5w : (IntKind.i64.wrap (q0 - q1)) = q3 := (i64_w _).trans E50
 obtain rfl := Option.some.inj H
 go_enter Try.func55, Try.ntmps55
 go_wp2_with (first | ((with_reducible refine gate_dst (N := 2) rfl ?_); refine bx 2 #[.int .i64 a0_0, .int .i64 a0_1] 81 fun qb hg w6 q2 hb => ?_; have q9 := gw hg HB; have q7 := gw hg HB; replace HB := bst HB hb; clear hb hg) | ((with_reducible refine gate_dst (N := 3) rfl ?_); refine bx 3 #[.int .i64 a1_0, .int .i64 a1_1] 81 fun qc hg w7 q4 hb => ?_; have qa := gw hg HB; have q8 := gw hg HB; have q5 := nlt hg q2; have q6 := ngt hg q2; replace q2 := bb q2 hb; replace HB := bst HB hb; clear hb hg; have ql := q5.out; have qm := q6.out; have ⟨qf, qg, qj, qk⟩ := cf2 q2; have ⟨qd, qe, qh, qi⟩ := cf2 q4))
 go_ret
 exact rt HB
end
section
/-! ### grids_Side: function 21 -/
def grids_Side.f (k : Nat) (a0_0 : Int) (a0_1 : Int) (a1_0 : Int) (a1_1 : Int) (a2_0 : Int) (a2_1 : Int) : Option (Int × Int) := (grids_point.f k (([(⟨a0_0, a0_1⟩ : S37), (⟨a1_0, a1_1⟩ : S37), (⟨a2_0, a2_1⟩ : S37)] : List (S37)))).bind fun q8 => (if q8 = true then ((grids_to.f a0_0 a0_1 a1_0 a1_1).bind fun q4 => ((grids_to.f a0_0 a0_1 a2_0 a2_1).bind fun q5 => ((grids_step_cross.f q4.1 q4.2 q5.1 q5.2).bind fun q6 => ((cmp_Compare_int64.f q6 0).bind fun q7 => (some (q7, 0)))))) else (some (0, 2)))
theorem grids_Side.mono : ∀ a0 a1 a2 a3 a4 a5 k, LeO (grids_Side.f k a0 a1 a2 a3 a4 a5) (grids_Side.f (k + 1) a0 a1 a2 a3 a4 a5) := by
 intro a0 a1 a2 a3 a4 a5 k
 unfold grids_Side.f
 repeat' first
   | (with_reducible exact grids_point.mono _ _)
   | (with_reducible exact LeO.refl _)
   | (with_reducible exact LeO.none _)
   | (with_reducible refine LeO.ite ?_ ?_)
   | (with_reducible refine LeO.bind ?_ (fun _ => ?_))
   | exact grids_point.mono _ _
   | exact LeO.none _
   | refine LeO.ite ?_ ?_
   | refine LeO.bind ?_ (fun _ => ?_)
def grids_Side.T3 : Bool × List (List Nat × List Nat) := (true, [([], []), ([], []), ([0, 1], [0, 1]), ([], []), ([], []), ([3, 4, 2], [3, 4]), ([2, 5, 5], [2, 5]), ([6, 6], [6]), ([7, 7, 0, 1, 2, 3, 4, 5, 6, 7], [7]), ([8, 0, 1, 2, 3, 4, 5, 6, 7, 8], [])])
def grids_Side.B3 : List Nat := [0, 0, 3, 0, 0, 31, 63, 127, 255, 511]
theorem grids_Side.tab3 : rtab .any (opsOf Try.f21 3) = grids_Side.T3 := by kernel_rfl
theorem grids_Side.bits3 : waitsOk grids_Side.T3.2 grids_Side.B3 = true := by kernel_rfl
set_option maxHeartbeats 8000000 in
set_option maxRecDepth 100000 in
theorem grids_Side.calls (k : Nat) (a0_0 : Int) (a0_1 : Int) (a1_0 : Int) (a1_1 : Int) (a2_0 : Int) (a2_1 : Int) (r1 : Int) (r2 : Int) (w : World) (h : grids_Side.f k a0_0 a0_1 a1_0 a1_1 a2_0 a2_1 = some (r1, r2)) :
  Calls Try.prog 21 #[.agg #[.int .i64 a0_0, .int .i64 a0_1], .agg #[.int .i64 a1_0, .int .i64 a1_1], .agg #[.int .i64 a2_0, .int .i64 a2_1]] w fun e w' => e = .returned (.tuple #[.int .i64 r1, .int .i64 r2]) ∧ Below w.heap.size w w' := by
 have hu37 := Try.underlying37
 have HB := Aside0.mk (Below.refl w.heap.size w)
 have H : ((grids_point.f k (([(⟨a0_0, a0_1⟩ : S37), (⟨a1_0, a1_1⟩ : S37), (⟨a2_0, a2_1⟩ : S37)] : List (S37)))).bind fun q8 => (if q8 = true then ((grids_to.f a0_0 a0_1 a1_0 a1_1).bind fun q4 => ((grids_to.f a0_0 a0_1 a2_0 a2_1).bind fun q5 => ((grids_step_cross.f q4.1 q4.2 q5.1 q5.2).bind fun q6 => ((cmp_Compare_int64.f q6 0).bind fun q7 => (some (q7, 0)))))) else (some (0, 2)))) = some (r1, r2) := h
 clear h
 obtain ⟨qe, hy469⟩ : ∃ y_ : List (S37), y_ = (([(⟨a0_0, a0_1⟩ : S37), (⟨a1_0, a1_1⟩ : S37), (⟨a2_0, a2_1⟩ : S37)] : List (S37))) := ⟨_, rfl⟩
 replace H : ((grids_point.f k qe).bind fun q8 => (if q8 = true then ((grids_to.f a0_0 a0_1 a1_0 a1_1).bind fun q4 => ((grids_to.f a0_0 a0_1 a2_0 a2_1).bind fun q5 => ((grids_step_cross.f q4.1 q4.2 q5.1 q5.2).bind fun q6 => ((cmp_Compare_int64.f q6 0).bind fun q7 => (some (q7, 0)))))) else (some (0, 2)))) = some (r1, r2) := by first | (rw [hy469]; with_reducible exact H) | (have H2_ := (Option.bind_some _ _).symm.trans H; rw [hy469]; with_reducible exact H2_) | (have H2_ := (Option.bind_some _ _).symm.trans H; with_reducible exact H2_) | with_reducible exact H | (rw [hy469]; exact H) | exact H
 have Ny469 := Aside0.mk hy469
 clear hy469
 obtain ⟨q8, A4, H⟩ := ob H
 by_cases c5 : q8 = true
 ·subst c5
  have H1 : ((grids_to.f a0_0 a0_1 a1_0 a1_1).bind fun q4 => ((grids_to.f a0_0 a0_1 a2_0 a2_1).bind fun q5 => ((grids_step_cross.f q4.1 q4.2 q5.1 q5.2).bind fun q6 => ((cmp_Compare_int64.f q6 0).bind fun q7 => (some (q7, 0)))))) = some (r1, r2) := by rw [if_pos rfl] at H; exact H
  clear H
  have H := H1
  clear H1
  obtain ⟨⟨ql, qm⟩, A6, H⟩ := ob H
  obtain ⟨⟨qn, qo⟩, A7, H⟩ := ob H
  obtain ⟨q6, A8, H⟩ := ob H
  obtain ⟨q7, A9, H⟩ := ob H
  simp only [Option.some.injEq, Prod.mk.injEq] at H
  obtain ⟨rfl, rfl⟩ := H
  go_enter Try.func21, Try.ntmps21
  try go_wp2_with (first | ((with_reducible refine gate_dst (N := 3) rfl ?_); refine bx 3 #[.int .i64 a0_0, .int .i64 a0_1] 37 fun q9 hg w10 q0 hb => ?_; have qu := gw hg HB; have qr := gw hg HB; replace HB := bst HB hb; clear hb hg) | ((with_reducible refine gate_dst (N := 4) rfl ?_); refine bx 4 #[.int .i64 a1_0, .int .i64 a1_1] 37 fun qa hg w11 q1 hb => ?_; have qv := gw hg HB; have qs := gw hg HB; have qf := nlt hg q0; have qh := ngt hg q0; replace q0 := bb q0 hb; replace HB := bst HB hb; clear hb hg) | ((with_reducible refine gate_dst (N := 5) rfl ?_); refine bx 5 #[.int .i64 a2_0, .int .i64 a2_1] 37 fun qb hg w12 q2 hb => ?_; have qw := gw hg HB; have qt := gw hg HB; have qg := nlt hg q0; have qj := ngt hg q0; have qi := nlt hg q1; have qk := ngt hg q1; replace q0 := bb q0 hb; replace q1 := bb q1 hb; replace HB := bst HB hb; clear hb hg; have qZ := qf.out; have j5 := qh.out; have j0 := qg.out; have j6 := qj.out; have ⟨qB, qC, qN, qO⟩ := cf2 q0; have j1 := qi.out; have j7 := qk.out; have ⟨qD, qE, qP, qQ⟩ := cf2 q1; have ⟨qF, qG, qR, qS⟩ := cf2 q2) | ((with_reducible refine gate_dst (N := 11) rfl ?_); refine Kd.R_lit k37 _ 37 ?hg (N := 11) ?hd (xs := ([(⟨a0_0, a0_1⟩ : S37), (⟨a1_0, a1_1⟩ : S37), (⟨a2_0, a2_1⟩ : S37)] : List (S37))) (inner := [.int .i64 a0_0, .int .i64 a0_1, .int .i64 a1_0, .int .i64 a1_1, .int .i64 a2_0, .int .i64 a2_1]) (ok := fun _ => True) (okp := fun _ => True) ?hr ?hp (fun _ hk => hk) trivial (Below.refl _ _) (Nat.le_refl _) (by simp) ?_; (case hd => rfl); (case hg => rfl); (case hr => first | (go_simp; done) | (go_simp; rfl)); (case hp => exact (Reps.c2 (show Kd.M k37 _ _ _ (⟨a0_0, a0_1⟩ : S37) [.int .i64 a0_0, .int .i64 a0_1] from (k37_mkM _ _ _ (⟨a0_0, a0_1⟩ : S37) )) (Reps.c2 (show Kd.M k37 _ _ _ (⟨a1_0, a1_1⟩ : S37) [.int .i64 a1_0, .int .i64 a1_1] from (k37_mkM _ _ _ (⟨a1_0, a1_1⟩ : S37) )) (Reps.c2 (show Kd.M k37 _ _ _ (⟨a2_0, a2_1⟩ : S37) [.int .i64 a2_0, .int .i64 a2_1] from (k37_mkM _ _ _ (⟨a2_0, a2_1⟩ : S37) )) (Reps.none _ _))))); intro v470 w19 qc hb hg_ hnew_; clear hg_ hnew_; (first | rw [← Ny469.out] at qc | (simp only [Int.reduceToNat] at qc; rw [← Ny469.out] at qc)); have q3 := Aside0.mk (Kd.R_lower (Kd.R_newB (Kd.R_newB (Kd.R_newB qc (g := q9) (o := .cells #[.int .i64 a0_0, .int .i64 a0_1] 37 (0, 0)) (pk q0)) (g := qa) (o := .cells #[.int .i64 a1_0, .int .i64 a1_1] 37 (0, 0)) (pk q1)) (g := qb) (o := .cells #[.int .i64 a2_0, .int .i64 a2_1] 37 (0, 0)) (pk q2)) (below_size (bnow HB))); replace q0 := bb q0 hb; replace q1 := bb q1 hb; replace q2 := bb q2 hb; replace HB := bst HB hb; clear hb qc; obtain ⟨qp, qx, qz⟩ := Kd.R_slice q3.out; subst qz) | ((with_reducible refine gate_callee (f := 49) rfl ?_); refine goesL_ (some 12) rfl rfl Try.func49 (by kernel_rfl) rfl #[.slice qp qe.length qx] rfl am ?_; (with_reducible refine (grids_point.calls k _ _ qe true _ ?side1 ?side2 A4.out).mono ?_); (case side1 => repeat (first | exact (Kd.R_reads' q3.out).2.2 | (with_reducible refine Kd.C_alloc ?_ _) | (with_reducible refine Kd.C_drewN ?_ _) | (with_reducible refine Kd.C_drew ?_))); (case side2 => exact (Kd.R_reads' q3.out).2.1); rintro e w22 ⟨rfl, hb⟩; refine ⟨_, rfl, ?_⟩; replace q3 := Aside0.mk (Kd.R_below (by (with_reducible repeat (first | apply Kd.R_alloc | apply Kd.R_drewN | apply Kd.R_drew)); exact q3.out) hb); replace q0 := bb q0 hb; replace q1 := bb q1 hb; replace q2 := bb q2 hb; replace HB := bst HB hb; (try clear hb); (try clear hb2); (try clear hk); (try clear hi)))
  replace q3 := Aside0.mk (Kd.R_drew q3.out)
  replace q0 := bd q0
  replace q1 := bd q1
  replace q2 := bd q2
  replace HB := bdn HB
  refine start_ (n := 10) (S := fun w' => w'.cell? ⟨q9, 0, none⟩ = some (.int .i64 a0_0) ∧ w'.cell? ⟨q9, 1, none⟩ = some (.int .i64 a0_1) ∧ w'.cell? ⟨qa, 0, none⟩ = some (.int .i64 a1_0) ∧ w'.cell? ⟨qa, 1, none⟩ = some (.int .i64 a1_1) ∧ w'.cell? ⟨qb, 0, none⟩ = some (.int .i64 a2_0) ∧ w'.cell? ⟨qb, 1, none⟩ = some (.int .i64 a2_1)) (ds := []) #[false, false, false, false, false, false, false, false, false, false] (by kernel_rfl) rfl rfl ⟨(blk_cell q0.out 0).trans rfl, (blk_cell q0.out 1).trans rfl, (blk_cell q1.out 0).trans rfl, (blk_cell q1.out 1).trans rfl, (blk_cell q2.out 0).trans rfl, (blk_cell q2.out 1).trans rfl⟩ (fun hHeld => ?_); refine with_tabW grids_Side.tab3 grids_Side.bits3 (fun HT_ HW_ => ?_)
  generalize w22.drew = w23 at q3 q0 q1 q2 HB hHeld ⊢
  refine tz 0 14 HT_ HW_ hHeld ?_
  refine tz 1 15 HT_ HW_ hHeld ?_
  refine tz 3 17 HT_ HW_ hHeld ?_
  refine tz 4 18 HT_ HW_ hHeld ?_
  refine one_ (i := 2) (N := some 16) #[true, true, true, true, true, false, false, false, false, false] rfl rfl (one_of HT_.out (by kernel_rfl)) (by decide) (fun K hK => ?_)
  refine gs _ Try.func50 (grids_to.calls a0_0 a0_1 a1_0 a1_1 ql qm _ A6.out) ?_
  rintro e w24 ⟨rfl, hb⟩
  refine ⟨_, rfl, ?_⟩
  have n0_ := Aside0.mk (Kd.R_below (by (with_reducible repeat (first | apply Kd.R_alloc | apply Kd.R_drewN | apply Kd.R_drew)); exact q3.out) hb)
  have n1_ := bb q0 hb
  have n2_ := bb q1 hb
  have n3_ := bb q2 hb
  have n4_ := bst HB hb
  clear q3
  clear q0
  clear q1
  clear q2
  clear HB
  have q3 := n0_
  have q0 := n1_
  have q1 := n2_
  have q2 := n3_
  have HB := n4_
  clear n0_ n1_ n2_ n3_ n4_
  (try clear hb)
  (try clear hb2)
  (try clear hk)
  (try clear hi)
  refine hK.out _ _ ⟨(blk_cell q0.out 0).trans rfl, (blk_cell q0.out 1).trans rfl, (blk_cell q1.out 0).trans rfl, (blk_cell q1.out 1).trans rfl, (blk_cell q2.out 0).trans rfl, (blk_cell q2.out 1).trans rfl⟩ (fun hHeld => ?_)
  clear hK K
  refine norm_ (a' := ?_) ?_ ?_
  rotate_left
  ·show Act.put _ (some 16) _ = _
   simp only [Act.put, List.setIfInBounds_toArray, List.set_cons_zero, List.set_cons_succ, i64_w, i32_w]
   rfl
  refine one_ (i := 5) (N := some 19) #[true, true, true, true, true, true, false, false, false, false] rfl rfl (one_of HT_.out (by kernel_rfl)) (by decide) (fun K hK => ?_)
  refine gs _ Try.func50 (grids_to.calls a0_0 a0_1 a2_0 a2_1 qn qo _ A7.out) ?_
  rintro e w25 ⟨rfl, hb⟩
  refine ⟨_, rfl, ?_⟩
  have n0_ := Aside0.mk (Kd.R_below (by (with_reducible repeat (first | apply Kd.R_alloc | apply Kd.R_drewN | apply Kd.R_drew)); exact q3.out) hb)
  have n1_ := bb q0 hb
  have n2_ := bb q1 hb
  have n3_ := bb q2 hb
  have n4_ := bst HB hb
  clear q3
  clear q0
  clear q1
  clear q2
  clear HB
  have q3 := n0_
  have q0 := n1_
  have q1 := n2_
  have q2 := n3_
  have HB := n4_
  clear n0_ n1_ n2_ n3_ n4_
  (try clear hb)
  (try clear hb2)
  (try clear hk)
  (try clear hi)
  refine hK.out _ _ ⟨(blk_cell q0.out 0).trans rfl, (blk_cell q0.out 1).trans rfl, (blk_cell q1.out 0).trans rfl, (blk_cell q1.out 1).trans rfl, (blk_cell q2.out 0).trans rfl, (blk_cell q2.out 1).trans rfl⟩ (fun hHeld => ?_)
  clear hK K
  refine norm_ (a' := ?_) ?_ ?_
  rotate_left
  ·show Act.put _ (some 19) _ = _
   simp only [Act.put, List.setIfInBounds_toArray, List.set_cons_zero, List.set_cons_succ, i64_w, i32_w]
   rfl
  refine one_ (i := 6) (N := some 20) #[true, true, true, true, true, true, true, false, false, false] rfl rfl (one_of HT_.out (by kernel_rfl)) (by decide) (fun K hK => ?_)
  refine gs _ Try.func55 (grids_step_cross.calls ql qm qn qo q6 _ A8.out) ?_
  rintro e w26 ⟨rfl, hb⟩
  refine ⟨_, rfl, ?_⟩
  have n0_ := Aside0.mk (Kd.R_below (by (with_reducible repeat (first | apply Kd.R_alloc | apply Kd.R_drewN | apply Kd.R_drew)); exact q3.out) hb)
  have n1_ := bb q0 hb
  have n2_ := bb q1 hb
  have n3_ := bb q2 hb
  have n4_ := bst HB hb
  clear q3
  clear q0
  clear q1
  clear q2
  clear HB
  have q3 := n0_
  have q0 := n1_
  have q1 := n2_
  have q2 := n3_
  have HB := n4_
  clear n0_ n1_ n2_ n3_ n4_
  (try clear hb)
  (try clear hb2)
  (try clear hk)
  (try clear hi)
  refine hK.out _ _ ⟨(blk_cell q0.out 0).trans rfl, (blk_cell q0.out 1).trans rfl, (blk_cell q1.out 0).trans rfl, (blk_cell q1.out 1).trans rfl, (blk_cell q2.out 0).trans rfl, (blk_cell q2.out 1).trans rfl⟩ (fun hHeld => ?_)
  clear hK K
  refine norm_ (a' := ?_) ?_ ?_
  rotate_left
  ·show Act.put _ (some 20) _ = _
   simp only [Act.put, List.setIfInBounds_toArray, List.set_cons_zero, List.set_cons_succ, i64_w, i32_w]
   rfl
  refine one_ (i := 7) (N := some 21) #[true, true, true, true, true, true, true, true, false, false] rfl rfl (one_of HT_.out (by kernel_rfl)) (by decide) (fun K hK => ?_)
  refine gs _ Try.func54 (cmp_Compare_int64.calls q6 0 q7 _ A9.out) ?_
  rintro e w' ⟨rfl, ⟨nd, rfl⟩⟩
  refine ⟨_, rfl, ?_⟩
  refine hK.out _ _ ⟨(blk_cell q0.out 0).trans rfl, (blk_cell q0.out 1).trans rfl, (blk_cell q1.out 0).trans rfl, (blk_cell q1.out 1).trans rfl, (blk_cell q2.out 0).trans rfl, (blk_cell q2.out 1).trans rfl⟩ (fun hHeld => ?_)
  clear hK K
  refine norm_ (a' := ?_) ?_ ?_
  rotate_left
  ·show Act.put _ (some 21) _ = _
   simp only [Act.put, List.setIfInBounds_toArray, List.set_cons_zero, List.set_cons_succ, i64_w, i32_w]
   rfl
  refine pz 8 6 HT_ ?_
  refine pz 9 7 HT_ ?_
  refine done_ (done_of HT_.out (by kernel_rfl)) ?_
  try go_wp2
  go_ret2
  exact rt HB
 ·replace c5 := Bool.eq_false_iff.mpr c5
  subst c5
  have H1 : (some (0, 2)) = some (r1, r2) := by rw [if_neg (show ¬ (false = true) by decide)] at H; exact H
  clear H
  have H := H1
  clear H1
  simp only [Option.some.injEq, Prod.mk.injEq] at H
  obtain ⟨rfl, rfl⟩ := H
  go_enter Try.func21, Try.ntmps21
  go_wp2_with (first | ((with_reducible refine gate_dst (N := 3) rfl ?_); refine bx 3 #[.int .i64 a0_0, .int .i64 a0_1] 37 fun q9 hg w27 q0 hb => ?_; have qu := gw hg HB; have qr := gw hg HB; replace HB := bst HB hb; clear hb hg) | ((with_reducible refine gate_dst (N := 4) rfl ?_); refine bx 4 #[.int .i64 a1_0, .int .i64 a1_1] 37 fun qa hg w28 q1 hb => ?_; have qv := gw hg HB; have qs := gw hg HB; have qf := nlt hg q0; have qh := ngt hg q0; replace q0 := bb q0 hb; replace HB := bst HB hb; clear hb hg) | ((with_reducible refine gate_dst (N := 5) rfl ?_); refine bx 5 #[.int .i64 a2_0, .int .i64 a2_1] 37 fun qb hg w29 q2 hb => ?_; have qw := gw hg HB; have qt := gw hg HB; have qg := nlt hg q0; have qj := ngt hg q0; have qi := nlt hg q1; have qk := ngt hg q1; replace q0 := bb q0 hb; replace q1 := bb q1 hb; replace HB := bst HB hb; clear hb hg; have j2 := qf.out; have j8 := qh.out; have j3 := qg.out; have j9 := qj.out; have ⟨qH, qI, qT, qU⟩ := cf2 q0; have j4 := qi.out; have ja := qk.out; have ⟨qJ, qK, qV, qW⟩ := cf2 q1; have ⟨qL, qM, qX, qY⟩ := cf2 q2) | ((with_reducible refine gate_dst (N := 11) rfl ?_); refine Kd.R_lit k37 _ 37 ?hg (N := 11) ?hd (xs := ([(⟨a0_0, a0_1⟩ : S37), (⟨a1_0, a1_1⟩ : S37), (⟨a2_0, a2_1⟩ : S37)] : List (S37))) (inner := [.int .i64 a0_0, .int .i64 a0_1, .int .i64 a1_0, .int .i64 a1_1, .int .i64 a2_0, .int .i64 a2_1]) (ok := fun _ => True) (okp := fun _ => True) ?hr ?hp (fun _ hk => hk) trivial (Below.refl _ _) (Nat.le_refl _) (by simp) ?_; (case hd => rfl); (case hg => rfl); (case hr => first | (go_simp; done) | (go_simp; rfl)); (case hp => exact (Reps.c2 (show Kd.M k37 _ _ _ (⟨a0_0, a0_1⟩ : S37) [.int .i64 a0_0, .int .i64 a0_1] from (k37_mkM _ _ _ (⟨a0_0, a0_1⟩ : S37) )) (Reps.c2 (show Kd.M k37 _ _ _ (⟨a1_0, a1_1⟩ : S37) [.int .i64 a1_0, .int .i64 a1_1] from (k37_mkM _ _ _ (⟨a1_0, a1_1⟩ : S37) )) (Reps.c2 (show Kd.M k37 _ _ _ (⟨a2_0, a2_1⟩ : S37) [.int .i64 a2_0, .int .i64 a2_1] from (k37_mkM _ _ _ (⟨a2_0, a2_1⟩ : S37) )) (Reps.none _ _))))); intro v470 w36 qd hb hg_ hnew_; clear hg_ hnew_; (first | rw [← Ny469.out] at qd | (simp only [Int.reduceToNat] at qd; rw [← Ny469.out] at qd)); have q3 := Aside0.mk (Kd.R_lower (Kd.R_newB (Kd.R_newB (Kd.R_newB qd (g := q9) (o := .cells #[.int .i64 a0_0, .int .i64 a0_1] 37 (0, 0)) (pk q0)) (g := qa) (o := .cells #[.int .i64 a1_0, .int .i64 a1_1] 37 (0, 0)) (pk q1)) (g := qb) (o := .cells #[.int .i64 a2_0, .int .i64 a2_1] 37 (0, 0)) (pk q2)) (below_size (bnow HB))); replace q0 := bb q0 hb; replace q1 := bb q1 hb; replace q2 := bb q2 hb; replace HB := bst HB hb; clear hb qd; obtain ⟨qq, qy, qA⟩ := Kd.R_slice q3.out; subst qA) | ((with_reducible refine gate_callee (f := 49) rfl ?_); refine goesL_ (some 12) rfl rfl Try.func49 (by kernel_rfl) rfl #[.slice qq qe.length qy] rfl am ?_; (with_reducible refine (grids_point.calls k _ _ qe false _ ?side1 ?side2 A4.out).mono ?_); (case side1 => repeat (first | exact (Kd.R_reads' q3.out).2.2 | (with_reducible refine Kd.C_alloc ?_ _) | (with_reducible refine Kd.C_drewN ?_ _) | (with_reducible refine Kd.C_drew ?_))); (case side2 => exact (Kd.R_reads' q3.out).2.1); rintro e w39 ⟨rfl, hb⟩; refine ⟨_, rfl, ?_⟩; replace q3 := Aside0.mk (Kd.R_below (by (with_reducible repeat (first | apply Kd.R_alloc | apply Kd.R_drewN | apply Kd.R_drew)); exact q3.out) hb); replace q0 := bb q0 hb; replace q1 := bb q1 hb; replace q2 := bb q2 hb; replace HB := bst HB hb; (try clear hb); (try clear hb2); (try clear hk); (try clear hi)))
  go_ret2
  exact rt HB
end
section
/-! ### grids_times: function 40 -/
def grids_times.f (a0_0 : Int) (a0_1 : Int) (a0_2 : Int) (a0_3 : Int) (a1_0 : Int) (a1_1 : Int) (a1_2 : Int) (a1_3 : Int) : Option (Int × Int × Int × Int) := (some (wrap64 (a0_0 * a1_0))).bind fun q6 => ((some (wrap64 (a0_1 * a1_2))).bind fun q7 => ((some (wrap64 (q6 + q7))).bind fun q2 => ((some (wrap64 (a0_0 * a1_1))).bind fun q8 => ((some (wrap64 (a0_1 * a1_3))).bind fun q9 => ((some (wrap64 (q8 + q9))).bind fun q3 => ((some (wrap64 (a0_2 * a1_0))).bind fun qa => ((some (wrap64 (a0_3 * a1_2))).bind fun qb => ((some (wrap64 (qa + qb))).bind fun q4 => ((some (wrap64 (a0_2 * a1_1))).bind fun qc => ((some (wrap64 (a0_3 * a1_3))).bind fun qd => ((some (wrap64 (qc + qd))).bind fun q5 => (some (q2, q3, q4, q5)))))))))))))
set_option maxHeartbeats 8000000 in
set_option maxRecDepth 100000 in
theorem grids_times.calls (a0_0 : Int) (a0_1 : Int) (a0_2 : Int) (a0_3 : Int) (a1_0 : Int) (a1_1 : Int) (a1_2 : Int) (a1_3 : Int) (r1 : Int) (r2 : Int) (r3 : Int) (r4 : Int) (w : World) (h : grids_times.f a0_0 a0_1 a0_2 a0_3 a1_0 a1_1 a1_2 a1_3 = some (r1, r2, r3, r4)) :
  Calls Try.prog 40 #[.agg #[.int .i64 a0_0, .int .i64 a0_1, .int .i64 a0_2, .int .i64 a0_3], .agg #[.int .i64 a1_0, .int .i64 a1_1, .int .i64 a1_2, .int .i64 a1_3]] w fun e w' => e = .returned (.agg #[.int .i64 r1, .int .i64 r2, .int .i64 r3, .int .i64 r4]) ∧ Below w.heap.size w w' := by
 have hu25 := Try.underlying25
 have HB := Aside0.mk (Below.refl w.heap.size w)
 have H : ((some (wrap64 (a0_0 * a1_0))).bind fun q6 => ((some (wrap64 (a0_1 * a1_2))).bind fun q7 => ((some (wrap64 (q6 + q7))).bind fun q2 => ((some (wrap64 (a0_0 * a1_1))).bind fun q8 => ((some (wrap64 (a0_1 * a1_3))).bind fun q9 => ((some (wrap64 (q8 + q9))).bind fun q3 => ((some (wrap64 (a0_2 * a1_0))).bind fun qa => ((some (wrap64 (a0_3 * a1_2))).bind fun qb => ((some (wrap64 (qa + qb))).bind fun q4 => ((some (wrap64 (a0_2 * a1_1))).bind fun qc => ((some (wrap64 (a0_3 * a1_3))).bind fun qd => ((some (wrap64 (qc + qd))).bind fun q5 => (some (q2, q3, q4, q5)))))))))))))) = some (r1, r2, r3, r4) := h
 clear h
 obtain ⟨q6, E30, H⟩ := oc H
 have E3w : (IntKind.i64.wrap (a0_0 * a1_0)) = q6 := (i64_w _).trans E30
 obtain ⟨q7, E40, H⟩ := oc H
 have E4w : (IntKind.i64.wrap (a0_1 * a1_2)) = q7 := (i64_w _).trans E40
 obtain ⟨q2, E50, H⟩ := oc H
 have E5w : (IntKind.i64.wrap (q6 + q7)) = q2 := (i64_w _).trans E50
 obtain ⟨q8, E60, H⟩ := oc H
 have E6w : (IntKind.i64.wrap (a0_0 * a1_1)) = q8 := (i64_w _).trans E60
 obtain ⟨q9, E70, H⟩ := oc H
 have E7w : (IntKind.i64.wrap (a0_1 * a1_3)) = q9 := (i64_w _).trans E70
 obtain ⟨q3, E80, H⟩ := oc H
 have E8w : (IntKind.i64.wrap (q8 + q9)) = q3 := (i64_w _).trans E80
 obtain ⟨qa, E90, H⟩ := oc H
 have E9w : (IntKind.i64.wrap (a0_2 * a1_0)) = qa := (i64_w _).trans E90
 obtain ⟨qb, E100, H⟩ := oc H
 have E10w : (IntKind.i64.wrap (a0_3 * a1_2)) = qb := (i64_w _).trans E100
 obtain ⟨q4, E110, H⟩ := oc H
 have E11w : (IntKind.i64.wrap (qa + qb)) = q4 := (i64_w _).trans E110
 obtain ⟨qc, E120, H⟩ := oc H
 have E12w : (IntKind.i64.wrap (a0_2 * a1_1)) = qc := (i64_w _).trans E120
 obtain ⟨qd, E130, H⟩ := oc H
 have E13w : (IntKind.i64.wrap (a0_3 * a1_3)) = qd := (i64_w _).trans E130
 obtain ⟨q5, E140, H⟩ := oc H
 have E14w : (IntKind.i64.wrap (qc + qd)) = q5 := (i64_w _).trans E140
 simp only [Option.some.injEq, Prod.mk.injEq] at H
 obtain ⟨rfl, rfl, rfl, rfl⟩ := H
 go_enter Try.func40, Try.ntmps40
 go_wp2_with (first | ((with_reducible refine gate_dst (N := 2) rfl ?_); refine bx 2 #[.int .i64 a0_0, .int .i64 a0_1, .int .i64 a0_2, .int .i64 a0_3] 25 fun qs hg w15 q0 hb => ?_; have qp := gw hg HB; have qm := gw hg HB; replace HB := bst HB hb; clear hb hg) | ((with_reducible refine gate_dst (N := 3) rfl ?_); refine bx 3 #[.int .i64 a1_0, .int .i64 a1_1, .int .i64 a1_2, .int .i64 a1_3] 25 fun qt hg w16 q1 hb => ?_; have qq := gw hg HB; have qn := gw hg HB; have qg := nlt hg q0; have qi := ngt hg q0; replace q0 := bb q0 hb; replace HB := bst HB hb; clear hb hg) | ((with_reducible refine gate_dst (N := 4) rfl ?_); refine bx 4 #[.int .i64 0, .int .i64 0, .int .i64 0, .int .i64 0] 25 fun qe hg w17 qf hb => ?_; have qr := gw hg HB; have qo := gw hg HB; have qh := nlt hg q0; have qk := ngt hg q0; have qj := nlt hg q1; have ql := ngt hg q1; replace q0 := bb q0 hb; replace q1 := bb q1 hb; replace HB := bst HB hb; clear hb hg; have qS := qg.out; have qV := qi.out; have qT := qh.out; have qW := qk.out; have ⟨qu, qv, qw, qx, qG, qH, qI, qJ⟩ := cf4 q0; have qU := qj.out; have qX := ql.out; have ⟨qy, qz, qA, qB, qK, qL, qM, qN⟩ := cf4 q1; have ⟨qC, qD, qE, qF, qO, qP, qQ, qR⟩ := cf4 qf) | ((with_reducible refine gate_store (t := 25) (p := 4) rfl ?_); refine sx 25 4 (((((w17.setCell ⟨qe, 0, none⟩ (.int .i64 q2)).setCell ⟨qe, 1, none⟩ (.int .i64 q3)).setCell ⟨qe, 2, none⟩ (.int .i64 q4)).setCell ⟨qe, 3, none⟩ (.int .i64 q5))) fun w24 hw => ?_; replace q0 := fw hw q0; replace q1 := fw hw q1; replace qf := pw4 hw qf; replace HB := bw hw HB; clear hw))
 refine bodyPost_ret (results_cell_row rfl _ _ qe 25 #[.int .i64 q2, .int .i64 q3, .int .i64 q4, .int .i64 q5] (0, 0) _ rfl (pk qf) Try.underlying25 rfl (by kernel_rfl)) rfl ?_
 exact rt HB
end
section
/-! ### grids_floor: function 71 -/
def grids_floor.f (a0 : Int) (a1 : Int) : Option (Int) := if a1 = 0 then (none) else ((some (wrap64 (Int.tdiv a0 a1))).bind fun q0 => ((some (Int.tmod a0 a1)).bind fun q1 => (if q1 = 0 then (some q0) else (if ((decide (a0 < 0)) != (decide (a1 < 0))) = true then ((some (wrap64 (q0 - 1))).bind fun q2 => (some q2)) else (some q0)))))
set_option maxHeartbeats 8000000 in
set_option maxRecDepth 100000 in
theorem grids_floor.calls (a0 : Int) (a1 : Int) (r : Int) (w : World) (h : grids_floor.f a0 a1 = some r) :
  Calls Try.prog 71 #[.int .i64 a0, .int .i64 a1] w fun e w' => e = .returned (.int .i64 r) ∧ Drawn0 w w' := by
 have H : (if a1 = 0 then (none) else ((some (wrap64 (Int.tdiv a0 a1))).bind fun q0 => ((some (Int.tmod a0 a1)).bind fun q1 => (if q1 = 0 then (some q0) else (if ((decide (a0 < 0)) != (decide (a1 < 0))) = true then ((some (wrap64 (q0 - 1))).bind fun q2 => (some q2)) else (some q0)))))) = some r := h
 clear h
 by_cases c3 : a1 = 0
 ·rw [if_pos c3] at H
  exact absurd H (by simp)
 ·rw [if_neg c3] at H
  have q8 : (a1 == 0) = false := beq_eq_false_iff_ne.mpr c3
  have q9 : (a1 != 0) = true := bne_iff_ne.mpr c3
  obtain ⟨q0, E40, H⟩ := oc H
  have E4w : (IntKind.i64.wrap (Int.tdiv a0 a1)) = q0 := (i64_w _).trans E40
  obtain ⟨q1, E50, H⟩ := oc H
  by_cases c6 : q1 = 0
  ·rw [if_pos c6] at H
   have q3 : (q1 == 0) = true := beq_iff_eq.mpr c6
   have q4 : (q1 != 0) = false := bne_eq_false_iff_eq.mpr c6
   clear c6
   obtain rfl := Option.some.inj H
   go_enter Try.func71, Try.ntmps71
   go_wp2
   go_ret
   exact ⟨by first | rfl | (simp; done) | (simp [*]; done), by repeat (first | exact Drawn0.refl _ | apply Drawn0.step)⟩
  ·rw [if_neg c6] at H
   have q3 : (q1 == 0) = false := beq_eq_false_iff_ne.mpr c6
   have q4 : (q1 != 0) = true := bne_iff_ne.mpr c6
   by_cases c7 : ((decide (a0 < 0)) != (decide (a1 < 0))) = true
   ·rw [if_pos c7] at H
    have q5 : ((decide (a0 < 0)) != (decide (a1 < 0))) = true := c7
    (try (have q6 : decide ((decide (a0 < 0)) = (decide (a1 < 0))) = false := by simpa using c7))
    (try (have q7 : ((decide (a0 < 0)) == (decide (a1 < 0))) = false := by simpa using c7))
    (try (have qa : ¬ ((decide (a0 < 0)) = (decide (a1 < 0))) := by simpa using c7))
    clear c7
    obtain ⟨q2, E80, H⟩ := oc H
    have E8w : (IntKind.i64.wrap (q0 - 1)) = q2 := (i64_w _).trans E80
    obtain rfl := Option.some.inj H
    go_enter Try.func71, Try.ntmps71
    go_wp2
    go_ret
    exact ⟨by first | rfl | (simp; done) | (simp [*]; done), by repeat (first | exact Drawn0.refl _ | apply Drawn0.step)⟩
   ·rw [if_neg c7] at H
    have q5 : ((decide (a0 < 0)) != (decide (a1 < 0))) = false := by simpa using c7
    (try (have q6 : decide ((decide (a0 < 0)) = (decide (a1 < 0))) = true := by simpa using c7))
    (try (have q7 : ((decide (a0 < 0)) == (decide (a1 < 0))) = true := by simpa using c7))
    clear c7
    obtain rfl := Option.some.inj H
    go_enter Try.func71, Try.ntmps71
    go_wp2
    go_ret
    exact ⟨by first | rfl | (simp; done) | (simp [*]; done), by repeat (first | exact Drawn0.refl _ | apply Drawn0.step)⟩
end
section
/-! ### grids_reduce: function 38 -/
mutual
def grids_reduce.l0 : Nat → Int → Int → Int → Int → Int → Int → Int → Option (Int × Int × Int × Int × Int × Int × Int)
 | 0, _, _, _, _, _, _, _ => none
 | k + 1, x125000, x125001, x125002, x128000, x128001, x128002, x128003 => (some (wrap64 (2 * x125001))).bind fun qy => ((some (wrap64 (qy + x125000))).bind fun qw => ((some (wrap64 (2 * x125000))).bind fun qx => ((grids_floor.f qw qx).bind fun qf => ((some (wrap64 (-qf))).bind fun qz => ((grids_times.f x128000 x128001 x128002 x128003 1 qz 0 1).bind fun qn => ((some (wrap64 (qf * x125000))).bind fun qA => ((some (wrap64 (x125001 - qA))).bind fun qg => ((some (wrap64 (2 * qf))).bind fun qB => ((some (wrap64 (qB * x125001))).bind fun qC => ((some (wrap64 (x125002 - qC))).bind fun qD => ((some (wrap64 (qf * qf))).bind fun qE => ((some (wrap64 (qE * x125000))).bind fun qF => ((some (wrap64 (qD + qF))).bind fun q9 => (if qg < 0 then ((some (wrap64 (-qg))).bind fun qt => ((some (wrap64 (-qn.2.1))).bind fun qq => ((some (wrap64 (-qn.2.2.2))).bind fun qu => (grids_reduce.j1 k x125000 qt q9 qn.1 qq qn.2.2.1 qu)))) else (grids_reduce.j1 k x125000 qg q9 qn.1 qn.2.1 qn.2.2.1 qn.2.2.2)))))))))))))))
def grids_reduce.j1 : Nat → Int → Int → Int → Int → Int → Int → Int → Option (Int × Int × Int × Int × Int × Int × Int)
 | 0, _, _, _, _, _, _, _ => none
 | k + 1, x125000, x125001, x125002, x128000, x128001, x128002, x128003 => if x125000 ≤ x125002 then (some (x125000, x125001, x125002, x128000, x128001, x128002, x128003)) else (grids_reduce.l0 k x125002 x125001 x125000 x128001 x128000 x128003 x128002)
end
def grids_reduce.f (k : Nat) (a0_0 : Int) (a0_1 : Int) (a0_2 : Int) : Option (Int × Int × Int × Int × Int × Int × Int) := grids_reduce.l0 k a0_0 a0_1 a0_2 1 0 0 1
theorem grids_reduce.mono_l : ∀ k, (∀ y0 y1 y2 y3 y4 y5 y6, LeO (grids_reduce.l0 k y0 y1 y2 y3 y4 y5 y6) (grids_reduce.l0 (k + 1) y0 y1 y2 y3 y4 y5 y6)) ∧ (∀ y0 y1 y2 y3 y4 y5 y6, LeO (grids_reduce.j1 k y0 y1 y2 y3 y4 y5 y6) (grids_reduce.j1 (k + 1) y0 y1 y2 y3 y4 y5 y6))
 | 0 => ⟨fun _ _ _ _ _ _ _ r h => by simp [grids_reduce.l0] at h, fun _ _ _ _ _ _ _ r h => by simp [grids_reduce.j1] at h⟩
 | k + 1 => by
  obtain ⟨ih0, ih1⟩ := grids_reduce.mono_l k
  refine ⟨?_, ?_⟩
  ·intro y0 y1 y2 y3 y4 y5 y6
   unfold grids_reduce.l0
   repeat' first
   | (with_reducible exact ih0 _ _ _ _ _ _ _)
   | (with_reducible exact ih1 _ _ _ _ _ _ _)
   | (with_reducible exact LeO.refl _)
   | (with_reducible exact LeO.none _)
   | (with_reducible refine LeO.ite ?_ ?_)
   | (with_reducible refine LeO.bind ?_ (fun _ => ?_))
   | exact ih0 _ _ _ _ _ _ _
   | exact ih1 _ _ _ _ _ _ _
   | exact LeO.none _
   | refine LeO.ite ?_ ?_
   | refine LeO.bind ?_ (fun _ => ?_)
  ·intro y0 y1 y2 y3 y4 y5 y6
   unfold grids_reduce.j1
   repeat' first
   | (with_reducible exact ih0 _ _ _ _ _ _ _)
   | (with_reducible exact ih1 _ _ _ _ _ _ _)
   | (with_reducible exact LeO.refl _)
   | (with_reducible exact LeO.none _)
   | (with_reducible refine LeO.ite ?_ ?_)
   | (with_reducible refine LeO.bind ?_ (fun _ => ?_))
   | exact ih0 _ _ _ _ _ _ _
   | exact ih1 _ _ _ _ _ _ _
   | exact LeO.none _
   | refine LeO.ite ?_ ?_
   | refine LeO.bind ?_ (fun _ => ?_)
theorem grids_reduce.mono : ∀ a0 a1 a2 k, LeO (grids_reduce.f k a0 a1 a2) (grids_reduce.f (k + 1) a0 a1 a2) := by
 intro a0 a1 a2 k
 obtain ⟨ih0, ih1⟩ := grids_reduce.mono_l k
 unfold grids_reduce.f
 repeat' first
   | (with_reducible exact ih0 _ _ _ _ _ _ _)
   | (with_reducible exact ih1 _ _ _ _ _ _ _)
   | (with_reducible exact LeO.refl _)
   | (with_reducible exact LeO.none _)
   | (with_reducible refine LeO.ite ?_ ?_)
   | (with_reducible refine LeO.bind ?_ (fun _ => ?_))
   | exact ih0 _ _ _ _ _ _ _
   | exact ih1 _ _ _ _ _ _ _
   | exact LeO.none _
   | refine LeO.ite ?_ ?_
   | refine LeO.bind ?_ (fun _ => ?_)
set_option maxHeartbeats 8000000 in
set_option maxRecDepth 100000 in
theorem grids_reduce.calls (k : Nat) (a0_0 : Int) (a0_1 : Int) (a0_2 : Int) (r1 : Int) (r2 : Int) (r3 : Int) (r4 : Int) (r5 : Int) (r6 : Int) (r7 : Int) (w : World) (h : grids_reduce.f k a0_0 a0_1 a0_2 = some (r1, r2, r3, r4, r5, r6, r7)) :
  Calls Try.prog 38 #[.agg #[.int .i64 a0_0, .int .i64 a0_1, .int .i64 a0_2]] w fun e w' => e = .returned (.tuple #[.agg #[.int .i64 r1, .int .i64 r2, .int .i64 r3], .agg #[.int .i64 r4, .int .i64 r5, .int .i64 r6, .int .i64 r7]]) ∧ Below w.heap.size w w' := by
 have hu23 := Try.underlying23
 have hu25 := Try.underlying25
 have HB := Aside0.mk (Below.refl w.heap.size w)
 have H : (grids_reduce.l0 k a0_0 a0_1 a0_2 1 0 0 1) = some (r1, r2, r3, r4, r5, r6, r7) := h
 clear h
 have H' := Aside0.mk H
 clear H
 go_enter Try.func38, Try.ntmps38
 go_wp2_with (first | ((with_reducible refine gate_dst (N := 1) rfl ?_); refine bx 1 #[.int .i64 a0_0, .int .i64 a0_1, .int .i64 a0_2] 23 fun qe hg w2 q0 hb => ?_; have jG := gw hg HB; have jC := gw hg HB; replace HB := bst HB hb; clear hb hg) | ((with_reducible refine gate_dst (N := 2) rfl ?_); refine bx 2 #[.int .i64 0, .int .i64 0, .int .i64 0] 23 fun q5 hg w3 q1 hb => ?_; have jH := gw hg HB; have jD := gw hg HB; have qd := nlt hg q0; have qo := ngt hg q0; replace q0 := bb q0 hb; replace HB := bst HB hb; clear hb hg) | ((with_reducible refine gate_dst (N := 3) rfl ?_); refine bx 3 #[.int .i64 0, .int .i64 0, .int .i64 0, .int .i64 0] 25 fun q4 hg w4 q2 hb => ?_; have jI := gw hg HB; have jE := gw hg HB; have q8 := nlt hg q0; have qk := ngt hg q0; have qh := nlt hg q1; have qi := ngt hg q1; replace q0 := bb q0 hb; replace q1 := bb q1 hb; replace HB := bst HB hb; clear hb hg) | ((with_reducible refine gate_dst (N := 4) rfl ?_); refine bx 4 #[.int .i64 0, .int .i64 0, .int .i64 0, .int .i64 0] 25 fun q7 hg w5 q3 hb => ?_; have jJ := gw hg HB; have jF := gw hg HB; have qj := nlt hg q0; have qm := ngt hg q0; have qp := nlt hg q1; have qa := ngt hg q1; have ql := nlt hg q2; have q6 := ngt hg q2; replace q0 := bb q0 hb; replace q1 := bb q1 hb; replace q2 := bb q2 hb; replace HB := bst HB hb; clear hb hg; have gU := qm.out; have Qf := qj.out; have Q0 := qa.out; have Ql := qp.out; have Q1 := q6.out; have Qm := ql.out; have ⟨qH, qI, qJ, qK, qL, qM, qN, qO⟩ := cf4 q3) | ((with_reducible refine gate_store (t := 25) (p := 4) rfl ?_); refine sx 25 4 (((((w5.setCell ⟨q7, 0, none⟩ (.int .i64 1)).setCell ⟨q7, 1, none⟩ (.int .i64 0)).setCell ⟨q7, 2, none⟩ (.int .i64 0)).setCell ⟨q7, 3, none⟩ (.int .i64 1))) fun w10 hw => ?_; replace q0 := fw hw q0; replace q1 := fw hw q1; replace q2 := fw hw q2; replace q3 := pw4 hw q3; replace HB := bw hw HB; clear hw))
 (try simp only [Act.put, List.setIfInBounds_toArray, List.set_cons_zero, List.set_cons_succ])
 go_loopg [] k (fun kq w' => ∃ (x125000_1 : Int) (x125001_1 : Int) (x125002_1 : Int) (x126000_1 : Int) (x126001_1 : Int) (x126002_1 : Int) (x127000_1 : Int) (x127001_1 : Int) (x127002_1 : Int) (x127003_1 : Int) (x128000_1 : Int) (x128001_1 : Int) (x128002_1 : Int) (x128003_1 : Int), Aside0 (grids_reduce.l0 kq x125000_1 x125001_1 x125002_1 x128000_1 x128001_1 x128002_1 x128003_1 = some (r1, r2, r3, r4, r5, r6, r7)) ∧ Aside0 (kq ≤ k) ∧ Aside0 (w'.heap[qe]? = some (.cells #[.int .i64 x125000_1, .int .i64 x125001_1, .int .i64 x125002_1] 23 (0, 0))) ∧ Aside0 (w'.heap[q5]? = some (.cells #[.int .i64 x126000_1, .int .i64 x126001_1, .int .i64 x126002_1] 23 (0, 0))) ∧ Aside0 (w'.heap[q4]? = some (.cells #[.int .i64 x127000_1, .int .i64 x127001_1, .int .i64 x127002_1, .int .i64 x127003_1] 25 (0, 0))) ∧ Aside0 (w'.heap[q7]? = some (.cells #[.int .i64 x128000_1, .int .i64 x128001_1, .int .i64 x128002_1, .int .i64 x128003_1] 25 (0, 0))) ∧ Aside0 (Below w.heap.size w w'))
 case atStart => exact ⟨(a0_0), (a0_1), (a0_2), (0), (0), (0), (0), (0), (0), (0), (1), (0), (0), (1), H', ⟨Nat.le_refl _⟩, ⟨pk q0⟩, ⟨pk q1⟩, ⟨pk q2⟩, ⟨pk q3⟩, ⟨bnow HB⟩⟩
 case round =>
  clear H'
  try clear p2; try clear c3; try clear c6; try clear c7; try clear c8; try clear qH; try clear qI; try clear qJ; try clear qK; try clear qL; try clear qM; try clear qN; try clear qO
  obtain ⟨x125000_1, x125001_1, x125002_1, x126000_1, x126001_1, x126002_1, x127000_1, x127001_1, x127002_1, x127003_1, x128000_1, x128001_1, x128002_1, x128003_1, HA, HK1, q0, q1, q2, q3, HB⟩ := hrel
  cases gk with
  | zero => exact absurd HA.out (by simp [grids_reduce.l0])
  | succ k1 =>
   have H := HA.out
   clear HA
   simp only [grids_reduce.l0] at H
   obtain ⟨qy, E110, H⟩ := oc H
   have E11w : (IntKind.i64.wrap (2 * x125001_1)) = qy := (i64_w _).trans E110
   obtain ⟨qw, E120, H⟩ := oc H
   have E12w : (IntKind.i64.wrap (qy + x125000_1)) = qw := (i64_w _).trans E120
   obtain ⟨qx, E130, H⟩ := oc H
   have E13w : (IntKind.i64.wrap (2 * x125000_1)) = qx := (i64_w _).trans E130
   obtain ⟨qf, A14, H⟩ := ob H
   obtain ⟨qz, E150, H⟩ := oc H
   have E15w : (IntKind.i64.wrap (-qf)) = qz := (i64_w _).trans E150
   obtain ⟨⟨qb, qv, qc, qs⟩, A16, H⟩ := ob H
   obtain ⟨qA, E170, H⟩ := oc H
   have E17w : (IntKind.i64.wrap (qf * x125000_1)) = qA := (i64_w _).trans E170
   obtain ⟨qg, E180, H⟩ := oc H
   have E18w : (IntKind.i64.wrap (x125001_1 - qA)) = qg := (i64_w _).trans E180
   obtain ⟨qB, E190, H⟩ := oc H
   have E19w : (IntKind.i64.wrap (2 * qf)) = qB := (i64_w _).trans E190
   obtain ⟨qC, E200, H⟩ := oc H
   have E20w : (IntKind.i64.wrap (qB * x125001_1)) = qC := (i64_w _).trans E200
   obtain ⟨qD, E210, H⟩ := oc H
   have E21w : (IntKind.i64.wrap (x125002_1 - qC)) = qD := (i64_w _).trans E210
   obtain ⟨qE, E220, H⟩ := oc H
   have E22w : (IntKind.i64.wrap (qf * qf)) = qE := (i64_w _).trans E220
   obtain ⟨qF, E230, H⟩ := oc H
   have E23w : (IntKind.i64.wrap (qE * x125000_1)) = qF := (i64_w _).trans E230
   obtain ⟨q9, E240, H⟩ := oc H
   have E24w : (IntKind.i64.wrap (qD + qF)) = q9 := (i64_w _).trans E240
   have qG := Aside0.mk H
   clear H
   have gH := qd.out
   have Q2 := qo.out
   have gI := q8.out
   have Q3 := qk.out
   have gJ := qj.out
   have Q4 := qm.out
   have ⟨qQ, qR, qS, je, jf, jg⟩ := cf3 q0
   go_upto_if 49 with (first | ((with_reducible refine gate_callee (f := 71) rfl ?_); refine goesL_ (some 16) rfl rfl Try.func71 (by kernel_rfl) rfl #[.int .i64 qw, .int .i64 qx] rfl am ?_; (with_reducible refine (grids_floor.calls qw qx qf _ A14.out).mono ?_); rintro e w' ⟨rfl, ⟨nd, rfl⟩⟩; refine ⟨_, rfl, ?_⟩; (try (rw [drewN_self wr]; generalize hq_ : World.drewN wr _ = wr; have n0_ : Aside0 (wr.heap[qe]? = some (.cells #[.int .i64 x125000_1, .int .i64 x125001_1, .int .i64 x125002_1] 23 (0, 0))) := ⟨by rw [← hq_]; exact (pk q0)⟩; have n1_ : Aside0 (wr.heap[q5]? = some (.cells #[.int .i64 x126000_1, .int .i64 x126001_1, .int .i64 x126002_1] 23 (0, 0))) := ⟨by rw [← hq_]; exact (pk q1)⟩; have n2_ : Aside0 (wr.heap[q4]? = some (.cells #[.int .i64 x127000_1, .int .i64 x127001_1, .int .i64 x127002_1, .int .i64 x127003_1] 25 (0, 0))) := ⟨by rw [← hq_]; exact (pk q2)⟩; have n3_ : Aside0 (wr.heap[q7]? = some (.cells #[.int .i64 x128000_1, .int .i64 x128001_1, .int .i64 x128002_1, .int .i64 x128003_1] 25 (0, 0))) := ⟨by rw [← hq_]; exact (pk q3)⟩; have n4_ : Aside0 (Below w.heap.size w wr) := ⟨by rw [← hq_]; exact (bnow HB)⟩; clear q0 q1 q2 q3 HB hq_; have q0 := n0_; have q1 := n1_; have q2 := n2_; have q3 := n3_; have HB := n4_; clear n0_ n1_ n2_ n3_ n4_)); have gK := qa.out; have Q5 := qp.out; have gL := q6.out; have Q6 := ql.out; have ⟨qT, qU, qV, qW, jh, ji, jj, jk⟩ := cf4 q3) | ((with_reducible refine gate_callee (f := 40) rfl ?_); refine gl 21 Try.func40 (grids_times.calls x128000_1 x128001_1 x128002_1 x128003_1 1 qz 0 1 qb qv qc qs _ A16.out) ?_; rintro e w33 ⟨rfl, hb⟩; refine ⟨_, rfl, ?_⟩; replace q0 := bb q0 hb; replace q1 := bb q1 hb; replace q2 := bb q2 hb; replace q3 := bb q3 hb; replace HB := bst HB hb; clear hb; have ⟨qX, qY, qZ, j0, jl, jm, jn, jo⟩ := cf4 q3) | ((with_reducible refine gate_store (t := 25) (p := 4) rfl ?_); refine sx 25 4 (((((w33.setCell ⟨q7, 0, none⟩ (.int .i64 qb)).setCell ⟨q7, 1, none⟩ (.int .i64 qv)).setCell ⟨q7, 2, none⟩ (.int .i64 qc)).setCell ⟨q7, 3, none⟩ (.int .i64 qs))) fun w35 hw => ?_; replace q0 := fw hw q0; replace q1 := fw hw q1; replace q2 := fw hw q2; replace q3 := pw4 hw q3; replace HB := bw hw HB; clear hw; have ⟨j1, j2, j3, jp, jq, jr⟩ := cf3 q0) | ((with_reducible refine gate_store (t := 23) (p := 1) rfl ?_); refine sx 23 1 ((((w35.setCell ⟨qe, 0, none⟩ (.int .i64 x125000_1)).setCell ⟨qe, 1, none⟩ (.int .i64 qg)).setCell ⟨qe, 2, none⟩ (.int .i64 q9))) fun w37 hw => ?_; replace q0 := pw3 hw q0; replace q1 := fw hw q1; replace q2 := fw hw q2; replace q3 := fw hw q3; replace HB := bw hw HB; clear hw; have ⟨j4, j5, j6, js, jt, ju⟩ := cf3 q0))
   (try simp only [Act.put, List.setIfInBounds_toArray, List.set_cons_zero, List.set_cons_succ])
   go_cut [] (fun wc => ∃ (kq : Nat) (x125001_24 : Int) (x128001_24 : Int) (x128003_24 : Int), Aside0 (grids_reduce.j1 kq x125000_1 x125001_24 q9 qb x128001_24 qc x128003_24 = some (r1, r2, r3, r4, r5, r6, r7)) ∧ Aside0 (kq ≤ k1) ∧ Aside0 (wc.heap[qe]? = some (.cells #[.int .i64 x125000_1, .int .i64 x125001_24, .int .i64 q9] 23 (0, 0))) ∧ Aside0 (wc.heap[q5]? = some (.cells #[.int .i64 x126000_1, .int .i64 x126001_1, .int .i64 x126002_1] 23 (0, 0))) ∧ Aside0 (wc.heap[q4]? = some (.cells #[.int .i64 x127000_1, .int .i64 x127001_1, .int .i64 x127002_1, .int .i64 x127003_1] 25 (0, 0))) ∧ Aside0 (wc.heap[q7]? = some (.cells #[.int .i64 qb, .int .i64 x128001_24, .int .i64 qc, .int .i64 x128003_24] 25 (0, 0))) ∧ Aside0 (Below w.heap.size w wc))
   case first =>
    have H := qG.out
    clear qG
    by_cases c39 : qg < 0
    ·rw [if_pos c39] at H
     have qr : decide (qg < 0) = true := decide_eq_true c39
     clear c39
     (first | rw [qr] | (simp only [i64_w, i32_w]; rw [qr]) | skip)
     obtain ⟨qt, E400, H⟩ := oc H
     have E40w : (IntKind.i64.wrap (-qg)) = qt := (i64_w _).trans E400
     obtain ⟨qq, E410, H⟩ := oc H
     have E41w : (IntKind.i64.wrap (-qv)) = qq := (i64_w _).trans E410
     obtain ⟨qu, E420, H⟩ := oc H
     have E42w : (IntKind.i64.wrap (-qs)) = qu := (i64_w _).trans E420
     have H' := Aside0.mk H
     clear H
     have gM := qd.out
     have Q7 := qo.out
     have gN := q8.out
     have Q8 := qk.out
     have gO := qj.out
     have Q9 := qm.out
     have ⟨j7, j8, j9, jv, jw, jx⟩ := cf3 q0
     have gP := qa.out
     have Qa := qp.out
     have gQ := q6.out
     have Qb := ql.out
     have ⟨ja, jb, jc, jd, jy, jz, jA, jB⟩ := cf4 q3
     go_wp2_with (first | ((with_reducible refine gate_store (t := 2) (p := 61) rfl ?_); refine sx 2 61 ((((w37.setCell ⟨qe, 1, none⟩ (.int .i64 qt)).setCell ⟨q7, 1, none⟩ (.int .i64 qq)).setCell ⟨q7, 3, none⟩ (.int .i64 qu))) fun w50 hw => ?_; have n0_ : Aside0 (w50.heap[qe]? = some (.cells #[.int .i64 x125000_1, .int .i64 qt, .int .i64 q9] 23 (0, 0))) := ⟨(by rw [hw]; exact (by (with_reducible repeat (first | refine blk_drewN ?_ _ | refine blk_drew ?_ | refine blk_alloc ?_ _)); refine blk_far ?_ qj.out _; (with_reducible repeat (first | refine blk_drewN ?_ _ | refine blk_drew ?_ | refine blk_alloc ?_ _)); refine blk_far ?_ qj.out _; (with_reducible repeat (first | refine blk_drewN ?_ _ | refine blk_drew ?_ | refine blk_alloc ?_ _)); refine blk_put (cs := #[.int .i64 x125000_1, .int .i64 qg, .int .i64 q9]) ?_ 1 _ rfl; (with_reducible repeat (first | refine blk_drewN ?_ _ | refine blk_drew ?_ | refine blk_alloc ?_ _)); exact q0.out))⟩; have n1_ := fw hw q1; have n2_ := fw hw q2; have n3_ : Aside0 (w50.heap[q7]? = some (.cells #[.int .i64 qb, .int .i64 qq, .int .i64 qc, .int .i64 qu] 25 (0, 0))) := ⟨(by rw [hw]; exact (by (with_reducible repeat (first | refine blk_drewN ?_ _ | refine blk_drew ?_ | refine blk_alloc ?_ _)); refine blk_put (cs := #[.int .i64 qb, .int .i64 qq, .int .i64 qc, .int .i64 qs]) ?_ 3 _ rfl; (with_reducible repeat (first | refine blk_drewN ?_ _ | refine blk_drew ?_ | refine blk_alloc ?_ _)); refine blk_put (cs := #[.int .i64 qb, .int .i64 qv, .int .i64 qc, .int .i64 qs]) ?_ 1 _ rfl; (with_reducible repeat (first | refine blk_drewN ?_ _ | refine blk_drew ?_ | refine blk_alloc ?_ _)); refine blk_far ?_ qm.out _; (with_reducible repeat (first | refine blk_drewN ?_ _ | refine blk_drew ?_ | refine blk_alloc ?_ _)); exact q3.out))⟩; have n4_ := bw hw HB; clear hw; clear q0; clear q1; clear q2; clear q3; clear HB; have q0 := n0_; have q1 := n1_; have q2 := n2_; have q3 := n3_; have HB := n4_; clear n0_ n1_ n2_ n3_ n4_))
     go_meet
     case rel => exact ⟨_, (qt), (qq), (qu), H', ⟨by have := HK1.out; first | omega | exact Nat.le_refl _⟩, ⟨pk q0⟩, ⟨pk q1⟩, ⟨pk q2⟩, ⟨pk q3⟩, ⟨bnow HB⟩⟩
    ·rw [if_neg c39] at H
     have qr : decide (qg < 0) = false := decide_eq_false c39
     clear c39
     (first | rw [qr] | (simp only [i64_w, i32_w]; rw [qr]) | skip)
     have H' := Aside0.mk H
     clear H
     go_wp2
     go_meet
     case rel => exact ⟨_, (qg), (qv), (qs), H', ⟨by have := HK1.out; first | omega | exact Nat.le_refl _⟩, ⟨pk q0⟩, ⟨pk q1⟩, ⟨pk q2⟩, ⟨pk q3⟩, ⟨bnow HB⟩⟩
   case rest =>
    clear qG
    try clear c2; try clear p2; try clear c3; try clear c4; try clear c6; try clear p6; try clear c7; try clear c8; try clear c26; try clear c27; try clear c28; try clear c30; try clear c31; try clear c38; try clear c39; try clear qr; try clear c40; try clear c43; try clear c44; try clear c45; try clear c47; try clear c48; try clear qQ; try clear qR; try clear qS; try clear qT; try clear qU; try clear qV; try clear qW; try clear qX; try clear qY; try clear qZ; try clear j0; try clear j1; try clear j2; try clear j3; try clear j4; try clear j5; try clear j6; try clear j7; try clear j8; try clear j9; try clear ja; try clear jb; try clear jc; try clear jd; try clear qH; try clear qI; try clear qJ; try clear qK; try clear je; try clear jf; try clear jg; try clear jh; try clear ji; try clear jj; try clear jk; try clear jl; try clear jm; try clear jn; try clear jo; try clear jp; try clear jq; try clear jr; try clear js; try clear jt; try clear ju; try clear jv; try clear jw; try clear jx; try clear jy; try clear jz; try clear jA; try clear jB; try clear qL; try clear qM; try clear qN; try clear qO; try clear p2
    obtain ⟨kq, x125001_24, x128001_24, x128003_24, HA, HJ24, q0, q1, q2, q3, HB⟩ := hcut
    cases kq with
    | zero => exact absurd HA.out (by simp [grids_reduce.j1])
    | succ kj24 =>
     have H := HA.out
     clear HA
     simp only [grids_reduce.j1] at H
     by_cases c51 : x125000_1 ≤ q9
     ·rw [if_pos c51] at H
      have qP : decide (x125000_1 ≤ q9) = true := decide_eq_true c51
      clear c51
      simp only [Option.some.injEq, Prod.mk.injEq] at H
      obtain ⟨rfl, rfl, rfl, rfl, rfl, rfl, rfl⟩ := H
      have gR := qd.out
      have Qc := qo.out
      have gS := q8.out
      have Qd := qk.out
      have gT := qj.out
      have Qe := qm.out
      have ⟨jK, jL, jM, g5, g6, g7⟩ := cf3 q0
      try go_wp2
      replace q0 := bd q0
      replace q1 := bd q1
      replace q2 := bd q2
      replace q3 := bd q3
      replace HB := bdn HB
      refine start_ (n := 4) (S := fun w' => w'.cell? ⟨qe, 0, none⟩ = some (.int .i64 x125000_1) ∧ w'.cell? ⟨qe, 1, none⟩ = some (.int .i64 x125001_24) ∧ w'.cell? ⟨qe, 2, none⟩ = some (.int .i64 q9) ∧ w'.cell? ⟨q7, 0, none⟩ = some (.int .i64 qb) ∧ w'.cell? ⟨q7, 1, none⟩ = some (.int .i64 x128001_24) ∧ w'.cell? ⟨q7, 2, none⟩ = some (.int .i64 qc) ∧ w'.cell? ⟨q7, 3, none⟩ = some (.int .i64 x128003_24)) (ds := []) #[false, false, false, false] (by kernel_rfl) rfl rfl ⟨(blk_cell q0.out 0).trans rfl, (blk_cell q0.out 1).trans rfl, (blk_cell q0.out 2).trans rfl, (blk_cell q3.out 0).trans rfl, (blk_cell q3.out 1).trans rfl, (blk_cell q3.out 2).trans rfl, (blk_cell q3.out 3).trans rfl⟩ (fun hHeld => ?_)
      generalize wc.drew = w56 at q0 q1 q2 q3 HB hHeld ⊢
      refine take_ (i := 0) (N := some 67) (v := ?_) (a' := ?_) #[true, false, false, false] rfl rfl (by kernel_rfl) (fun _ _ _ h => h) (Or.inl ⟨by rfl, ?_⟩) hHeld ?_ ?_
      rotate_left
      ·rintro w' ⟨s0, s1, s2, s3, s4, s5, s6⟩
       go_simp
       with_reducible rfl
      rotate_left
      ·simp only [Act.put, List.setIfInBounds_toArray, List.set_cons_zero, List.set_cons_succ, i64_w, i32_w]
       rfl
      refine take_ (i := 1) (N := some 68) (v := ?_) (a' := ?_) #[true, true, false, false] rfl rfl (by kernel_rfl) (fun _ _ _ h => h) (Or.inl ⟨by rfl, ?_⟩) hHeld ?_ ?_
      rotate_left
      ·rintro w' ⟨s0, s1, s2, s3, s4, s5, s6⟩
       go_simp
       with_reducible rfl
      rotate_left
      ·simp only [Act.put, List.setIfInBounds_toArray, List.set_cons_zero, List.set_cons_succ, i64_w, i32_w]
       rfl
      refine one_ (i := 2) (N := none) #[true, true, true, false] rfl rfl (by kernel_rfl) (by decide) (fun K hK => ?_)
      have QI : w56.cell? ⟨q5, 0, none⟩ = some (.int .i64 x126000_1) := (blk_cell q1.out 0).trans rfl
      have jY := blk_frozen q1.out 0
      have Qn := qd.out
      have Qo := qi.out
      have Qp := qa.out
      have gj := qo.out
      have gm := qh.out
      have gn := qp.out
      have QJ : w56.cell? ⟨q5, 1, none⟩ = some (.int .i64 x126001_1) := (blk_cell q1.out 1).trans rfl
      have jZ := blk_frozen q1.out 1
      have Qq := qd.out
      have Qr := qi.out
      have Qs := qa.out
      have go := qo.out
      have gp := qh.out
      have gq := qp.out
      have QK : w56.cell? ⟨q5, 2, none⟩ = some (.int .i64 x126002_1) := (blk_cell q1.out 2).trans rfl
      have g0 := blk_frozen q1.out 2
      have Qt := qd.out
      have Qu := qi.out
      have Qv := qa.out
      have gr := qo.out
      have gs := qh.out
      have gt := qp.out
      refine skip_ (w1 := ?_) (by rfl) rfl ?_ ?_
      rotate_left
      ·go_simp
       rfl
      refine hK.out _ _ ⟨((cell_far (p := ⟨q5, _, none⟩) qd.out _).trans (((cell_far (p := ⟨q5, _, none⟩) qd.out _).trans (((cell_far (p := ⟨q5, _, none⟩) qd.out _).trans (hHeld.1)))))), ((cell_far (p := ⟨q5, _, none⟩) qd.out _).trans (((cell_far (p := ⟨q5, _, none⟩) qd.out _).trans (((cell_far (p := ⟨q5, _, none⟩) qd.out _).trans (hHeld.2.1)))))), ((cell_far (p := ⟨q5, _, none⟩) qd.out _).trans (((cell_far (p := ⟨q5, _, none⟩) qd.out _).trans (((cell_far (p := ⟨q5, _, none⟩) qd.out _).trans (hHeld.2.2.1)))))), ((cell_far (p := ⟨q5, _, none⟩) qa.out _).trans (((cell_far (p := ⟨q5, _, none⟩) qa.out _).trans (((cell_far (p := ⟨q5, _, none⟩) qa.out _).trans (hHeld.2.2.2.1)))))), ((cell_far (p := ⟨q5, _, none⟩) qa.out _).trans (((cell_far (p := ⟨q5, _, none⟩) qa.out _).trans (((cell_far (p := ⟨q5, _, none⟩) qa.out _).trans (hHeld.2.2.2.2.1)))))), ((cell_far (p := ⟨q5, _, none⟩) qa.out _).trans (((cell_far (p := ⟨q5, _, none⟩) qa.out _).trans (((cell_far (p := ⟨q5, _, none⟩) qa.out _).trans (hHeld.2.2.2.2.2.1)))))), ((cell_far (p := ⟨q5, _, none⟩) qa.out _).trans (((cell_far (p := ⟨q5, _, none⟩) qa.out _).trans (((cell_far (p := ⟨q5, _, none⟩) qa.out _).trans (hHeld.2.2.2.2.2.2))))))⟩ (fun hHeld => ?_)
      clear hK K
      refine one_ (i := 3) (N := none) #[true, true, true, true] rfl rfl (by kernel_rfl) (by decide) (fun K hK => ?_)
      have QL : w56.cell? ⟨q4, 0, none⟩ = some (.int .i64 x127000_1) := (blk_cell q2.out 0).trans rfl
      have g1 := blk_frozen q2.out 0
      have Qw := q8.out
      have Qx := qh.out
      have Qy := q6.out
      have gu := qk.out
      have gv := qi.out
      have gx := ql.out
      have QM : w56.cell? ⟨q4, 1, none⟩ = some (.int .i64 x127001_1) := (blk_cell q2.out 1).trans rfl
      have g2 := blk_frozen q2.out 1
      have Qz := q8.out
      have QA := qh.out
      have QB := q6.out
      have gy := qk.out
      have gz := qi.out
      have gA := ql.out
      have QN : w56.cell? ⟨q4, 2, none⟩ = some (.int .i64 x127002_1) := (blk_cell q2.out 2).trans rfl
      have g3 := blk_frozen q2.out 2
      have QC := q8.out
      have QD := qh.out
      have QE := q6.out
      have gB := qk.out
      have gC := qi.out
      have gD := ql.out
      have QO : w56.cell? ⟨q4, 3, none⟩ = some (.int .i64 x127003_1) := (blk_cell q2.out 3).trans rfl
      have g4 := blk_frozen q2.out 3
      have QF := q8.out
      have QG := qh.out
      have QH := q6.out
      have gE := qk.out
      have gF := qi.out
      have gG := ql.out
      refine skip_ (w1 := ?_) (by rfl) rfl ?_ ?_
      rotate_left
      ·go_simp
       rfl
      refine hK.out _ _ ⟨((cell_far (p := ⟨q4, _, none⟩) q8.out _).trans (((cell_far (p := ⟨q4, _, none⟩) q8.out _).trans (((cell_far (p := ⟨q4, _, none⟩) q8.out _).trans (((cell_far (p := ⟨q4, _, none⟩) q8.out _).trans (hHeld.1)))))))), ((cell_far (p := ⟨q4, _, none⟩) q8.out _).trans (((cell_far (p := ⟨q4, _, none⟩) q8.out _).trans (((cell_far (p := ⟨q4, _, none⟩) q8.out _).trans (((cell_far (p := ⟨q4, _, none⟩) q8.out _).trans (hHeld.2.1)))))))), ((cell_far (p := ⟨q4, _, none⟩) q8.out _).trans (((cell_far (p := ⟨q4, _, none⟩) q8.out _).trans (((cell_far (p := ⟨q4, _, none⟩) q8.out _).trans (((cell_far (p := ⟨q4, _, none⟩) q8.out _).trans (hHeld.2.2.1)))))))), ((cell_far (p := ⟨q4, _, none⟩) q6.out _).trans (((cell_far (p := ⟨q4, _, none⟩) q6.out _).trans (((cell_far (p := ⟨q4, _, none⟩) q6.out _).trans (((cell_far (p := ⟨q4, _, none⟩) q6.out _).trans (hHeld.2.2.2.1)))))))), ((cell_far (p := ⟨q4, _, none⟩) q6.out _).trans (((cell_far (p := ⟨q4, _, none⟩) q6.out _).trans (((cell_far (p := ⟨q4, _, none⟩) q6.out _).trans (((cell_far (p := ⟨q4, _, none⟩) q6.out _).trans (hHeld.2.2.2.2.1)))))))), ((cell_far (p := ⟨q4, _, none⟩) q6.out _).trans (((cell_far (p := ⟨q4, _, none⟩) q6.out _).trans (((cell_far (p := ⟨q4, _, none⟩) q6.out _).trans (((cell_far (p := ⟨q4, _, none⟩) q6.out _).trans (hHeld.2.2.2.2.2.1)))))))), ((cell_far (p := ⟨q4, _, none⟩) q6.out _).trans (((cell_far (p := ⟨q4, _, none⟩) q6.out _).trans (((cell_far (p := ⟨q4, _, none⟩) q6.out _).trans (((cell_far (p := ⟨q4, _, none⟩) q6.out _).trans (hHeld.2.2.2.2.2.2))))))))⟩ (fun hHeld => ?_)
      clear hK K
      refine done_ (by kernel_rfl) ?_
      try go_wp2
      refine bodyPost_ret (results_cc rfl _ _ q5 q4 23 25 #[.int .i64 x125000_1, .int .i64 x125001_24, .int .i64 q9] #[.int .i64 qb, .int .i64 x128001_24, .int .i64 qc, .int .i64 x128003_24] (0, 0) (0, 0) _ _ rfl (by (with_reducible repeat (first | refine blk_drewN ?_ _ | refine blk_drew ?_ | refine blk_alloc ?_ _)); refine blk_far ?_ qh.out _; (with_reducible repeat (first | refine blk_drewN ?_ _ | refine blk_drew ?_ | refine blk_alloc ?_ _)); refine blk_far ?_ qh.out _; (with_reducible repeat (first | refine blk_drewN ?_ _ | refine blk_drew ?_ | refine blk_alloc ?_ _)); refine blk_far ?_ qh.out _; (with_reducible repeat (first | refine blk_drewN ?_ _ | refine blk_drew ?_ | refine blk_alloc ?_ _)); refine blk_far ?_ qh.out _; (with_reducible repeat (first | refine blk_drewN ?_ _ | refine blk_drew ?_ | refine blk_alloc ?_ _)); refine blk_put (cs := #[.int .i64 x125000_1, .int .i64 x125001_24, .int .i64 x126002_1]) ?_ 2 _ rfl; (with_reducible repeat (first | refine blk_drewN ?_ _ | refine blk_drew ?_ | refine blk_alloc ?_ _)); refine blk_put (cs := #[.int .i64 x125000_1, .int .i64 x126001_1, .int .i64 x126002_1]) ?_ 1 _ rfl; (with_reducible repeat (first | refine blk_drewN ?_ _ | refine blk_drew ?_ | refine blk_alloc ?_ _)); refine blk_put (cs := #[.int .i64 x126000_1, .int .i64 x126001_1, .int .i64 x126002_1]) ?_ 0 _ rfl; (with_reducible repeat (first | refine blk_drewN ?_ _ | refine blk_drew ?_ | refine blk_alloc ?_ _)); exact q1.out) Try.underlying23 rfl (by kernel_rfl) rfl (by (with_reducible repeat (first | refine blk_drewN ?_ _ | refine blk_drew ?_ | refine blk_alloc ?_ _)); refine blk_put (cs := #[.int .i64 qb, .int .i64 x128001_24, .int .i64 qc, .int .i64 x127003_1]) ?_ 3 _ rfl; (with_reducible repeat (first | refine blk_drewN ?_ _ | refine blk_drew ?_ | refine blk_alloc ?_ _)); refine blk_put (cs := #[.int .i64 qb, .int .i64 x128001_24, .int .i64 x127002_1, .int .i64 x127003_1]) ?_ 2 _ rfl; (with_reducible repeat (first | refine blk_drewN ?_ _ | refine blk_drew ?_ | refine blk_alloc ?_ _)); refine blk_put (cs := #[.int .i64 qb, .int .i64 x127001_1, .int .i64 x127002_1, .int .i64 x127003_1]) ?_ 1 _ rfl; (with_reducible repeat (first | refine blk_drewN ?_ _ | refine blk_drew ?_ | refine blk_alloc ?_ _)); refine blk_put (cs := #[.int .i64 x127000_1, .int .i64 x127001_1, .int .i64 x127002_1, .int .i64 x127003_1]) ?_ 0 _ rfl; (with_reducible repeat (first | refine blk_drewN ?_ _ | refine blk_drew ?_ | refine blk_alloc ?_ _)); refine blk_far ?_ qi.out _; (with_reducible repeat (first | refine blk_drewN ?_ _ | refine blk_drew ?_ | refine blk_alloc ?_ _)); refine blk_far ?_ qi.out _; (with_reducible repeat (first | refine blk_drewN ?_ _ | refine blk_drew ?_ | refine blk_alloc ?_ _)); refine blk_far ?_ qi.out _; (with_reducible repeat (first | refine blk_drewN ?_ _ | refine blk_drew ?_ | refine blk_alloc ?_ _)); exact q2.out) Try.underlying25 rfl (by kernel_rfl)) rfl ?_
      exact rt HB
     ·rw [if_neg c51] at H
      have qP : decide (x125000_1 ≤ q9) = false := decide_eq_false c51
      clear c51
      have H' := Aside0.mk H
      clear H
      have gV := qd.out
      have Qg := qo.out
      have gW := q8.out
      have Qh := qk.out
      have gX := qj.out
      have Qi := qm.out
      have ⟨jN, jO, jP, g8, g9, ga⟩ := cf3 q0
      have gY := qa.out
      have Qj := qp.out
      have gZ := q6.out
      have Qk := ql.out
      have ⟨jQ, jR, jS, jT, gb, gc, gd, ge⟩ := cf4 q3
      go_wp2_with (first | ((with_reducible refine gate_store (t := 2) (p := 83) rfl ?_); refine sx 2 83 ((((wc.setCell ⟨qe, 0, none⟩ (.int .i64 q9)).setCell ⟨qe, 2, none⟩ (.int .i64 x125000_1)).setCell ⟨q7, 0, none⟩ (.int .i64 x128001_24))) fun w71 hw => ?_; have n0_ : Aside0 (w71.heap[qe]? = some (.cells #[.int .i64 q9, .int .i64 x125001_24, .int .i64 x125000_1] 23 (0, 0))) := ⟨(by rw [hw]; exact (by (with_reducible repeat (first | refine blk_drewN ?_ _ | refine blk_drew ?_ | refine blk_alloc ?_ _)); refine blk_far ?_ qj.out _; (with_reducible repeat (first | refine blk_drewN ?_ _ | refine blk_drew ?_ | refine blk_alloc ?_ _)); refine blk_put (cs := #[.int .i64 q9, .int .i64 x125001_24, .int .i64 q9]) ?_ 2 _ rfl; (with_reducible repeat (first | refine blk_drewN ?_ _ | refine blk_drew ?_ | refine blk_alloc ?_ _)); refine blk_put (cs := #[.int .i64 x125000_1, .int .i64 x125001_24, .int .i64 q9]) ?_ 0 _ rfl; (with_reducible repeat (first | refine blk_drewN ?_ _ | refine blk_drew ?_ | refine blk_alloc ?_ _)); exact q0.out))⟩; have n1_ := fw hw q1; have n2_ := fw hw q2; have n3_ : Aside0 (w71.heap[q7]? = some (.cells #[.int .i64 x128001_24, .int .i64 x128001_24, .int .i64 qc, .int .i64 x128003_24] 25 (0, 0))) := ⟨(by rw [hw]; exact (by (with_reducible repeat (first | refine blk_drewN ?_ _ | refine blk_drew ?_ | refine blk_alloc ?_ _)); refine blk_put (cs := #[.int .i64 qb, .int .i64 x128001_24, .int .i64 qc, .int .i64 x128003_24]) ?_ 0 _ rfl; (with_reducible repeat (first | refine blk_drewN ?_ _ | refine blk_drew ?_ | refine blk_alloc ?_ _)); refine blk_far ?_ qm.out _; (with_reducible repeat (first | refine blk_drewN ?_ _ | refine blk_drew ?_ | refine blk_alloc ?_ _)); refine blk_far ?_ qm.out _; (with_reducible repeat (first | refine blk_drewN ?_ _ | refine blk_drew ?_ | refine blk_alloc ?_ _)); exact q3.out))⟩; have n4_ := bw hw HB; clear hw; clear q0; clear q1; clear q2; clear q3; clear HB; have q0 := n0_; have q1 := n1_; have q2 := n2_; have q3 := n3_; have HB := n4_; clear n0_ n1_ n2_ n3_ n4_; have ⟨jU, jV, jW, jX, gf, gg, gh, gi⟩ := cf4 q3) | ((with_reducible refine gate_store (t := 2) (p := 86) rfl ?_); refine sx 2 86 ((((w71.setCell ⟨q7, 1, none⟩ (.int .i64 qb)).setCell ⟨q7, 2, none⟩ (.int .i64 x128003_24)).setCell ⟨q7, 3, none⟩ (.int .i64 qc))) fun w73 hw => ?_; have n0_ := fw hw q0; have n1_ := fw hw q1; have n2_ := fw hw q2; have n3_ : Aside0 (w73.heap[q7]? = some (.cells #[.int .i64 x128001_24, .int .i64 qb, .int .i64 x128003_24, .int .i64 qc] 25 (0, 0))) := ⟨(by rw [hw]; exact (by (with_reducible repeat (first | refine blk_drewN ?_ _ | refine blk_drew ?_ | refine blk_alloc ?_ _)); refine blk_put (cs := #[.int .i64 x128001_24, .int .i64 qb, .int .i64 x128003_24, .int .i64 x128003_24]) ?_ 3 _ rfl; (with_reducible repeat (first | refine blk_drewN ?_ _ | refine blk_drew ?_ | refine blk_alloc ?_ _)); refine blk_put (cs := #[.int .i64 x128001_24, .int .i64 qb, .int .i64 qc, .int .i64 x128003_24]) ?_ 2 _ rfl; (with_reducible repeat (first | refine blk_drewN ?_ _ | refine blk_drew ?_ | refine blk_alloc ?_ _)); refine blk_put (cs := #[.int .i64 x128001_24, .int .i64 x128001_24, .int .i64 qc, .int .i64 x128003_24]) ?_ 1 _ rfl; (with_reducible repeat (first | refine blk_drewN ?_ _ | refine blk_drew ?_ | refine blk_alloc ?_ _)); exact q3.out))⟩; have n4_ := bw hw HB; clear hw; clear q0; clear q1; clear q2; clear q3; clear HB; have q0 := n0_; have q1 := n1_; have q2 := n2_; have q3 := n3_; have HB := n4_; clear n0_ n1_ n2_ n3_ n4_))
      go_roundg kj24
      case measure => have := HK1.out; have := HJ24.out; omega
      case rel => exact ⟨(q9), (x125001_24), (x125000_1), (x126000_1), (x126001_1), (x126002_1), (x127000_1), (x127001_1), (x127002_1), (x127003_1), (x128001_24), (qb), (x128003_24), (qc), H', ⟨by have := HK1.out; have := HJ24.out; omega⟩, ⟨pk q0⟩, ⟨pk q1⟩, ⟨pk q2⟩, ⟨pk q3⟩, ⟨bnow HB⟩⟩
end
section
theorem eqA23 (d : Nat) (w : World) (x0 y0 : Int) (x1 y1 : Int) (x2 y2 : Int) :
  (Op.equalIn (d + 2) 23 (.agg #[.int .i64 x0, .int .i64 x1, .int .i64 x2]) (.agg #[.int .i64 y0, .int .i64 y1, .int .i64 y2])).run Try.prog w = .ok (x0 == y0 && (x1 == y1 && (x2 == y2))) w := by
 refine eqA_of Try.underlying23 (by kernel_rfl) ?_
 refine eqf_cons (by rfl) (by go_simp; rfl) (by go_simp; rfl) (by go_simp) ?_
 refine eqf_cons (by rfl) (by go_simp; rfl) (by go_simp; rfl) (by go_simp) ?_
 exact eqf_last (by rfl) (by go_simp; rfl) (by go_simp; rfl) (by go_simp)
end
end Go.Proofs.Ytmcajdepoohlhaa.G
