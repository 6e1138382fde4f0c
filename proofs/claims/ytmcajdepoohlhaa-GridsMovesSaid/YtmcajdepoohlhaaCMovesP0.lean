/- Functions of the program as plain Lean functions, and their contracts (printed by a program of this session). No condition beyond what each states. -/
import Derived.Test.YtmcajdepoohlhaaProg
import Derived.Below
import Derived.Deep.Draws
import Derived.Deep.AppendLies
import Derived.Maps.AppendAt
import Derived.OwnWalk
import Derived.Laws.BytesArg
import Derived.Laws.MakeOwn
import Derived.Laws.OwnMore
import Derived.Deep.OwnRows
import Derived.Tactics
import Derived.Lib.ConvBytes
import Derived.Laws.Slices
import Derived.WalkKit
import Derived.KernelRfl
import Derived.RowKit3
import Derived.Deep.LoopGhost
import Derived.Deep.QuietTactic
import Derived.BigQuiet
import Derived.WideLaws
import Derived.Deep.DeepCutAuto
import Derived.Deep.CutBlock
import Derived.Deep.RegionHeld3
import Derived.Laws.Rows
import Derived.Lib.AppendStr
import Derived.ArgAppend
import Derived.Laws.IdiomCopy
import Derived.OrdersHeld
import Derived.Laws.BitsLemmas
import Derived.RowKit
import Derived.Test.YtmcajdepoohlhaaCMovesFn
import Derived.Test.YtmcajdepoohlhaaCMovesZ
import Derived.Test.YtmcajdepoohlhaaCMovesWWords
import Derived.Test.YtmcajdepoohlhaaCMovesWLast
import Derived.Test.YtmcajdepoohlhaaCMovesWTab
import Derived.Test.YtmcajdepoohlhaaCMovesWFour
import Derived.Test.YtmcajdepoohlhaaCMovesWQPut
import Derived.Test.YtmcajdepoohlhaaCMovesWApart
import Derived.Test.YtmcajdepoohlhaaCMovesWArr
import Derived.Test.YtmcajdepoohlhaaCMovesWZeros
import Derived.Test.YtmcajdepoohlhaaCMovesWFoot
import Derived.Test.YtmcajdepoohlhaaCMovesWKept
import Derived.Test.YtmcajdepoohlhaaCMovesWShare
import Derived.Test.YtmcajdepoohlhaaCMovesWN
import Derived.Test.YtmcajdepoohlhaaCMovesWFootNe
import Derived.Test.YtmcajdepoohlhaaCMovesWAt
import Derived.Test.YtmcajdepoohlhaaCMovesWEqStruct
import Derived.Test.YtmcajdepoohlhaaCMovesWRepsOne
import Derived.Test.YtmcajdepoohlhaaCMovesWInv
import Derived.Test.YtmcajdepoohlhaaCMovesWInvWords
import Derived.Test.YtmcajdepoohlhaaCMovesWGuard
import Derived.Test.YtmcajdepoohlhaaCMovesWNEv
import Derived.Test.YtmcajdepoohlhaaCMovesWMore
import Derived.Test.YtmcajdepoohlhaaCMovesY
namespace Go.Proofs.Ytmcajdepoohlhaa.G
open Go.RowKit Go.Proofs.YtmcajdepoohlhaaW.PrintWords Go.Proofs.YtmcajdepoohlhaaW.PrintLast Go.Proofs.YtmcajdepoohlhaaW.PrintMore
attribute [local go_sem] max2_int min2_int max_two min_two max_three min_three max_four min_four
set_option linter.unusedVariables false
set_option linter.unusedSimpArgs false
section
def errW : Option Int → Value
  | none => .nilIface
  | some c => .iface 0 (.int .i64 c)
theorem errW_none : errW none = .nilIface := rfl
theorem errW_some (c : Int) : errW (some c) = .iface 0 (.int .i64 c) := rfl
theorem info3 : (Try.prog.info? 3).map (fun i => (i.zero, i.size, i.bytes)) = some (some (.int .i64 0), 1, 8) := by kernel_rfl
theorem info25 : (Try.prog.info? 25).map (fun i => (i.zero, i.size, i.bytes)) = some (some (.agg #[(.int .i64 0), (.int .i64 0), (.int .i64 0), (.int .i64 0)]), 4, 32) := by kernel_rfl
theorem info37 : (Try.prog.info? 37).map (fun i => (i.zero, i.size, i.bytes)) = some (some (.agg #[(.int .i64 0), (.int .i64 0)]), 2, 16) := by kernel_rfl
-- the values' own types
/-! #### struct type 25 -/
structure S25 where
  f0 : Int
  f1 : Int
  f2 : Int
  f3 : Int
def z25 : S25 := ⟨(0 : Int), (0 : Int), (0 : Int), (0 : Int)⟩
def k25 : Kd S25 := Kd.iso (Kd.pair (Kd.int .i64) (Kd.pair (Kd.int .i64) (Kd.pair (Kd.int .i64) (Kd.int .i64)))) (fun x : S25 => (x.f0, x.f1, x.f2, x.f3))
theorem k25_open {w : World} {x : S25} {cs : List Value} (h : k25.K w x cs) : cs = [.int .i64 x.f0, .int .i64 x.f1, .int .i64 x.f2, .int .i64 x.f3] := by
  obtain ⟨_, _, rfl, rfl, ⟨_, _, rfl, rfl, ⟨_, _, rfl, rfl, rfl⟩⟩⟩ := h
  exact rfl
theorem k25_openM {w : World} {base : Nat} {ok : Nat → Prop} {x : S25} {cs : List Value} (h : k25.M w base ok x cs) : cs = [.int .i64 x.f0, .int .i64 x.f1, .int .i64 x.f2, .int .i64 x.f3] := by
  obtain ⟨_, _, rfl, rfl, ⟨_, _, rfl, rfl, ⟨_, _, rfl, rfl, rfl⟩⟩⟩ := h
  exact rfl
theorem k25_mk (w : World) (x : S25)  : k25.K w x [.int .i64 x.f0, .int .i64 x.f1, .int .i64 x.f2, .int .i64 x.f3] := ⟨[.int .i64 x.f0], [.int .i64 x.f1, .int .i64 x.f2, .int .i64 x.f3], rfl, rfl, ⟨[.int .i64 x.f1], [.int .i64 x.f2, .int .i64 x.f3], rfl, rfl, ⟨[.int .i64 x.f2], [.int .i64 x.f3], rfl, rfl, rfl⟩⟩⟩
theorem k25_mkM (w : World) (base : Nat) (ok : Nat → Prop) (x : S25)  : k25.M w base ok x [.int .i64 x.f0, .int .i64 x.f1, .int .i64 x.f2, .int .i64 x.f3] := ⟨[.int .i64 x.f0], [.int .i64 x.f1, .int .i64 x.f2, .int .i64 x.f3], rfl, rfl, ⟨[.int .i64 x.f1], [.int .i64 x.f2, .int .i64 x.f3], rfl, rfl, ⟨[.int .i64 x.f2], [.int .i64 x.f3], rfl, rfl, rfl⟩⟩⟩
def rd_T25 (xs : List S25) (i : Int) : S25 := xs.getD i.toNat z25
theorem at_T25 {w : World} {A : Option Addr} {n : Nat} {xs : List S25} (h : Kd.C k25 w A n xs) (i : Int) (h0 : 0 ≤ i) (h1 : i < n) : ∃ ad , A = some ad ∧ w.cell? (ad.add (i.toNat * 4)) = some (.int .i64 (rd_T25 xs i).f0) ∧ w.cell? ⟨(ad.add (i.toNat * 4)).block, (ad.add (i.toNat * 4)).off + 1, none⟩ = some (.int .i64 (rd_T25 xs i).f1) ∧ w.cell? ⟨(ad.add (i.toNat * 4)).block, (ad.add (i.toNat * 4)).off + 2, none⟩ = some (.int .i64 (rd_T25 xs i).f2) ∧ w.cell? ⟨(ad.add (i.toNat * 4)).block, (ad.add (i.toNat * 4)).off + 3, none⟩ = some (.int .i64 (rd_T25 xs i).f3) := by
  obtain ⟨ad, c, e, _, hK, hc0⟩ := Kd.C_get h z25 i h0 h1
  have hc : ∀ j u, c[j]? = some u → w.cell? (ad.add (i.toNat * 4 + j)) = some u := hc0
  obtain rfl := k25_open hK
  exact ⟨ad, e, hc 0 _ rfl, by rw [← add_field _ _ 1 (by omega)]; exact hc 1 _ rfl, by rw [← add_field _ _ 2 (by omega)]; exact hc 2 _ rfl, by rw [← add_field _ _ 3 (by omega)]; exact hc 3 _ rfl⟩
/-! #### struct type 37 -/
structure S37 where
  f0 : Int
  f1 : Int
def z37 : S37 := ⟨(0 : Int), (0 : Int)⟩
def k37 : Kd S37 := Kd.iso (Kd.pair (Kd.int .i64) (Kd.int .i64)) (fun x : S37 => (x.f0, x.f1))
theorem k37_open {w : World} {x : S37} {cs : List Value} (h : k37.K w x cs) : cs = [.int .i64 x.f0, .int .i64 x.f1] := by
  obtain ⟨_, _, rfl, rfl, rfl⟩ := h
  exact rfl
theorem k37_openM {w : World} {base : Nat} {ok : Nat → Prop} {x : S37} {cs : List Value} (h : k37.M w base ok x cs) : cs = [.int .i64 x.f0, .int .i64 x.f1] := by
  obtain ⟨_, _, rfl, rfl, rfl⟩ := h
  exact rfl
theorem k37_mk (w : World) (x : S37)  : k37.K w x [.int .i64 x.f0, .int .i64 x.f1] := ⟨[.int .i64 x.f0], [.int .i64 x.f1], rfl, rfl, rfl⟩
theorem k37_mkM (w : World) (base : Nat) (ok : Nat → Prop) (x : S37)  : k37.M w base ok x [.int .i64 x.f0, .int .i64 x.f1] := ⟨[.int .i64 x.f0], [.int .i64 x.f1], rfl, rfl, rfl⟩
def rd_T37 (xs : List S37) (i : Int) : S37 := xs.getD i.toNat z37
theorem at_T37 {w : World} {A : Option Addr} {n : Nat} {xs : List S37} (h : Kd.C k37 w A n xs) (i : Int) (h0 : 0 ≤ i) (h1 : i < n) : ∃ ad , A = some ad ∧ w.cell? (ad.add (i.toNat * 2)) = some (.int .i64 (rd_T37 xs i).f0) ∧ w.cell? ⟨(ad.add (i.toNat * 2)).block, (ad.add (i.toNat * 2)).off + 1, none⟩ = some (.int .i64 (rd_T37 xs i).f1) := by
  obtain ⟨ad, c, e, _, hK, hc0⟩ := Kd.C_get h z37 i h0 h1
  have hc : ∀ j u, c[j]? = some u → w.cell? (ad.add (i.toNat * 2 + j)) = some u := hc0
  obtain rfl := k37_open hK
  exact ⟨ad, e, hc 0 _ rfl, by rw [← add_field _ _ 1 (by omega)]; exact hc 1 _ rfl⟩
end
section
theorem eqA37 (d : Nat) (w : World) (x0 y0 : Int) (x1 y1 : Int) :
    (Op.equalIn (d + 2) 37 (.agg #[.int .i64 x0, .int .i64 x1]) (.agg #[.int .i64 y0, .int .i64 y1])).run Try.prog w = .ok (x0 == y0 && (x1 == y1)) w := by
  refine eqA_of Try.underlying37 (by kernel_rfl) ?_
  refine eqf_cons (by rfl) (by go_simp; rfl) (by go_simp; rfl) (by go_simp) ?_
  exact eqf_last (by rfl) (by go_simp; rfl) (by go_simp; rfl) (by go_simp)
end
section
theorem eqA25 (d : Nat) (w : World) (x0 y0 : Int) (x1 y1 : Int) (x2 y2 : Int) (x3 y3 : Int) :
    (Op.equalIn (d + 2) 25 (.agg #[.int .i64 x0, .int .i64 x1, .int .i64 x2, .int .i64 x3]) (.agg #[.int .i64 y0, .int .i64 y1, .int .i64 y2, .int .i64 y3])).run Try.prog w = .ok (x0 == y0 && (x1 == y1 && (x2 == y2 && (x3 == y3)))) w := by
  refine eqA_of Try.underlying25 (by kernel_rfl) ?_
  refine eqf_cons (by rfl) (by go_simp; rfl) (by go_simp; rfl) (by go_simp) ?_
  refine eqf_cons (by rfl) (by go_simp; rfl) (by go_simp; rfl) (by go_simp) ?_
  refine eqf_cons (by rfl) (by go_simp; rfl) (by go_simp; rfl) (by go_simp) ?_
  exact eqf_last (by rfl) (by go_simp; rfl) (by go_simp; rfl) (by go_simp)
end
section
theorem eqA55 (d : Nat) (w : World) (x0 y0 : Int) (x1 y1 : Int) (x2 y2 : Int) (x3 y3 : Int) (x4 y4 : Int) (x5 y5 : Int) :
    (Op.equalIn (d + 3) 55 (.agg #[.int .i64 x0, .int .i64 x1, .int .i64 x2, .int .i64 x3, .int .i64 x4, .int .i64 x5]) (.agg #[.int .i64 y0, .int .i64 y1, .int .i64 y2, .int .i64 y3, .int .i64 y4, .int .i64 y5])).run Try.prog w = .ok ((x0 == y0 && (x1 == y1 && (x2 == y2 && (x3 == y3)))) && ((x4 == y4 && (x5 == y5)))) w := by
  refine eqA_of Try.underlying55 (by kernel_rfl) ?_
  refine eqf_cons (by rfl) (by go_simp) (by go_simp) (eqA25 (d + 0) w _ _ _ _ _ _ _ _) ?_
  exact eqf_last (by rfl) (by go_simp) (by go_simp) (eqA37 (d + 0) w _ _ _ _)
end
section
/-! ### grids_outside: function 46 -/
def grids_outside.f (a0 : Int) (a1 : Int) : Option (Bool) := (some (wrap64 (-a1))).bind fun z101 => (if a0 < z101 then (some true) else (some (decide (a0 > a1))))
set_option maxHeartbeats 8000000 in
set_option maxRecDepth 100000 in
theorem grids_outside.calls (a0 : Int) (a1 : Int) (r : Bool) (w : World) (h : grids_outside.f a0 a1 = some r) :
    Calls Try.prog 46 #[.int .i64 a0, .int .i64 a1] w fun e w' => e = .returned (.bool r) ∧ Drawn0 w w' := by
  have H : ((some (wrap64 (-a1))).bind fun z101 => (if a0 < z101 then (some true) else (some (decide (a0 > a1))))) = some r := h
  clear h
  obtain ⟨z101, E30, H⟩ := oc H
  have E3w : (IntKind.i64.wrap (-a1)) = z101 := (i64_w _).trans E30
  by_cases c4 : a0 < z101
  · rw [if_pos c4] at H
    have c4b0 : decide (a0 < z101) = true := decide_eq_true c4
    clear c4
    obtain rfl := Option.some.inj H
    go_enter Try.func46, Try.ntmps46
    go_wp2
    go_ret
    exact ⟨by first | rfl | (simp; done) | (simp [*]; done), by repeat (first | exact Drawn0.refl _ | apply Drawn0.step)⟩
  · rw [if_neg c4] at H
    have c4b0 : decide (a0 < z101) = false := decide_eq_false c4
    clear c4
    obtain rfl := Option.some.inj H
    go_enter Try.func46, Try.ntmps46
    go_wp2
    go_ret
    exact ⟨by first | rfl | (simp; done) | (simp [*]; done), by repeat (first | exact Drawn0.refl _ | apply Drawn0.step)⟩
end
section
/-! ### grids_point_1: function 77 -/
def grids_point_1.f (a0_0 : Int) (a0_1 : Int) : Option (Bool) := (grids_outside.f a0_0 1000000).bind fun t395 => (if t395 = true then (some true) else ((grids_outside.f a0_1 1000000).bind fun t396 => (some t396)))
set_option maxHeartbeats 8000000 in
set_option maxRecDepth 100000 in
theorem grids_point_1.calls (a0_0 : Int) (a0_1 : Int) (r : Bool) (w : World) (h : grids_point_1.f a0_0 a0_1 = some r) :
    Calls Try.prog 77 #[.agg #[.int .i64 a0_0, .int .i64 a0_1]] w fun e w' => e = .returned (.bool r) ∧ Below w.heap.size w w' := by
  have hu37 := Try.underlying37
  have HB := Aside0.mk (Below.refl w.heap.size w)
  have H : ((grids_outside.f a0_0 1000000).bind fun t395 => (if t395 = true then (some true) else ((grids_outside.f a0_1 1000000).bind fun t396 => (some t396)))) = some r := h
  clear h
  obtain ⟨t395, A2, H⟩ := ob H
  by_cases c3 : t395 = true
  · subst c3
    have H1 : (some true) = some r := by rw [if_pos rfl] at H; exact H
    clear H
    have H := H1
    clear H1
    obtain rfl := Option.some.inj H
    go_enter Try.func77, Try.ntmps77
    go_wp2_with (first | ((with_reducible refine gate_dst (N := 1) rfl ?_); refine bx 1 #[.int .i64 a0_0, .int .i64 a0_1] 37 fun gb394 hg w4 BK394 hb => ?_; have GW394 := gw hg HB; have GE394 := gw hg HB; replace HB := bst HB hb; clear hb hg; have ⟨hcz5_0, hcz5_1, hfz5_0, hfz5_1⟩ := cf2 BK394) | ((with_reducible refine gate_callee (f := 46) rfl ?_); refine goesL_ (some 5) rfl rfl Try.func46 (by kernel_rfl) rfl #[.int .i64 a0_0, .int .i64 1000000] rfl am ?_; (with_reducible refine (grids_outside.calls a0_0 1000000 true _ A2.out).mono ?_); rintro e w' ⟨rfl, ⟨nd, rfl⟩⟩; refine ⟨_, rfl, ?_⟩))
    go_ret
    exact rt HB
  · replace c3 := Bool.eq_false_iff.mpr c3
    subst c3
    have H1 : ((grids_outside.f a0_1 1000000).bind fun t396 => (some t396)) = some r := by rw [if_neg (show ¬ (false = true) by decide)] at H; exact H
    clear H
    have H := H1
    clear H1
    obtain ⟨t396, A6, H⟩ := ob H
    obtain rfl := Option.some.inj H
    go_enter Try.func77, Try.ntmps77
    go_wp2_with (first | ((with_reducible refine gate_dst (N := 1) rfl ?_); refine bx 1 #[.int .i64 a0_0, .int .i64 a0_1] 37 fun gb394 hg w7 BK394 hb => ?_; have GW394 := gw hg HB; have GE394 := gw hg HB; replace HB := bst HB hb; clear hb hg; have ⟨hcz8_0, hcz8_1, hfz8_0, hfz8_1⟩ := cf2 BK394) | ((with_reducible refine gate_callee (f := 46) rfl ?_); refine goesL_ (some 5) rfl rfl Try.func46 (by kernel_rfl) rfl #[.int .i64 a0_0, .int .i64 1000000] rfl am ?_; (with_reducible refine (grids_outside.calls a0_0 1000000 false _ A2.out).mono ?_); rintro e w' ⟨rfl, ⟨nd, rfl⟩⟩; refine ⟨_, rfl, ?_⟩) | (go_at_call 46; (with_reducible refine (grids_outside.calls a0_1 1000000 t396 _ A6.out).mono ?_); rintro e w' ⟨rfl, ⟨nd, rfl⟩⟩))
    go_ret
    exact rt HB
end
section
/-! ### api_GrPoint_84: function 84 -/
def api_GrPoint_84.l0 : Nat → List (S37) → Int → Int → Option (Int)
  | 0, _, _, _ => none
  | k + 1, x0, x7, x8 => if x8 < x7 then (if 0 ≤ x8 then (if x8 < (x0.length : Int) then ((grids_point_1.f ((rd_T37 x0 x8).f0) ((rd_T37 x0 x8).f1)).bind fun t398 => (if t398 = true then (some x8) else ((some (wrap64 (x8 + 1))).bind fun z399 => (api_GrPoint_84.l0 k x0 x7 z399)))) else (none)) else (none)) else (some (-1))
def api_GrPoint_84.f (k : Nat) (l0 : List (S37))  : Option (Int) := api_GrPoint_84.l0 k l0 (l0.length : Int) 0
theorem api_GrPoint_84.mono_l : ∀ k, (∀ y0 y1 y2, LeO (api_GrPoint_84.l0 k y0 y1 y2) (api_GrPoint_84.l0 (k + 1) y0 y1 y2))
  | 0 => fun _ _ _ r h => by simp [api_GrPoint_84.l0] at h
  | k + 1 => by
    have ih0 := api_GrPoint_84.mono_l k
    · intro y0 y1 y2
      unfold api_GrPoint_84.l0
      repeat' first
      | (with_reducible exact ih0 _ _ _)
      | (with_reducible exact LeO.refl _)
      | (with_reducible exact LeO.none _)
      | (with_reducible refine LeO.ite ?_ ?_)
      | (with_reducible refine LeO.bind ?_ (fun _ => ?_))
      | exact ih0 _ _ _
      | exact LeO.none _
      | refine LeO.ite ?_ ?_
      | refine LeO.bind ?_ (fun _ => ?_)
theorem api_GrPoint_84.mono : ∀ a0 k, LeO (api_GrPoint_84.f k a0) (api_GrPoint_84.f (k + 1) a0) := by
  intro a0 k
  have ih0 := api_GrPoint_84.mono_l k
  unfold api_GrPoint_84.f
  repeat' first
      | (with_reducible exact ih0 _ _ _)
      | (with_reducible exact LeO.refl _)
      | (with_reducible exact LeO.none _)
      | (with_reducible refine LeO.ite ?_ ?_)
      | (with_reducible refine LeO.bind ?_ (fun _ => ?_))
      | exact ih0 _ _ _
      | exact LeO.none _
      | refine LeO.ite ?_ ?_
      | refine LeO.bind ?_ (fun _ => ?_)
set_option maxHeartbeats 8000000 in
set_option maxRecDepth 100000 in
theorem api_GrPoint_84.calls (k : Nat) (A0 : Option Addr) (c0 : Nat) (l0 : List (S37))  (r : Int) (w : World) (hr0 : Kd.C k37 w A0 l0.length l0) (hc0 : l0.length ≤ c0) (h : api_GrPoint_84.f k l0 = some r) :
    Calls Try.prog 84 #[.slice A0 l0.length c0, .func (.func 77) #[] #[]] w fun e w' => e = .returned (.int .i64 r) ∧ Below w.heap.size w w' := by
  have hu37 := Try.underlying37
  have HR0 := Aside0.mk hr0
  have HC0 := Aside0.mk hc0
  clear hr0 hc0
  have HB := Aside0.mk (Below.refl w.heap.size w)
  have H : (api_GrPoint_84.l0 k l0 (l0.length : Int) 0) = some r := h
  clear h
  have H' := Aside0.mk H
  clear H
  go_enter Try.func84, Try.ntmps84
  go_wp2
  go_loopg [8] k (fun kq v8 w' => ∃ (x8_1 : Int), v8 = .int .i64 x8_1 ∧ Aside0 (api_GrPoint_84.l0 kq l0 (l0.length : Int) x8_1 = some r) ∧ Aside0 (kq ≤ k) ∧ Aside0 (Below w.heap.size w w'))
  case atStart => exact ⟨(0), (by first | rfl | (simp; done) | (simp [*]; done)), H', ⟨Nat.le_refl _⟩, ⟨bnow HB⟩⟩
  case round =>
    clear H'
    try clear p2
    obtain ⟨x8_1, rfl, HA, HK1, HB⟩ := hrel
    cases gk with
    | zero => exact absurd HA.out (by simp [api_GrPoint_84.l0])
    | succ k1 =>
      have H := HA.out
      clear HA
      simp only [api_GrPoint_84.l0] at H
      by_cases c3 : x8_1 < (l0.length : Int)
      · rw [if_pos c3] at H
        have c3b0 : decide (x8_1 < (l0.length : Int)) = true := decide_eq_true c3
        clear c3
        by_cases c4 : 0 ≤ x8_1
        · rw [if_pos c4] at H
          have c4b0 : decide (0 ≤ x8_1) = true := decide_eq_true c4
          clear c4
          by_cases c5 : x8_1 < (l0.length : Int)
          · rw [if_pos c5] at H
            have c5b0 : decide (x8_1 < (l0.length : Int)) = true := decide_eq_true c5
            clear c5
            obtain ⟨t398, A6, H⟩ := ob H
            by_cases c7 : t398 = true
            · subst c7
              have H1 : (some x8_1) = some r := by rw [if_pos rfl] at H; exact H
              clear H
              have H := H1
              clear H1
              obtain rfl := Option.some.inj H
              have p397 : 0 ≤ (x8_1 : Int) := of_decide_eq_true (by first | (with_reducible assumption) | assumption)
              have q397 : x8_1 < (l0.length : Int) := of_decide_eq_true (by first | (with_reducible assumption) | assumption)
              obtain ⟨ad397, e397, hx397_0, hx397_1⟩ := at_T37 HR0.out x8_1 p397 q397
              cases e397
              replace hx397_0 := (HB.out.cell (World.block_lt_of_cell? w _ hx397_0)).trans hx397_0
              replace hx397_1 := (HB.out.cell (World.block_lt_of_cell? w _ hx397_1)).trans hx397_1
              replace p397 := eq_true p397
              replace q397 := eq_true q397
              go_wp2_with (first | (go_at_call 77; (with_reducible refine (grids_point_1.calls ((rd_T37 l0 x8_1).f0) ((rd_T37 l0 x8_1).f1) true _ A6.out).mono ?_); rintro e w8 ⟨rfl, hb⟩; replace HB := bst HB hb; clear hb))
              go_ret
              exact rt HB
            · replace c7 := Bool.eq_false_iff.mpr c7
              subst c7
              have H1 : ((some (wrap64 (x8_1 + 1))).bind fun z399 => (api_GrPoint_84.l0 k1 l0 (l0.length : Int) z399)) = some r := by rw [if_neg (show ¬ (false = true) by decide)] at H; exact H
              clear H
              have H := H1
              clear H1
              obtain ⟨z399, E90, H⟩ := oc H
              have E9w : (IntKind.i64.wrap (x8_1 + 1)) = z399 := (i64_w _).trans E90
              have H' := Aside0.mk H
              clear H
              have p397 : 0 ≤ (x8_1 : Int) := of_decide_eq_true (by first | (with_reducible assumption) | assumption)
              have q397 : x8_1 < (l0.length : Int) := of_decide_eq_true (by first | (with_reducible assumption) | assumption)
              obtain ⟨ad397, e397, hx397_0, hx397_1⟩ := at_T37 HR0.out x8_1 p397 q397
              cases e397
              replace hx397_0 := (HB.out.cell (World.block_lt_of_cell? w _ hx397_0)).trans hx397_0
              replace hx397_1 := (HB.out.cell (World.block_lt_of_cell? w _ hx397_1)).trans hx397_1
              replace p397 := eq_true p397
              replace q397 := eq_true q397
              go_wp2_with (first | (go_at_call 77; (with_reducible refine (grids_point_1.calls ((rd_T37 l0 x8_1).f0) ((rd_T37 l0 x8_1).f1) false _ A6.out).mono ?_); rintro e w10 ⟨rfl, hb⟩; replace HB := bst HB hb; clear hb))
              go_roundg k1
              case measure => have := HK1.out; omega
              case rel => exact ⟨(z399), (by first | rfl | (simp; done) | (simp [*]; done)), H', ⟨by have := HK1.out; omega⟩, ⟨bnow HB⟩⟩
          · rw [if_neg c5] at H
            exact absurd H (by simp)
        · rw [if_neg c4] at H
          exact absurd H (by simp)
      · rw [if_neg c3] at H
        have c3b0 : decide (x8_1 < (l0.length : Int)) = false := decide_eq_false c3
        clear c3
        obtain rfl := Option.some.inj H
        go_wp2
        go_ret
        exact rt HB
end
section
/-! ### api_GrPoint_76: function 76 -/
def api_GrPoint_76.f (k : Nat) (l0 : List (S37))  : Option (Bool) := (api_GrPoint_84.f k l0).bind fun t400 => (some (decide (t400 ≥ 0)))
theorem api_GrPoint_76.mono : ∀ a0 k, LeO (api_GrPoint_76.f k a0) (api_GrPoint_76.f (k + 1) a0) := by
  intro a0 k
  unfold api_GrPoint_76.f
  repeat' first
      | (with_reducible exact api_GrPoint_84.mono _ _)
      | (with_reducible exact LeO.refl _)
      | (with_reducible exact LeO.none _)
      | (with_reducible refine LeO.ite ?_ ?_)
      | (with_reducible refine LeO.bind ?_ (fun _ => ?_))
      | exact api_GrPoint_84.mono _ _
      | exact LeO.none _
      | refine LeO.ite ?_ ?_
      | refine LeO.bind ?_ (fun _ => ?_)
set_option maxHeartbeats 8000000 in
set_option maxRecDepth 100000 in
theorem api_GrPoint_76.calls (k : Nat) (A0 : Option Addr) (c0 : Nat) (l0 : List (S37))  (r : Bool) (w : World) (hr0 : Kd.C k37 w A0 l0.length l0) (hc0 : l0.length ≤ c0) (h : api_GrPoint_76.f k l0 = some r) :
    Calls Try.prog 76 #[.slice A0 l0.length c0, .func (.func 77) #[] #[]] w fun e w' => e = .returned (.bool r) ∧ Below w.heap.size w w' := by
  have HR0 := Aside0.mk hr0
  have HC0 := Aside0.mk hc0
  clear hr0 hc0
  have HB := Aside0.mk (Below.refl w.heap.size w)
  have H : ((api_GrPoint_84.f k l0).bind fun t400 => (some (decide (t400 ≥ 0)))) = some r := h
  clear h
  obtain ⟨t400, A3, H⟩ := ob H
  obtain rfl := Option.some.inj H
  go_enter Try.func76, Try.ntmps76
  go_wp2_with (first | ((with_reducible refine gate_callee (f := 84) rfl ?_); refine goesL_ (some 7) rfl rfl Try.func84 (by kernel_rfl) rfl #[.slice A0 l0.length c0, .func (.func 77) #[] #[]] rfl am ?_; (with_reducible refine (api_GrPoint_84.calls k _ _ l0  t400 _ ?side1 ?side2 A3.out).mono ?_); (case side1 => repeat (first | exact HR0.out | (with_reducible refine Kd.C_alloc ?_ _) | (with_reducible refine Kd.C_drewN ?_ _) | (with_reducible refine Kd.C_drew ?_))); (case side2 => exact HC0.out); rintro e w4 ⟨rfl, hb⟩; refine ⟨_, rfl, ?_⟩; replace HB := bst HB hb; clear hb))
  go_ret
  exact rt HB
end
section
/-! ### grids_point: function 49 -/
def grids_point.f (k : Nat) (l0 : List (S37)) : Option (Bool) := (api_GrPoint_76.f k l0).bind fun t401 => (some (!t401))
theorem grids_point.mono : ∀ a0 k, LeO (grids_point.f k a0) (grids_point.f (k + 1) a0) := by
  intro a0 k
  unfold grids_point.f
  repeat' first
      | (with_reducible exact api_GrPoint_76.mono _ _)
      | (with_reducible exact LeO.refl _)
      | (with_reducible exact LeO.none _)
      | (with_reducible refine LeO.ite ?_ ?_)
      | (with_reducible refine LeO.bind ?_ (fun _ => ?_))
      | exact api_GrPoint_76.mono _ _
      | exact LeO.none _
      | refine LeO.ite ?_ ?_
      | refine LeO.bind ?_ (fun _ => ?_)
set_option maxHeartbeats 8000000 in
set_option maxRecDepth 100000 in
theorem grids_point.calls (k : Nat) (A0 : Option Addr) (c0 : Nat) (l0 : List (S37)) (r : Bool) (w : World) (hr0 : Kd.C k37 w A0 l0.length l0) (hc0 : l0.length ≤ c0) (h : grids_point.f k l0 = some r) :
    Calls Try.prog 49 #[.slice A0 l0.length c0] w fun e w' => e = .returned (.bool r) ∧ Below w.heap.size w w' := by
  have HR0 := Aside0.mk hr0
  have HC0 := Aside0.mk hc0
  clear hr0 hc0
  have HB := Aside0.mk (Below.refl w.heap.size w)
  have H : ((api_GrPoint_76.f k l0).bind fun t401 => (some (!t401))) = some r := h
  clear h
  obtain ⟨t401, A2, H⟩ := ob H
  obtain rfl := Option.some.inj H
  go_enter Try.func49, Try.ntmps49
  go_wp2_with (first | ((with_reducible refine gate_callee (f := 76) rfl ?_); refine goesL_ (some 4) rfl rfl Try.func76 (by kernel_rfl) rfl #[.slice A0 l0.length c0, .func (.func 77) #[] #[]] rfl am ?_; (with_reducible refine (api_GrPoint_76.calls k _ _ l0  t401 _ ?side1 ?side2 A2.out).mono ?_); (case side1 => repeat (first | exact HR0.out | (with_reducible refine Kd.C_alloc ?_ _) | (with_reducible refine Kd.C_drewN ?_ _) | (with_reducible refine Kd.C_drew ?_))); (case side2 => exact HC0.out); rintro e w3 ⟨rfl, hb⟩; refine ⟨_, rfl, ?_⟩; replace HB := bst HB hb; clear hb))
  go_ret
  exact rt HB
end
section
/-! ### grids_matrix: function 59 -/
def grids_matrix.f (a0_0 : Int) (a0_1 : Int) (a0_2 : Int) (a0_3 : Int) : Option (Bool) := (grids_outside.f a0_0 10000).bind fun t537 => (if t537 = true then (some false) else ((grids_outside.f a0_1 10000).bind fun t538 => (if t538 = true then (some false) else ((grids_outside.f a0_2 10000).bind fun t539 => (if t539 = true then (some false) else ((grids_outside.f a0_3 10000).bind fun t540 => (some (!t540))))))))
set_option maxHeartbeats 8000000 in
set_option maxRecDepth 100000 in
theorem grids_matrix.calls (a0_0 : Int) (a0_1 : Int) (a0_2 : Int) (a0_3 : Int) (r : Bool) (w : World) (h : grids_matrix.f a0_0 a0_1 a0_2 a0_3 = some r) :
    Calls Try.prog 59 #[.agg #[.int .i64 a0_0, .int .i64 a0_1, .int .i64 a0_2, .int .i64 a0_3]] w fun e w' => e = .returned (.bool r) ∧ Below w.heap.size w w' := by
  have hu25 := Try.underlying25
  have HB := Aside0.mk (Below.refl w.heap.size w)
  have H : ((grids_outside.f a0_0 10000).bind fun t537 => (if t537 = true then (some false) else ((grids_outside.f a0_1 10000).bind fun t538 => (if t538 = true then (some false) else ((grids_outside.f a0_2 10000).bind fun t539 => (if t539 = true then (some false) else ((grids_outside.f a0_3 10000).bind fun t540 => (some (!t540))))))))) = some r := h
  clear h
  obtain ⟨t537, A2, H⟩ := ob H
  by_cases c3 : t537 = true
  · subst c3
    have H1 : (some false) = some r := by rw [if_pos rfl] at H; exact H
    clear H
    have H := H1
    clear H1
    obtain rfl := Option.some.inj H
    go_enter Try.func59, Try.ntmps59
    go_wp2_with (first | ((with_reducible refine gate_dst (N := 1) rfl ?_); refine bx 1 #[.int .i64 a0_0, .int .i64 a0_1, .int .i64 a0_2, .int .i64 a0_3] 25 fun gb536 hg w4 BK536 hb => ?_; have GW536 := gw hg HB; have GE536 := gw hg HB; replace HB := bst HB hb; clear hb hg; have ⟨hcz5_0, hcz5_1, hcz5_2, hcz5_3, hfz5_0, hfz5_1, hfz5_2, hfz5_3⟩ := cf4 BK536) | ((with_reducible refine gate_callee (f := 46) rfl ?_); refine goesL_ (some 5) rfl rfl Try.func46 (by kernel_rfl) rfl #[.int .i64 a0_0, .int .i64 10000] rfl am ?_; (with_reducible refine (grids_outside.calls a0_0 10000 true _ A2.out).mono ?_); rintro e w' ⟨rfl, ⟨nd, rfl⟩⟩; refine ⟨_, rfl, ?_⟩))
    go_ret
    exact rt HB
  · replace c3 := Bool.eq_false_iff.mpr c3
    subst c3
    have H1 : ((grids_outside.f a0_1 10000).bind fun t538 => (if t538 = true then (some false) else ((grids_outside.f a0_2 10000).bind fun t539 => (if t539 = true then (some false) else ((grids_outside.f a0_3 10000).bind fun t540 => (some (!t540))))))) = some r := by rw [if_neg (show ¬ (false = true) by decide)] at H; exact H
    clear H
    have H := H1
    clear H1
    obtain ⟨t538, A6, H⟩ := ob H
    by_cases c7 : t538 = true
    · subst c7
      have H1 : (some false) = some r := by rw [if_pos rfl] at H; exact H
      clear H
      have H := H1
      clear H1
      obtain rfl := Option.some.inj H
      go_enter Try.func59, Try.ntmps59
      go_wp2_with (first | ((with_reducible refine gate_dst (N := 1) rfl ?_); refine bx 1 #[.int .i64 a0_0, .int .i64 a0_1, .int .i64 a0_2, .int .i64 a0_3] 25 fun gb536 hg w8 BK536 hb => ?_; have GW536 := gw hg HB; have GE536 := gw hg HB; replace HB := bst HB hb; clear hb hg; have ⟨hcz9_0, hcz9_1, hcz9_2, hcz9_3, hfz9_0, hfz9_1, hfz9_2, hfz9_3⟩ := cf4 BK536) | ((with_reducible refine gate_callee (f := 46) rfl ?_); refine goesL_ (some 5) rfl rfl Try.func46 (by kernel_rfl) rfl #[.int .i64 a0_0, .int .i64 10000] rfl am ?_; (with_reducible refine (grids_outside.calls a0_0 10000 false _ A2.out).mono ?_); rintro e w' ⟨rfl, ⟨nd, rfl⟩⟩; refine ⟨_, rfl, ?_⟩) | (go_at_call 46; (with_reducible refine (grids_outside.calls a0_1 10000 true _ A6.out).mono ?_); rintro e w' ⟨rfl, ⟨nd, rfl⟩⟩))
      go_ret
      exact rt HB
    · replace c7 := Bool.eq_false_iff.mpr c7
      subst c7
      have H1 : ((grids_outside.f a0_2 10000).bind fun t539 => (if t539 = true then (some false) else ((grids_outside.f a0_3 10000).bind fun t540 => (some (!t540))))) = some r := by rw [if_neg (show ¬ (false = true) by decide)] at H; exact H
      clear H
      have H := H1
      clear H1
      obtain ⟨t539, A10, H⟩ := ob H
      by_cases c11 : t539 = true
      · subst c11
        have H1 : (some false) = some r := by rw [if_pos rfl] at H; exact H
        clear H
        have H := H1
        clear H1
        obtain rfl := Option.some.inj H
        go_enter Try.func59, Try.ntmps59
        go_wp2_with (first | ((with_reducible refine gate_dst (N := 1) rfl ?_); refine bx 1 #[.int .i64 a0_0, .int .i64 a0_1, .int .i64 a0_2, .int .i64 a0_3] 25 fun gb536 hg w12 BK536 hb => ?_; have GW536 := gw hg HB; have GE536 := gw hg HB; replace HB := bst HB hb; clear hb hg; have ⟨hcz13_0, hcz13_1, hcz13_2, hcz13_3, hfz13_0, hfz13_1, hfz13_2, hfz13_3⟩ := cf4 BK536) | ((with_reducible refine gate_callee (f := 46) rfl ?_); refine goesL_ (some 5) rfl rfl Try.func46 (by kernel_rfl) rfl #[.int .i64 a0_0, .int .i64 10000] rfl am ?_; (with_reducible refine (grids_outside.calls a0_0 10000 false _ A2.out).mono ?_); rintro e w' ⟨rfl, ⟨nd, rfl⟩⟩; refine ⟨_, rfl, ?_⟩) | (go_at_call 46; (with_reducible refine (grids_outside.calls a0_1 10000 false _ A6.out).mono ?_); rintro e w' ⟨rfl, ⟨nd, rfl⟩⟩) | (go_at_call 46; (with_reducible refine (grids_outside.calls a0_2 10000 true _ A10.out).mono ?_); rintro e w' ⟨rfl, ⟨nd, rfl⟩⟩))
        go_ret
        exact rt HB
      · replace c11 := Bool.eq_false_iff.mpr c11
        subst c11
        have H1 : ((grids_outside.f a0_3 10000).bind fun t540 => (some (!t540))) = some r := by rw [if_neg (show ¬ (false = true) by decide)] at H; exact H
        clear H
        have H := H1
        clear H1
        obtain ⟨t540, A14, H⟩ := ob H
        obtain rfl := Option.some.inj H
        go_enter Try.func59, Try.ntmps59
        go_wp2_with (first | ((with_reducible refine gate_dst (N := 1) rfl ?_); refine bx 1 #[.int .i64 a0_0, .int .i64 a0_1, .int .i64 a0_2, .int .i64 a0_3] 25 fun gb536 hg w15 BK536 hb => ?_; have GW536 := gw hg HB; have GE536 := gw hg HB; replace HB := bst HB hb; clear hb hg; have ⟨hcz16_0, hcz16_1, hcz16_2, hcz16_3, hfz16_0, hfz16_1, hfz16_2, hfz16_3⟩ := cf4 BK536) | ((with_reducible refine gate_callee (f := 46) rfl ?_); refine goesL_ (some 5) rfl rfl Try.func46 (by kernel_rfl) rfl #[.int .i64 a0_0, .int .i64 10000] rfl am ?_; (with_reducible refine (grids_outside.calls a0_0 10000 false _ A2.out).mono ?_); rintro e w' ⟨rfl, ⟨nd, rfl⟩⟩; refine ⟨_, rfl, ?_⟩) | (go_at_call 46; (with_reducible refine (grids_outside.calls a0_1 10000 false _ A6.out).mono ?_); rintro e w' ⟨rfl, ⟨nd, rfl⟩⟩) | (go_at_call 46; (with_reducible refine (grids_outside.calls a0_2 10000 false _ A10.out).mono ?_); rintro e w' ⟨rfl, ⟨nd, rfl⟩⟩) | (go_at_call 46; (with_reducible refine (grids_outside.calls a0_3 10000 t540 _ A14.out).mono ?_); rintro e w' ⟨rfl, ⟨nd, rfl⟩⟩))
        go_ret
        exact rt HB
end
section
/-! ### grids_move: function 62 -/
def grids_move.f (k : Nat) (a0_0 : Int) (a0_1 : Int) (a0_2 : Int) (a0_3 : Int) (a0_4 : Int) (a0_5 : Int) : Option (Bool) := (grids_matrix.f a0_0 a0_1 a0_2 a0_3).bind fun t542 => (if t542 = true then ((grids_point.f k (([(⟨a0_4, a0_5⟩ : S37)] : List (S37)))).bind fun t546 => (some t546)) else (some false))
theorem grids_move.mono : ∀ a0 a1 a2 a3 a4 a5 k, LeO (grids_move.f k a0 a1 a2 a3 a4 a5) (grids_move.f (k + 1) a0 a1 a2 a3 a4 a5) := by
  intro a0 a1 a2 a3 a4 a5 k
  unfold grids_move.f
  repeat' first
      | (with_reducible exact grids_point.mono _ _)
      | (with_reducible exact LeO.refl _)
      | (with_reducible exact LeO.none _)
      | (with_reducible refine LeO.ite ?_ ?_)
      | (with_reducible refine LeO.bind ?_ (fun _ => ?_))
      | exact grids_point.mono _ _
      | exact LeO.none _
      | refine LeO.ite ?_ ?_
      | refine LeO.bind ?_ (fun _ => ?_)
set_option maxHeartbeats 8000000 in
set_option maxRecDepth 100000 in
theorem grids_move.calls (k : Nat) (a0_0 : Int) (a0_1 : Int) (a0_2 : Int) (a0_3 : Int) (a0_4 : Int) (a0_5 : Int) (r : Bool) (w : World) (h : grids_move.f k a0_0 a0_1 a0_2 a0_3 a0_4 a0_5 = some r) :
    Calls Try.prog 62 #[.agg #[.int .i64 a0_0, .int .i64 a0_1, .int .i64 a0_2, .int .i64 a0_3, .int .i64 a0_4, .int .i64 a0_5]] w fun e w' => e = .returned (.bool r) ∧ Below w.heap.size w w' := by
  have hu55 := Try.underlying55
  have hu25 := Try.underlying25
  have hu37 := Try.underlying37
  have HB := Aside0.mk (Below.refl w.heap.size w)
  have H : ((grids_matrix.f a0_0 a0_1 a0_2 a0_3).bind fun t542 => (if t542 = true then ((grids_point.f k (([(⟨a0_4, a0_5⟩ : S37)] : List (S37)))).bind fun t546 => (some t546)) else (some false))) = some r := h
  clear h
  obtain ⟨t542, A2, H⟩ := ob H
  by_cases c3 : t542 = true
  · subst c3
    have H1 : ((grids_point.f k (([(⟨a0_4, a0_5⟩ : S37)] : List (S37)))).bind fun t546 => (some t546)) = some r := by rw [if_pos rfl] at H; exact H
    clear H
    have H := H1
    clear H1
    obtain ⟨y543, hy543⟩ : ∃ y_ : List (S37), y_ = (([(⟨a0_4, a0_5⟩ : S37)] : List (S37))) := ⟨_, rfl⟩
    replace H : ((grids_point.f k y543).bind fun t546 => (some t546)) = some r := by first | (rw [hy543]; with_reducible exact H) | (have H2_ := (Option.bind_some _ _).symm.trans H; rw [hy543]; with_reducible exact H2_) | (have H2_ := (Option.bind_some _ _).symm.trans H; with_reducible exact H2_) | with_reducible exact H | (rw [hy543]; exact H) | exact H
    have Ny543 := Aside0.mk hy543
    clear hy543
    obtain ⟨t546, A4, H⟩ := ob H
    obtain rfl := Option.some.inj H
    go_enter Try.func62, Try.ntmps62
    go_wp2_with (first | ((with_reducible refine gate_dst (N := 1) rfl ?_); (try (refine gate_guard (by rfl) ?_; dsimp only)); refine bx 1 #[.int .i64 a0_0, .int .i64 a0_1, .int .i64 a0_2, .int .i64 a0_3, .int .i64 a0_4, .int .i64 a0_5] 55 fun gb541 hg w5 BK541 hb => ?_; have GW541 := gw hg HB; have GE541 := gw hg HB; replace HB := bst HB hb; clear hb hg; have ⟨hcz6_0, hcz6_1, hcz6_2, hcz6_3, hcz6_4, hcz6_5, hfz6_0, hfz6_1, hfz6_2, hfz6_3, hfz6_4, hfz6_5⟩ := cf6 BK541) | ((with_reducible refine gate_callee (f := 59) rfl ?_); refine gl 5 Try.func59 (grids_matrix.calls a0_0 a0_1 a0_2 a0_3 true _ A2.out) ?_; rintro e w7 ⟨rfl, hb⟩; refine ⟨_, rfl, ?_⟩; replace BK541 := bb BK541 hb; replace HB := bst HB hb; clear hb; have ⟨hcz8_0, hcz8_1, hcz8_2, hcz8_3, hcz8_4, hcz8_5, hfz8_0, hfz8_1, hfz8_2, hfz8_3, hfz8_4, hfz8_5⟩ := cf6 BK541) | ((with_reducible refine gate_dst (N := 9) rfl ?_); (try (refine gate_guard (by rfl) ?_; dsimp only)); refine Kd.R_lit k37 _ 37 ?hg (N := 9) ?hd (xs := ([(⟨a0_4, a0_5⟩ : S37)] : List (S37))) (inner := [.int .i64 a0_4, .int .i64 a0_5]) (ok := fun _ => True) (okp := fun _ => True) ?hr ?hp (fun _ hk => hk) trivial (Below.refl _ _) (Nat.le_refl _) (by simp) ?_; (case hd => rfl); (case hg => rfl); (case hr => first | (go_simp; done) | (go_simp; rfl)); (case hp => exact (Reps.c2 (show Kd.M k37 _ _ _ (⟨a0_4, a0_5⟩ : S37) [.int .i64 a0_4, .int .i64 a0_5] from (k37_mkM _ _ _ (⟨a0_4, a0_5⟩ : S37) )) (Reps.none _ _))); intro v544 w9 ho10 hb hg_ hnew_; clear hg_ hnew_; (first | rw [← Ny543.out] at ho10 | (simp only [Int.reduceToNat] at ho10; rw [← Ny543.out] at ho10)); have HO545 := Aside0.mk (Kd.R_lower ho10 (below_size (bnow HB))); replace BK541 := bb BK541 hb; replace HB := bst HB hb; clear hb ho10; obtain ⟨Ao11, co11, eo11⟩ := Kd.R_slice HO545.out; subst eo11) | (go_at_call 49; (with_reducible refine (grids_point.calls k _ _ y543 t546 _ ?side1 ?side2 A4.out).mono ?_); (case side1 => repeat (first | exact (Kd.R_reads' HO545.out).2.2 | (with_reducible refine Kd.C_alloc ?_ _) | (with_reducible refine Kd.C_drewN ?_ _) | (with_reducible refine Kd.C_drew ?_))); (case side2 => exact (Kd.R_reads' HO545.out).2.1); rintro e w12 ⟨rfl, hb⟩; replace HO545 := Aside0.mk (Kd.R_below (by (with_reducible repeat (first | apply Kd.R_alloc | apply Kd.R_drewN | apply Kd.R_drew)); exact HO545.out) hb); replace BK541 := bb BK541 hb; replace HB := bst HB hb; (try clear hb); (try clear hb2); (try clear hk); (try clear hi)))
    go_ret
    exact rt HB
  · replace c3 := Bool.eq_false_iff.mpr c3
    subst c3
    have H1 : (some false) = some r := by rw [if_neg (show ¬ (false = true) by decide)] at H; exact H
    clear H
    have H := H1
    clear H1
    obtain rfl := Option.some.inj H
    go_enter Try.func62, Try.ntmps62
    go_wp2_with (first | ((with_reducible refine gate_dst (N := 1) rfl ?_); (try (refine gate_guard (by rfl) ?_; dsimp only)); refine bx 1 #[.int .i64 a0_0, .int .i64 a0_1, .int .i64 a0_2, .int .i64 a0_3, .int .i64 a0_4, .int .i64 a0_5] 55 fun gb541 hg w13 BK541 hb => ?_; have GW541 := gw hg HB; have GE541 := gw hg HB; replace HB := bst HB hb; clear hb hg; have ⟨hcz14_0, hcz14_1, hcz14_2, hcz14_3, hcz14_4, hcz14_5, hfz14_0, hfz14_1, hfz14_2, hfz14_3, hfz14_4, hfz14_5⟩ := cf6 BK541) | ((with_reducible refine gate_callee (f := 59) rfl ?_); refine gl 5 Try.func59 (grids_matrix.calls a0_0 a0_1 a0_2 a0_3 false _ A2.out) ?_; rintro e w15 ⟨rfl, hb⟩; refine ⟨_, rfl, ?_⟩; replace BK541 := bb BK541 hb; replace HB := bst HB hb; clear hb))
    go_ret
    exact rt HB
end
section
/-! ### grids_image: function 63 -/
def grids_image.f (a0_0 : Int) (a0_1 : Int) (a0_2 : Int) (a0_3 : Int) (a0_4 : Int) (a0_5 : Int) (a1_0 : Int) (a1_1 : Int) : Option (Int × Int) := (some (wrap64 (a0_0 * a1_0))).bind fun z550 => ((some (wrap64 (a0_1 * a1_1))).bind fun z551 => ((some (wrap64 (z550 + z551))).bind fun z552 => ((some (wrap64 (z552 + a0_4))).bind fun z553 => ((some (wrap64 (a0_2 * a1_0))).bind fun z554 => ((some (wrap64 (a0_3 * a1_1))).bind fun z555 => ((some (wrap64 (z554 + z555))).bind fun z556 => ((some (wrap64 (z556 + a0_5))).bind fun z557 => (some (z553, z557)))))))))
set_option maxHeartbeats 8000000 in
set_option maxRecDepth 100000 in
theorem grids_image.calls (a0_0 : Int) (a0_1 : Int) (a0_2 : Int) (a0_3 : Int) (a0_4 : Int) (a0_5 : Int) (a1_0 : Int) (a1_1 : Int) (r1 : Int) (r2 : Int) (w : World) (h : grids_image.f a0_0 a0_1 a0_2 a0_3 a0_4 a0_5 a1_0 a1_1 = some (r1, r2)) :
    Calls Try.prog 63 #[.agg #[.int .i64 a0_0, .int .i64 a0_1, .int .i64 a0_2, .int .i64 a0_3, .int .i64 a0_4, .int .i64 a0_5], .agg #[.int .i64 a1_0, .int .i64 a1_1]] w fun e w' => e = .returned (.agg #[.int .i64 r1, .int .i64 r2]) ∧ Below w.heap.size w w' := by
  have hu55 := Try.underlying55
  have hu37 := Try.underlying37
  have HB := Aside0.mk (Below.refl w.heap.size w)
  have H : ((some (wrap64 (a0_0 * a1_0))).bind fun z550 => ((some (wrap64 (a0_1 * a1_1))).bind fun z551 => ((some (wrap64 (z550 + z551))).bind fun z552 => ((some (wrap64 (z552 + a0_4))).bind fun z553 => ((some (wrap64 (a0_2 * a1_0))).bind fun z554 => ((some (wrap64 (a0_3 * a1_1))).bind fun z555 => ((some (wrap64 (z554 + z555))).bind fun z556 => ((some (wrap64 (z556 + a0_5))).bind fun z557 => (some (z553, z557)))))))))) = some (r1, r2) := h
  clear h
  obtain ⟨z550, E30, H⟩ := oc H
  have E3w : (IntKind.i64.wrap (a0_0 * a1_0)) = z550 := (i64_w _).trans E30
  obtain ⟨z551, E40, H⟩ := oc H
  have E4w : (IntKind.i64.wrap (a0_1 * a1_1)) = z551 := (i64_w _).trans E40
  obtain ⟨z552, E50, H⟩ := oc H
  have E5w : (IntKind.i64.wrap (z550 + z551)) = z552 := (i64_w _).trans E50
  obtain ⟨z553, E60, H⟩ := oc H
  have E6w : (IntKind.i64.wrap (z552 + a0_4)) = z553 := (i64_w _).trans E60
  obtain ⟨z554, E70, H⟩ := oc H
  have E7w : (IntKind.i64.wrap (a0_2 * a1_0)) = z554 := (i64_w _).trans E70
  obtain ⟨z555, E80, H⟩ := oc H
  have E8w : (IntKind.i64.wrap (a0_3 * a1_1)) = z555 := (i64_w _).trans E80
  obtain ⟨z556, E90, H⟩ := oc H
  have E9w : (IntKind.i64.wrap (z554 + z555)) = z556 := (i64_w _).trans E90
  obtain ⟨z557, E100, H⟩ := oc H
  have E10w : (IntKind.i64.wrap (z556 + a0_5)) = z557 := (i64_w _).trans E100
  simp only [Option.some.injEq, Prod.mk.injEq] at H
  obtain ⟨rfl, rfl⟩ := H
  go_enter Try.func63, Try.ntmps63
  go_wp2_with (first | ((with_reducible refine gate_dst (N := 2) rfl ?_); refine bx 2 #[.int .i64 a0_0, .int .i64 a0_1, .int .i64 a0_2, .int .i64 a0_3, .int .i64 a0_4, .int .i64 a0_5] 55 fun gb547 hg w11 BK547 hb => ?_; have GW547 := gw hg HB; have GE547 := gw hg HB; replace HB := bst HB hb; clear hb hg) | ((with_reducible refine gate_dst (N := 3) rfl ?_); refine bx 3 #[.int .i64 a1_0, .int .i64 a1_1] 37 fun gb548 hg w12 BK548 hb => ?_; have GW548 := gw hg HB; have GE548 := gw hg HB; have NB547_548 := nlt hg BK547; have NB548_547 := ngt hg BK547; replace BK547 := bb BK547 hb; replace HB := bst HB hb; clear hb hg) | ((with_reducible refine gate_dst (N := 4) rfl ?_); refine bx 4 #[.int .i64 0, .int .i64 0] 37 fun gb549 hg w13 BK549 hb => ?_; have GW549 := gw hg HB; have GE549 := gw hg HB; have NB547_549 := nlt hg BK547; have NB549_547 := ngt hg BK547; have NB548_549 := nlt hg BK548; have NB549_548 := ngt hg BK548; replace BK547 := bb BK547 hb; replace BK548 := bb BK548 hb; replace HB := bst HB hb; clear hb hg; have hnb14 := NB547_548.out; have hnc14 := NB548_547.out; have hnb15 := NB547_549.out; have hnc15 := NB549_547.out; have ⟨hcz16_0, hcz16_1, hcz16_2, hcz16_3, hcz16_4, hcz16_5, hfz16_0, hfz16_1, hfz16_2, hfz16_3, hfz16_4, hfz16_5⟩ := cf6 BK547; have hnb17 := NB548_549.out; have hnc17 := NB549_548.out; have ⟨hcz18_0, hcz18_1, hfz18_0, hfz18_1⟩ := cf2 BK548; have ⟨hcz19_0, hcz19_1, hfz19_0, hfz19_1⟩ := cf2 BK549))
  refine bodyPost_ret (results_cell_row rfl _ _ gb549 37 #[.int .i64 z553, .int .i64 z557] (0, 0) _ rfl (by (with_reducible repeat (first | refine blk_drewN ?_ _ | refine blk_drew ?_ | refine blk_alloc ?_ _)); refine blk_put (cs := #[.int .i64 z553, .int .i64 0]) ?_ 1 _ rfl; (with_reducible repeat (first | refine blk_drewN ?_ _ | refine blk_drew ?_ | refine blk_alloc ?_ _)); refine blk_put (cs := #[.int .i64 0, .int .i64 0]) ?_ 0 _ rfl; (with_reducible repeat (first | refine blk_drewN ?_ _ | refine blk_drew ?_ | refine blk_alloc ?_ _)); exact BK549.out) Try.underlying37 rfl (by kernel_rfl)) rfl ?_
  exact rt HB
end
section
/-! ### grids_Apply: function 27 -/
def grids_Apply.j0 : Nat → Bool → Int → Int → Int → Int → Int → Int → Int → Int → Option (Int × Int × Int)
  | 0, _, _, _, _, _, _, _, _, _ => none
  | k + 1, x15, x559000, x559001, x559002, x559003, x559004, x559005, x560000, x560001 => if x15 = true then (some (0, 0, 2)) else ((grids_image.f x559000 x559001 x559002 x559003 x559004 x559005 x560000 x560001).bind fun bt566 => ((grids_point.f k (([(⟨bt566.1, bt566.2⟩ : S37)] : List (S37)))).bind fun t572 => (if t572 = true then (some (bt566.1, bt566.2, 0)) else (some (0, 0, 7)))))
def grids_Apply.f (k : Nat) (a0_0 : Int) (a0_1 : Int) (a0_2 : Int) (a0_3 : Int) (a0_4 : Int) (a0_5 : Int) (a1_0 : Int) (a1_1 : Int) : Option (Int × Int × Int) := (grids_move.f k a0_0 a0_1 a0_2 a0_3 a0_4 a0_5).bind fun t561 => (if t561 = true then ((grids_point.f k (([(⟨a1_0, a1_1⟩ : S37)] : List (S37)))).bind fun t565 => (grids_Apply.j0 k (!t565) a0_0 a0_1 a0_2 a0_3 a0_4 a0_5 a1_0 a1_1)) else (grids_Apply.j0 k true a0_0 a0_1 a0_2 a0_3 a0_4 a0_5 a1_0 a1_1))
theorem grids_Apply.mono_l : ∀ k, (∀ y0 y1 y2 y3 y4 y5 y6 y7 y8, LeO (grids_Apply.j0 k y0 y1 y2 y3 y4 y5 y6 y7 y8) (grids_Apply.j0 (k + 1) y0 y1 y2 y3 y4 y5 y6 y7 y8))
  | 0 => fun _ _ _ _ _ _ _ _ _ r h => by simp [grids_Apply.j0] at h
  | k + 1 => by
    have ih0 := grids_Apply.mono_l k
    · intro y0 y1 y2 y3 y4 y5 y6 y7 y8
      unfold grids_Apply.j0
      repeat' first
      | (with_reducible exact ih0 _ _ _ _ _ _ _ _ _)
      | (with_reducible exact grids_move.mono _ _ _ _ _ _ _)
      | (with_reducible exact grids_point.mono _ _)
      | (with_reducible exact LeO.refl _)
      | (with_reducible exact LeO.none _)
      | (with_reducible refine LeO.ite ?_ ?_)
      | (with_reducible refine LeO.bind ?_ (fun _ => ?_))
      | exact ih0 _ _ _ _ _ _ _ _ _
      | exact grids_move.mono _ _ _ _ _ _ _
      | exact grids_point.mono _ _
      | exact LeO.none _
      | refine LeO.ite ?_ ?_
      | refine LeO.bind ?_ (fun _ => ?_)
theorem grids_Apply.mono : ∀ a0 a1 a2 a3 a4 a5 a6 a7 k, LeO (grids_Apply.f k a0 a1 a2 a3 a4 a5 a6 a7) (grids_Apply.f (k + 1) a0 a1 a2 a3 a4 a5 a6 a7) := by
  intro a0 a1 a2 a3 a4 a5 a6 a7 k
  have ih0 := grids_Apply.mono_l k
  unfold grids_Apply.f
  repeat' first
      | (with_reducible exact ih0 _ _ _ _ _ _ _ _ _)
      | (with_reducible exact grids_move.mono _ _ _ _ _ _ _)
      | (with_reducible exact grids_point.mono _ _)
      | (with_reducible exact LeO.refl _)
      | (with_reducible exact LeO.none _)
      | (with_reducible refine LeO.ite ?_ ?_)
      | (with_reducible refine LeO.bind ?_ (fun _ => ?_))
      | exact ih0 _ _ _ _ _ _ _ _ _
      | exact grids_move.mono _ _ _ _ _ _ _
      | exact grids_point.mono _ _
      | exact LeO.none _
      | refine LeO.ite ?_ ?_
      | refine LeO.bind ?_ (fun _ => ?_)
set_option maxHeartbeats 8000000 in
set_option maxRecDepth 100000 in
theorem grids_Apply.calls (k : Nat) (a0_0 : Int) (a0_1 : Int) (a0_2 : Int) (a0_3 : Int) (a0_4 : Int) (a0_5 : Int) (a1_0 : Int) (a1_1 : Int) (r1 : Int) (r2 : Int) (r3 : Int) (w : World) (h : grids_Apply.f k a0_0 a0_1 a0_2 a0_3 a0_4 a0_5 a1_0 a1_1 = some (r1, r2, r3)) :
    Calls Try.prog 27 #[.agg #[.int .i64 a0_0, .int .i64 a0_1, .int .i64 a0_2, .int .i64 a0_3, .int .i64 a0_4, .int .i64 a0_5], .agg #[.int .i64 a1_0, .int .i64 a1_1]] w fun e w' => e = .returned (.tuple #[.agg #[.int .i64 r1, .int .i64 r2], .int .i64 r3]) ∧ Below w.heap.size w w' := by
  have hu55 := Try.underlying55
  have hu37 := Try.underlying37
  have HB := Aside0.mk (Below.refl w.heap.size w)
  have H : ((grids_move.f k a0_0 a0_1 a0_2 a0_3 a0_4 a0_5).bind fun t561 => (if t561 = true then ((grids_point.f k (([(⟨a1_0, a1_1⟩ : S37)] : List (S37)))).bind fun t565 => (grids_Apply.j0 k (!t565) a0_0 a0_1 a0_2 a0_3 a0_4 a0_5 a1_0 a1_1)) else (grids_Apply.j0 k true a0_0 a0_1 a0_2 a0_3 a0_4 a0_5 a1_0 a1_1))) = some (r1, r2, r3) := h
  clear h
  have HC3 := Aside0.mk H
  clear H
  go_enter Try.func27, Try.ntmps27
  go_upto_region 1 with (first | ((with_reducible refine gate_dst (N := 2) rfl ?_); (try (refine gate_guard (by rfl) ?_; dsimp only)); refine bx 2 #[.int .i64 a0_0, .int .i64 a0_1, .int .i64 a0_2, .int .i64 a0_3, .int .i64 a0_4, .int .i64 a0_5] 55 fun gb558 hg w4 BK558 hb => ?_; have GW558 := gw hg HB; have GE558 := gw hg HB; replace HB := bst HB hb; clear hb hg) | ((with_reducible refine gate_dst (N := 3) rfl ?_); (try (refine gate_guard (by rfl) ?_; dsimp only)); refine bx 3 #[.int .i64 a1_0, .int .i64 a1_1] 37 fun gb559 hg w5 BK559 hb => ?_; have GW559 := gw hg HB; have GE559 := gw hg HB; have NB558_559 := nlt hg BK558; have NB559_558 := ngt hg BK558; replace BK558 := bb BK558 hb; replace HB := bst HB hb; clear hb hg) | ((with_reducible refine gate_dst (N := 4) rfl ?_); (try (refine gate_guard (by rfl) ?_; dsimp only)); refine bx 4 #[.int .i64 0, .int .i64 0] 37 fun gb560 hg w6 BK560 hb => ?_; have GW560 := gw hg HB; have GE560 := gw hg HB; have NB558_560 := nlt hg BK558; have NB560_558 := ngt hg BK558; have NB559_560 := nlt hg BK559; have NB560_559 := ngt hg BK559; replace BK558 := bb BK558 hb; replace BK559 := bb BK559 hb; replace HB := bst HB hb; clear hb hg))
  (try simp only [Act.put, List.setIfInBounds_toArray, List.set_cons_zero, List.set_cons_succ])
  go_cut [15] (fun v15 wc => ∃ (kq : Nat) (x15_2 : Bool), v15 = .bool x15_2 ∧ Aside0 (grids_Apply.j0 kq x15_2 a0_0 a0_1 a0_2 a0_3 a0_4 a0_5 a1_0 a1_1 = some (r1, r2, r3)) ∧ Aside0 (kq ≤ k) ∧ Aside0 (wc.heap[gb558]? = some (.cells #[.int .i64 a0_0, .int .i64 a0_1, .int .i64 a0_2, .int .i64 a0_3, .int .i64 a0_4, .int .i64 a0_5] 55 (0, 0))) ∧ Aside0 (wc.heap[gb559]? = some (.cells #[.int .i64 a1_0, .int .i64 a1_1] 37 (0, 0))) ∧ Aside0 (wc.heap[gb560]? = some (.cells #[.int .i64 0, .int .i64 0] 37 (0, 0))) ∧ Aside0 (Below w.heap.size w wc))
  case first =>
    have H := HC3.out
    clear HC3
    obtain ⟨t561, A7, H⟩ := ob H
    by_cases c8 : t561 = true
    · subst c8
      have H1 : ((grids_point.f k (([(⟨a1_0, a1_1⟩ : S37)] : List (S37)))).bind fun t565 => (grids_Apply.j0 k (!t565) a0_0 a0_1 a0_2 a0_3 a0_4 a0_5 a1_0 a1_1)) = some (r1, r2, r3) := by rw [if_pos rfl] at H; exact H
      clear H
      have H := H1
      clear H1
      obtain ⟨y562, hy562⟩ : ∃ y_ : List (S37), y_ = (([(⟨a1_0, a1_1⟩ : S37)] : List (S37))) := ⟨_, rfl⟩
      replace H : ((grids_point.f k y562).bind fun t565 => (grids_Apply.j0 k (!t565) a0_0 a0_1 a0_2 a0_3 a0_4 a0_5 a1_0 a1_1)) = some (r1, r2, r3) := by first | (rw [hy562]; with_reducible exact H) | (have H2_ := (Option.bind_some _ _).symm.trans H; rw [hy562]; with_reducible exact H2_) | (have H2_ := (Option.bind_some _ _).symm.trans H; with_reducible exact H2_) | with_reducible exact H | (rw [hy562]; exact H) | exact H
      have Ny562 := Aside0.mk hy562
      clear hy562
      obtain ⟨t565, A9, H⟩ := ob H
      have H' := Aside0.mk H
      clear H
      have hnb10 := NB558_559.out
      have hnc10 := NB559_558.out
      have hnb11 := NB558_560.out
      have hnc11 := NB560_558.out
      have ⟨hcz12_0, hcz12_1, hcz12_2, hcz12_3, hcz12_4, hcz12_5, hfz12_0, hfz12_1, hfz12_2, hfz12_3, hfz12_4, hfz12_5⟩ := cf6 BK558
      go_wp2_with (first | ((with_reducible refine gate_callee (f := 62) rfl ?_); refine gl 8 Try.func62 (grids_move.calls k a0_0 a0_1 a0_2 a0_3 a0_4 a0_5 true _ A7.out) ?_; rintro e w13 ⟨rfl, hb⟩; refine ⟨_, rfl, ?_⟩; replace BK558 := bb BK558 hb; replace BK559 := bb BK559 hb; replace BK560 := bb BK560 hb; replace HB := bst HB hb; clear hb; have hnb14 := NB559_560.out; have hnc14 := NB560_559.out; have ⟨hcz15_0, hcz15_1, hfz15_0, hfz15_1⟩ := cf2 BK559) | ((with_reducible refine gate_dst (N := 12) rfl ?_); (try (refine gate_guard (by rfl) ?_; dsimp only)); refine Kd.R_lit k37 _ 37 ?hg (N := 12) ?hd (xs := ([(⟨a1_0, a1_1⟩ : S37)] : List (S37))) (inner := [.int .i64 a1_0, .int .i64 a1_1]) (ok := fun _ => True) (okp := fun _ => True) ?hr ?hp (fun _ hk => hk) trivial (Below.refl _ _) (Nat.le_refl _) (by simp) ?_; (case hd => rfl); (case hg => rfl); (case hr => first | (go_simp; done) | (go_simp; rfl)); (case hp => exact (Reps.c2 (show Kd.M k37 _ _ _ (⟨a1_0, a1_1⟩ : S37) [.int .i64 a1_0, .int .i64 a1_1] from (k37_mkM _ _ _ (⟨a1_0, a1_1⟩ : S37) )) (Reps.none _ _))); intro v563 w16 ho17 hb hg_ hnew_; clear hg_ hnew_; (first | rw [← Ny562.out] at ho17 | (simp only [Int.reduceToNat] at ho17; rw [← Ny562.out] at ho17)); have HO564 := Aside0.mk (Kd.R_lower (Kd.R_newB (Kd.R_newB ho17 (g := gb559) (o := .cells #[.int .i64 a1_0, .int .i64 a1_1] 37 (0, 0)) (pk BK559)) (g := gb560) (o := .cells #[.int .i64 0, .int .i64 0] 37 (0, 0)) (pk BK560)) (below_size (bnow HB))); replace BK558 := bb BK558 hb; replace BK559 := bb BK559 hb; replace BK560 := bb BK560 hb; replace HB := bst HB hb; clear hb ho17; obtain ⟨Ao18, co18, eo18⟩ := Kd.R_slice HO564.out; subst eo18) | (go_at_call 49; (with_reducible refine (grids_point.calls k _ _ y562 t565 _ ?side1 ?side2 A9.out).mono ?_); (case side1 => repeat (first | exact (Kd.R_reads' HO564.out).2.2 | (with_reducible refine Kd.C_alloc ?_ _) | (with_reducible refine Kd.C_drewN ?_ _) | (with_reducible refine Kd.C_drew ?_))); (case side2 => exact (Kd.R_reads' HO564.out).2.1); rintro e w19 ⟨rfl, hb⟩; replace HO564 := Aside0.mk (Kd.R_below (by (with_reducible repeat (first | apply Kd.R_alloc | apply Kd.R_drewN | apply Kd.R_drew)); exact HO564.out) hb); replace BK558 := bb BK558 hb; replace BK559 := bb BK559 hb; replace BK560 := bb BK560 hb; replace HB := bst HB hb; (try clear hb); (try clear hb2); (try clear hk); (try clear hi)))
      go_meet
      case rel => exact ⟨_, (!t565), (by first | rfl | (simp; done) | (simp [*]; done)), H', ⟨by first | omega | exact Nat.le_refl _⟩, ⟨pk BK558⟩, ⟨pk BK559⟩, ⟨pk BK560⟩, ⟨bnow HB⟩⟩
    · replace c8 := Bool.eq_false_iff.mpr c8
      subst c8
      have H1 : (grids_Apply.j0 k true a0_0 a0_1 a0_2 a0_3 a0_4 a0_5 a1_0 a1_1) = some (r1, r2, r3) := by rw [if_neg (show ¬ (false = true) by decide)] at H; exact H
      clear H
      have H := H1
      clear H1
      have H' := Aside0.mk H
      clear H
      have hnb20 := NB558_559.out
      have hnc20 := NB559_558.out
      have hnb21 := NB558_560.out
      have hnc21 := NB560_558.out
      have ⟨hcz22_0, hcz22_1, hcz22_2, hcz22_3, hcz22_4, hcz22_5, hfz22_0, hfz22_1, hfz22_2, hfz22_3, hfz22_4, hfz22_5⟩ := cf6 BK558
      go_wp2_with (first | ((with_reducible refine gate_callee (f := 62) rfl ?_); refine gl 8 Try.func62 (grids_move.calls k a0_0 a0_1 a0_2 a0_3 a0_4 a0_5 false _ A7.out) ?_; rintro e w23 ⟨rfl, hb⟩; refine ⟨_, rfl, ?_⟩; replace BK558 := bb BK558 hb; replace BK559 := bb BK559 hb; replace BK560 := bb BK560 hb; replace HB := bst HB hb; clear hb))
      go_meet
      case rel => exact ⟨_, (true), (by first | rfl | (simp; done) | (simp [*]; done)), H', ⟨by first | omega | exact Nat.le_refl _⟩, ⟨pk BK558⟩, ⟨pk BK559⟩, ⟨pk BK560⟩, ⟨bnow HB⟩⟩
  case rest =>
    clear HC3
    try clear c1; try clear c2; try clear p2; try clear c6; try clear c8; try clear c10; try clear c11; try clear c14; try clear c20; try clear c21; try clear hcz12_0; try clear hcz12_1; try clear hcz12_2; try clear hcz12_3; try clear hcz12_4; try clear hcz12_5; try clear hcz15_0; try clear hcz15_1; try clear hcz22_0; try clear hcz22_1; try clear hcz22_2; try clear hcz22_3; try clear hcz22_4; try clear hcz22_5; try clear hfz12_0; try clear hfz12_1; try clear hfz12_2; try clear hfz12_3; try clear hfz12_4; try clear hfz12_5; try clear hfz15_0; try clear hfz15_1; try clear hfz22_0; try clear hfz22_1; try clear hfz22_2; try clear hfz22_3; try clear hfz22_4; try clear hfz22_5
    obtain ⟨kq, x15_2, rfl, HA, HJ2, BK558, BK559, BK560, HB⟩ := hcut
    cases kq with
    | zero => exact absurd HA.out (by simp [grids_Apply.j0])
    | succ kj2 =>
      have H := HA.out
      clear HA
      simp only [grids_Apply.j0] at H
      by_cases c24 : x15_2 = true
      · subst c24
        have H1 : (some (0, 0, 2)) = some (r1, r2, r3) := by rw [if_pos rfl] at H; exact H
        clear H
        have H := H1
        clear H1
        simp only [Option.some.injEq, Prod.mk.injEq] at H
        obtain ⟨rfl, rfl, rfl⟩ := H
        have hnb25 := NB560_558.out
        have hnc25 := NB558_560.out
        have hnb26 := NB560_559.out
        have hnc26 := NB559_560.out
        have ⟨hcz27_0, hcz27_1, hfz27_0, hfz27_1⟩ := cf2 BK560
        go_wp2
        refine bodyPost_ret (results_ct rfl _ _ gb560 37 #[.int .i64 0, .int .i64 0] (0, 0) _ rfl (by (with_reducible repeat (first | refine blk_drewN ?_ _ | refine blk_drew ?_ | refine blk_alloc ?_ _)); refine blk_put (cs := #[.int .i64 0, .int .i64 0]) ?_ 1 _ rfl; (with_reducible repeat (first | refine blk_drewN ?_ _ | refine blk_drew ?_ | refine blk_alloc ?_ _)); refine blk_put (cs := #[.int .i64 0, .int .i64 0]) ?_ 0 _ rfl; (with_reducible repeat (first | refine blk_drewN ?_ _ | refine blk_drew ?_ | refine blk_alloc ?_ _)); exact BK560.out) Try.underlying37 rfl (by kernel_rfl)) rfl ?_
        exact rt HB
      · replace c24 := Bool.eq_false_iff.mpr c24
        subst c24
        have H1 : ((grids_image.f a0_0 a0_1 a0_2 a0_3 a0_4 a0_5 a1_0 a1_1).bind fun bt566 => ((grids_point.f kj2 (([(⟨bt566.1, bt566.2⟩ : S37)] : List (S37)))).bind fun t572 => (if t572 = true then (some (bt566.1, bt566.2, 0)) else (some (0, 0, 7))))) = some (r1, r2, r3) := by rw [if_neg (show ¬ (false = true) by decide)] at H; exact H
        clear H
        have H := H1
        clear H1
        obtain ⟨⟨t566, t567⟩, A28, H⟩ := ob H
        obtain ⟨y569, hy569⟩ : ∃ y_ : List (S37), y_ = (([(⟨t566, t567⟩ : S37)] : List (S37))) := ⟨_, rfl⟩
        replace H : ((grids_point.f kj2 y569).bind fun t572 => (if t572 = true then (some (t566, t567, 0)) else (some (0, 0, 7)))) = some (r1, r2, r3) := by first | (rw [hy569]; with_reducible exact H) | (have H2_ := (Option.bind_some _ _).symm.trans H; rw [hy569]; with_reducible exact H2_) | (have H2_ := (Option.bind_some _ _).symm.trans H; with_reducible exact H2_) | with_reducible exact H | (rw [hy569]; exact H) | exact H
        have Ny569 := Aside0.mk hy569
        clear hy569
        obtain ⟨t572, A29, H⟩ := ob H
        by_cases c30 : t572 = true
        · subst c30
          have H1 : (some (t566, t567, 0)) = some (r1, r2, r3) := by rw [if_pos rfl] at H; exact H
          clear H
          have H := H1
          clear H1
          simp only [Option.some.injEq, Prod.mk.injEq] at H
          obtain ⟨rfl, rfl, rfl⟩ := H
          have hnb31 := NB558_559.out
          have hnc31 := NB559_558.out
          have hnb32 := NB558_560.out
          have hnc32 := NB560_558.out
          have ⟨hcz33_0, hcz33_1, hcz33_2, hcz33_3, hcz33_4, hcz33_5, hfz33_0, hfz33_1, hfz33_2, hfz33_3, hfz33_4, hfz33_5⟩ := cf6 BK558
          have hnb34 := NB559_560.out
          have hnc34 := NB560_559.out
          have ⟨hcz35_0, hcz35_1, hfz35_0, hfz35_1⟩ := cf2 BK559
          go_wp2_with (first | ((with_reducible refine gate_callee (f := 63) rfl ?_); refine gl 19 Try.func63 (grids_image.calls a0_0 a0_1 a0_2 a0_3 a0_4 a0_5 a1_0 a1_1 t566 t567 _ A28.out) ?_; rintro e w36 ⟨rfl, hb⟩; refine ⟨_, rfl, ?_⟩; replace BK558 := bb BK558 hb; replace BK559 := bb BK559 hb; replace BK560 := bb BK560 hb; replace HB := bst HB hb; clear hb) | ((with_reducible refine gate_dst (N := 6) rfl ?_); (try (refine gate_guard (by rfl) ?_; dsimp only)); refine bx 6 #[.int .i64 0, .int .i64 0] 37 fun gb568 hg w37 BK568 hb => ?_; have GW568 := gw hg HB; have GE568 := gw hg HB; have NB558_568 := nlt hg BK558; have NB568_558 := ngt hg BK558; have NB559_568 := nlt hg BK559; have NB568_559 := ngt hg BK559; have NB560_568 := nlt hg BK560; have NB568_560 := ngt hg BK560; replace BK558 := bb BK558 hb; replace BK559 := bb BK559 hb; replace BK560 := bb BK560 hb; replace HB := bst HB hb; clear hb hg; have hnb38 := NB568_558.out; have hnc38 := NB558_568.out; have hnb39 := NB568_559.out; have hnc39 := NB559_568.out; have hnb40 := NB568_560.out; have hnc40 := NB560_568.out; have ⟨hcz41_0, hcz41_1, hfz41_0, hfz41_1⟩ := cf2 BK568) | ((with_reducible refine gate_dst (N := 21) rfl ?_); (try (refine gate_guard (by rfl) ?_; dsimp only)); refine Kd.R_lit k37 _ 37 ?hg (N := 21) ?hd (xs := ([(⟨t566, t567⟩ : S37)] : List (S37))) (inner := [.int .i64 t566, .int .i64 t567]) (ok := fun _ => True) (okp := fun _ => True) ?hr ?hp (fun _ hk => hk) trivial (Below.refl _ _) (Nat.le_refl _) (by simp) ?_; (case hd => rfl); (case hg => rfl); (case hr => first | (go_simp; done) | (go_simp; rfl)); (case hp => exact (Reps.c2 (show Kd.M k37 _ _ _ (⟨t566, t567⟩ : S37) [.int .i64 t566, .int .i64 t567] from (k37_mkM _ _ _ (⟨t566, t567⟩ : S37) )) (Reps.none _ _))); intro v570 w42 ho43 hb hg_ hnew_; clear hg_ hnew_; (first | rw [← Ny569.out] at ho43 | (simp only [Int.reduceToNat] at ho43; rw [← Ny569.out] at ho43)); have HO571 := Aside0.mk (Kd.R_lower (Kd.R_newB (Kd.R_newB (Kd.R_newB ho43 (g := gb559) (o := .cells #[.int .i64 a1_0, .int .i64 a1_1] 37 (0, 0)) (by (with_reducible repeat (first | refine blk_drewN ?_ _ | refine blk_drew ?_ | refine blk_alloc ?_ _)); refine blk_far ?_ NB559_568.out _; (with_reducible repeat (first | refine blk_drewN ?_ _ | refine blk_drew ?_ | refine blk_alloc ?_ _)); refine blk_far ?_ NB559_568.out _; (with_reducible repeat (first | refine blk_drewN ?_ _ | refine blk_drew ?_ | refine blk_alloc ?_ _)); exact BK559.out)) (g := gb560) (o := .cells #[.int .i64 0, .int .i64 0] 37 (0, 0)) (by (with_reducible repeat (first | refine blk_drewN ?_ _ | refine blk_drew ?_ | refine blk_alloc ?_ _)); refine blk_far ?_ NB560_568.out _; (with_reducible repeat (first | refine blk_drewN ?_ _ | refine blk_drew ?_ | refine blk_alloc ?_ _)); refine blk_far ?_ NB560_568.out _; (with_reducible repeat (first | refine blk_drewN ?_ _ | refine blk_drew ?_ | refine blk_alloc ?_ _)); exact BK560.out)) (g := gb568) (o := .cells #[.int .i64 t566, .int .i64 t567] 37 (0, 0)) (by (with_reducible repeat (first | refine blk_drewN ?_ _ | refine blk_drew ?_ | refine blk_alloc ?_ _)); refine blk_put (cs := #[.int .i64 t566, .int .i64 0]) ?_ 1 _ rfl; (with_reducible repeat (first | refine blk_drewN ?_ _ | refine blk_drew ?_ | refine blk_alloc ?_ _)); refine blk_put (cs := #[.int .i64 0, .int .i64 0]) ?_ 0 _ rfl; (with_reducible repeat (first | refine blk_drewN ?_ _ | refine blk_drew ?_ | refine blk_alloc ?_ _)); exact BK568.out)) (below_size (bnow HB))); replace BK558 := Aside0.mk (blk_below (g := gb558) (o := .cells #[.int .i64 a0_0, .int .i64 a0_1, .int .i64 a0_2, .int .i64 a0_3, .int .i64 a0_4, .int .i64 a0_5] 55 (0, 0)) (by (with_reducible repeat (first | refine blk_drewN ?_ _ | refine blk_drew ?_ | refine blk_alloc ?_ _)); refine blk_far ?_ NB558_568.out _; (with_reducible repeat (first | refine blk_drewN ?_ _ | refine blk_drew ?_ | refine blk_alloc ?_ _)); refine blk_far ?_ NB558_568.out _; (with_reducible repeat (first | refine blk_drewN ?_ _ | refine blk_drew ?_ | refine blk_alloc ?_ _)); exact BK558.out) hb); replace BK559 := Aside0.mk (blk_below (g := gb559) (o := .cells #[.int .i64 a1_0, .int .i64 a1_1] 37 (0, 0)) (by (with_reducible repeat (first | refine blk_drewN ?_ _ | refine blk_drew ?_ | refine blk_alloc ?_ _)); refine blk_far ?_ NB559_568.out _; (with_reducible repeat (first | refine blk_drewN ?_ _ | refine blk_drew ?_ | refine blk_alloc ?_ _)); refine blk_far ?_ NB559_568.out _; (with_reducible repeat (first | refine blk_drewN ?_ _ | refine blk_drew ?_ | refine blk_alloc ?_ _)); exact BK559.out) hb); replace BK560 := Aside0.mk (blk_below (g := gb560) (o := .cells #[.int .i64 0, .int .i64 0] 37 (0, 0)) (by (with_reducible repeat (first | refine blk_drewN ?_ _ | refine blk_drew ?_ | refine blk_alloc ?_ _)); refine blk_far ?_ NB560_568.out _; (with_reducible repeat (first | refine blk_drewN ?_ _ | refine blk_drew ?_ | refine blk_alloc ?_ _)); refine blk_far ?_ NB560_568.out _; (with_reducible repeat (first | refine blk_drewN ?_ _ | refine blk_drew ?_ | refine blk_alloc ?_ _)); exact BK560.out) hb); replace BK568 := Aside0.mk (blk_below (g := gb568) (o := .cells #[.int .i64 t566, .int .i64 t567] 37 (0, 0)) (by (with_reducible repeat (first | refine blk_drewN ?_ _ | refine blk_drew ?_ | refine blk_alloc ?_ _)); refine blk_put (cs := #[.int .i64 t566, .int .i64 0]) ?_ 1 _ rfl; (with_reducible repeat (first | refine blk_drewN ?_ _ | refine blk_drew ?_ | refine blk_alloc ?_ _)); refine blk_put (cs := #[.int .i64 0, .int .i64 0]) ?_ 0 _ rfl; (with_reducible repeat (first | refine blk_drewN ?_ _ | refine blk_drew ?_ | refine blk_alloc ?_ _)); exact BK568.out) hb); replace HB := bst HB hb; clear hb ho43; obtain ⟨Ao44, co44, eo44⟩ := Kd.R_slice HO571.out; subst eo44) | ((with_reducible refine gate_callee (f := 49) rfl ?_); refine goesL_ (some 22) rfl rfl Try.func49 (by kernel_rfl) rfl #[.slice Ao44 y569.length co44] rfl am ?_; (with_reducible refine (grids_point.calls kj2 _ _ y569 true _ ?side1 ?side2 A29.out).mono ?_); (case side1 => repeat (first | exact (Kd.R_reads' HO571.out).2.2 | (with_reducible refine Kd.C_alloc ?_ _) | (with_reducible refine Kd.C_drewN ?_ _) | (with_reducible refine Kd.C_drew ?_))); (case side2 => exact (Kd.R_reads' HO571.out).2.1); rintro e w45 ⟨rfl, hb⟩; refine ⟨_, rfl, ?_⟩; replace HO571 := Aside0.mk (Kd.R_below (by (with_reducible repeat (first | apply Kd.R_alloc | apply Kd.R_drewN | apply Kd.R_drew)); exact HO571.out) hb); replace BK558 := bb BK558 hb; replace BK559 := bb BK559 hb; replace BK560 := bb BK560 hb; replace BK568 := bb BK568 hb; replace HB := bst HB hb; (try clear hb); (try clear hb2); (try clear hk); (try clear hi); have ⟨hcz46_0, hcz46_1, hfz46_0, hfz46_1⟩ := cf2 BK568; have ⟨hcz47_0, hcz47_1, hfz47_0, hfz47_1⟩ := cf2 BK560))
          refine bodyPost_ret (results_ct rfl _ _ gb560 37 #[.int .i64 t566, .int .i64 t567] (0, 0) _ rfl (by (with_reducible repeat (first | refine blk_drewN ?_ _ | refine blk_drew ?_ | refine blk_alloc ?_ _)); refine blk_put (cs := #[.int .i64 t566, .int .i64 0]) ?_ 1 _ rfl; (with_reducible repeat (first | refine blk_drewN ?_ _ | refine blk_drew ?_ | refine blk_alloc ?_ _)); refine blk_put (cs := #[.int .i64 0, .int .i64 0]) ?_ 0 _ rfl; (with_reducible repeat (first | refine blk_drewN ?_ _ | refine blk_drew ?_ | refine blk_alloc ?_ _)); exact BK560.out) Try.underlying37 rfl (by kernel_rfl)) rfl ?_
          exact rt HB
        · replace c30 := Bool.eq_false_iff.mpr c30
          subst c30
          have H1 : (some (0, 0, 7)) = some (r1, r2, r3) := by rw [if_neg (show ¬ (false = true) by decide)] at H; exact H
          clear H
          have H := H1
          clear H1
          simp only [Option.some.injEq, Prod.mk.injEq] at H
          obtain ⟨rfl, rfl, rfl⟩ := H
          have hnb48 := NB558_559.out
          have hnc48 := NB559_558.out
          have hnb49 := NB558_560.out
          have hnc49 := NB560_558.out
          have ⟨hcz50_0, hcz50_1, hcz50_2, hcz50_3, hcz50_4, hcz50_5, hfz50_0, hfz50_1, hfz50_2, hfz50_3, hfz50_4, hfz50_5⟩ := cf6 BK558
          have hnb51 := NB559_560.out
          have hnc51 := NB560_559.out
          have ⟨hcz52_0, hcz52_1, hfz52_0, hfz52_1⟩ := cf2 BK559
          go_wp2_with (first | ((with_reducible refine gate_callee (f := 63) rfl ?_); refine gl 19 Try.func63 (grids_image.calls a0_0 a0_1 a0_2 a0_3 a0_4 a0_5 a1_0 a1_1 t566 t567 _ A28.out) ?_; rintro e w53 ⟨rfl, hb⟩; refine ⟨_, rfl, ?_⟩; replace BK558 := bb BK558 hb; replace BK559 := bb BK559 hb; replace BK560 := bb BK560 hb; replace HB := bst HB hb; clear hb) | ((with_reducible refine gate_dst (N := 6) rfl ?_); (try (refine gate_guard (by rfl) ?_; dsimp only)); refine bx 6 #[.int .i64 0, .int .i64 0] 37 fun gb568 hg w54 BK568 hb => ?_; have GW568 := gw hg HB; have GE568 := gw hg HB; have NB558_568 := nlt hg BK558; have NB568_558 := ngt hg BK558; have NB559_568 := nlt hg BK559; have NB568_559 := ngt hg BK559; have NB560_568 := nlt hg BK560; have NB568_560 := ngt hg BK560; replace BK558 := bb BK558 hb; replace BK559 := bb BK559 hb; replace BK560 := bb BK560 hb; replace HB := bst HB hb; clear hb hg; have hnb55 := NB568_558.out; have hnc55 := NB558_568.out; have hnb56 := NB568_559.out; have hnc56 := NB559_568.out; have hnb57 := NB568_560.out; have hnc57 := NB560_568.out; have ⟨hcz58_0, hcz58_1, hfz58_0, hfz58_1⟩ := cf2 BK568) | ((with_reducible refine gate_dst (N := 21) rfl ?_); (try (refine gate_guard (by rfl) ?_; dsimp only)); refine Kd.R_lit k37 _ 37 ?hg (N := 21) ?hd (xs := ([(⟨t566, t567⟩ : S37)] : List (S37))) (inner := [.int .i64 t566, .int .i64 t567]) (ok := fun _ => True) (okp := fun _ => True) ?hr ?hp (fun _ hk => hk) trivial (Below.refl _ _) (Nat.le_refl _) (by simp) ?_; (case hd => rfl); (case hg => rfl); (case hr => first | (go_simp; done) | (go_simp; rfl)); (case hp => exact (Reps.c2 (show Kd.M k37 _ _ _ (⟨t566, t567⟩ : S37) [.int .i64 t566, .int .i64 t567] from (k37_mkM _ _ _ (⟨t566, t567⟩ : S37) )) (Reps.none _ _))); intro v570 w59 ho60 hb hg_ hnew_; clear hg_ hnew_; (first | rw [← Ny569.out] at ho60 | (simp only [Int.reduceToNat] at ho60; rw [← Ny569.out] at ho60)); have HO571 := Aside0.mk (Kd.R_lower (Kd.R_newB (Kd.R_newB (Kd.R_newB ho60 (g := gb559) (o := .cells #[.int .i64 a1_0, .int .i64 a1_1] 37 (0, 0)) (by (with_reducible repeat (first | refine blk_drewN ?_ _ | refine blk_drew ?_ | refine blk_alloc ?_ _)); refine blk_far ?_ NB559_568.out _; (with_reducible repeat (first | refine blk_drewN ?_ _ | refine blk_drew ?_ | refine blk_alloc ?_ _)); refine blk_far ?_ NB559_568.out _; (with_reducible repeat (first | refine blk_drewN ?_ _ | refine blk_drew ?_ | refine blk_alloc ?_ _)); exact BK559.out)) (g := gb560) (o := .cells #[.int .i64 0, .int .i64 0] 37 (0, 0)) (by (with_reducible repeat (first | refine blk_drewN ?_ _ | refine blk_drew ?_ | refine blk_alloc ?_ _)); refine blk_far ?_ NB560_568.out _; (with_reducible repeat (first | refine blk_drewN ?_ _ | refine blk_drew ?_ | refine blk_alloc ?_ _)); refine blk_far ?_ NB560_568.out _; (with_reducible repeat (first | refine blk_drewN ?_ _ | refine blk_drew ?_ | refine blk_alloc ?_ _)); exact BK560.out)) (g := gb568) (o := .cells #[.int .i64 t566, .int .i64 t567] 37 (0, 0)) (by (with_reducible repeat (first | refine blk_drewN ?_ _ | refine blk_drew ?_ | refine blk_alloc ?_ _)); refine blk_put (cs := #[.int .i64 t566, .int .i64 0]) ?_ 1 _ rfl; (with_reducible repeat (first | refine blk_drewN ?_ _ | refine blk_drew ?_ | refine blk_alloc ?_ _)); refine blk_put (cs := #[.int .i64 0, .int .i64 0]) ?_ 0 _ rfl; (with_reducible repeat (first | refine blk_drewN ?_ _ | refine blk_drew ?_ | refine blk_alloc ?_ _)); exact BK568.out)) (below_size (bnow HB))); replace BK558 := Aside0.mk (blk_below (g := gb558) (o := .cells #[.int .i64 a0_0, .int .i64 a0_1, .int .i64 a0_2, .int .i64 a0_3, .int .i64 a0_4, .int .i64 a0_5] 55 (0, 0)) (by (with_reducible repeat (first | refine blk_drewN ?_ _ | refine blk_drew ?_ | refine blk_alloc ?_ _)); refine blk_far ?_ NB558_568.out _; (with_reducible repeat (first | refine blk_drewN ?_ _ | refine blk_drew ?_ | refine blk_alloc ?_ _)); refine blk_far ?_ NB558_568.out _; (with_reducible repeat (first | refine blk_drewN ?_ _ | refine blk_drew ?_ | refine blk_alloc ?_ _)); exact BK558.out) hb); replace BK559 := Aside0.mk (blk_below (g := gb559) (o := .cells #[.int .i64 a1_0, .int .i64 a1_1] 37 (0, 0)) (by (with_reducible repeat (first | refine blk_drewN ?_ _ | refine blk_drew ?_ | refine blk_alloc ?_ _)); refine blk_far ?_ NB559_568.out _; (with_reducible repeat (first | refine blk_drewN ?_ _ | refine blk_drew ?_ | refine blk_alloc ?_ _)); refine blk_far ?_ NB559_568.out _; (with_reducible repeat (first | refine blk_drewN ?_ _ | refine blk_drew ?_ | refine blk_alloc ?_ _)); exact BK559.out) hb); replace BK560 := Aside0.mk (blk_below (g := gb560) (o := .cells #[.int .i64 0, .int .i64 0] 37 (0, 0)) (by (with_reducible repeat (first | refine blk_drewN ?_ _ | refine blk_drew ?_ | refine blk_alloc ?_ _)); refine blk_far ?_ NB560_568.out _; (with_reducible repeat (first | refine blk_drewN ?_ _ | refine blk_drew ?_ | refine blk_alloc ?_ _)); refine blk_far ?_ NB560_568.out _; (with_reducible repeat (first | refine blk_drewN ?_ _ | refine blk_drew ?_ | refine blk_alloc ?_ _)); exact BK560.out) hb); replace BK568 := Aside0.mk (blk_below (g := gb568) (o := .cells #[.int .i64 t566, .int .i64 t567] 37 (0, 0)) (by (with_reducible repeat (first | refine blk_drewN ?_ _ | refine blk_drew ?_ | refine blk_alloc ?_ _)); refine blk_put (cs := #[.int .i64 t566, .int .i64 0]) ?_ 1 _ rfl; (with_reducible repeat (first | refine blk_drewN ?_ _ | refine blk_drew ?_ | refine blk_alloc ?_ _)); refine blk_put (cs := #[.int .i64 0, .int .i64 0]) ?_ 0 _ rfl; (with_reducible repeat (first | refine blk_drewN ?_ _ | refine blk_drew ?_ | refine blk_alloc ?_ _)); exact BK568.out) hb); replace HB := bst HB hb; clear hb ho60; obtain ⟨Ao61, co61, eo61⟩ := Kd.R_slice HO571.out; subst eo61) | ((with_reducible refine gate_callee (f := 49) rfl ?_); refine goesL_ (some 22) rfl rfl Try.func49 (by kernel_rfl) rfl #[.slice Ao61 y569.length co61] rfl am ?_; (with_reducible refine (grids_point.calls kj2 _ _ y569 false _ ?side1 ?side2 A29.out).mono ?_); (case side1 => repeat (first | exact (Kd.R_reads' HO571.out).2.2 | (with_reducible refine Kd.C_alloc ?_ _) | (with_reducible refine Kd.C_drewN ?_ _) | (with_reducible refine Kd.C_drew ?_))); (case side2 => exact (Kd.R_reads' HO571.out).2.1); rintro e w62 ⟨rfl, hb⟩; refine ⟨_, rfl, ?_⟩; replace HO571 := Aside0.mk (Kd.R_below (by (with_reducible repeat (first | apply Kd.R_alloc | apply Kd.R_drewN | apply Kd.R_drew)); exact HO571.out) hb); replace BK558 := bb BK558 hb; replace BK559 := bb BK559 hb; replace BK560 := bb BK560 hb; replace BK568 := bb BK568 hb; replace HB := bst HB hb; (try clear hb); (try clear hb2); (try clear hk); (try clear hi); have ⟨hcz63_0, hcz63_1, hfz63_0, hfz63_1⟩ := cf2 BK560))
          refine bodyPost_ret (results_ct rfl _ _ gb560 37 #[.int .i64 0, .int .i64 0] (0, 0) _ rfl (by (with_reducible repeat (first | refine blk_drewN ?_ _ | refine blk_drew ?_ | refine blk_alloc ?_ _)); refine blk_put (cs := #[.int .i64 0, .int .i64 0]) ?_ 1 _ rfl; (with_reducible repeat (first | refine blk_drewN ?_ _ | refine blk_drew ?_ | refine blk_alloc ?_ _)); refine blk_put (cs := #[.int .i64 0, .int .i64 0]) ?_ 0 _ rfl; (with_reducible repeat (first | refine blk_drewN ?_ _ | refine blk_drew ?_ | refine blk_alloc ?_ _)); exact BK560.out) Try.underlying37 rfl (by kernel_rfl)) rfl ?_
          exact rt HB
end
section
/-! ### grids_times: function 40 -/
def grids_times.f (a0_0 : Int) (a0_1 : Int) (a0_2 : Int) (a0_3 : Int) (a1_0 : Int) (a1_1 : Int) (a1_2 : Int) (a1_3 : Int) : Option (Int × Int × Int × Int) := (some (wrap64 (a0_0 * a1_0))).bind fun z109 => ((some (wrap64 (a0_1 * a1_2))).bind fun z110 => ((some (wrap64 (z109 + z110))).bind fun z111 => ((some (wrap64 (a0_0 * a1_1))).bind fun z112 => ((some (wrap64 (a0_1 * a1_3))).bind fun z113 => ((some (wrap64 (z112 + z113))).bind fun z114 => ((some (wrap64 (a0_2 * a1_0))).bind fun z115 => ((some (wrap64 (a0_3 * a1_2))).bind fun z116 => ((some (wrap64 (z115 + z116))).bind fun z117 => ((some (wrap64 (a0_2 * a1_1))).bind fun z118 => ((some (wrap64 (a0_3 * a1_3))).bind fun z119 => ((some (wrap64 (z118 + z119))).bind fun z120 => (some (z111, z114, z117, z120)))))))))))))
set_option maxHeartbeats 8000000 in
set_option maxRecDepth 100000 in
theorem grids_times.calls (a0_0 : Int) (a0_1 : Int) (a0_2 : Int) (a0_3 : Int) (a1_0 : Int) (a1_1 : Int) (a1_2 : Int) (a1_3 : Int) (r1 : Int) (r2 : Int) (r3 : Int) (r4 : Int) (w : World) (h : grids_times.f a0_0 a0_1 a0_2 a0_3 a1_0 a1_1 a1_2 a1_3 = some (r1, r2, r3, r4)) :
    Calls Try.prog 40 #[.agg #[.int .i64 a0_0, .int .i64 a0_1, .int .i64 a0_2, .int .i64 a0_3], .agg #[.int .i64 a1_0, .int .i64 a1_1, .int .i64 a1_2, .int .i64 a1_3]] w fun e w' => e = .returned (.agg #[.int .i64 r1, .int .i64 r2, .int .i64 r3, .int .i64 r4]) ∧ Below w.heap.size w w' := by
  have hu25 := Try.underlying25
  have HB := Aside0.mk (Below.refl w.heap.size w)
  have H : ((some (wrap64 (a0_0 * a1_0))).bind fun z109 => ((some (wrap64 (a0_1 * a1_2))).bind fun z110 => ((some (wrap64 (z109 + z110))).bind fun z111 => ((some (wrap64 (a0_0 * a1_1))).bind fun z112 => ((some (wrap64 (a0_1 * a1_3))).bind fun z113 => ((some (wrap64 (z112 + z113))).bind fun z114 => ((some (wrap64 (a0_2 * a1_0))).bind fun z115 => ((some (wrap64 (a0_3 * a1_2))).bind fun z116 => ((some (wrap64 (z115 + z116))).bind fun z117 => ((some (wrap64 (a0_2 * a1_1))).bind fun z118 => ((some (wrap64 (a0_3 * a1_3))).bind fun z119 => ((some (wrap64 (z118 + z119))).bind fun z120 => (some (z111, z114, z117, z120)))))))))))))) = some (r1, r2, r3, r4) := h
  clear h
  obtain ⟨z109, E30, H⟩ := oc H
  have E3w : (IntKind.i64.wrap (a0_0 * a1_0)) = z109 := (i64_w _).trans E30
  obtain ⟨z110, E40, H⟩ := oc H
  have E4w : (IntKind.i64.wrap (a0_1 * a1_2)) = z110 := (i64_w _).trans E40
  obtain ⟨z111, E50, H⟩ := oc H
  have E5w : (IntKind.i64.wrap (z109 + z110)) = z111 := (i64_w _).trans E50
  obtain ⟨z112, E60, H⟩ := oc H
  have E6w : (IntKind.i64.wrap (a0_0 * a1_1)) = z112 := (i64_w _).trans E60
  obtain ⟨z113, E70, H⟩ := oc H
  have E7w : (IntKind.i64.wrap (a0_1 * a1_3)) = z113 := (i64_w _).trans E70
  obtain ⟨z114, E80, H⟩ := oc H
  have E8w : (IntKind.i64.wrap (z112 + z113)) = z114 := (i64_w _).trans E80
  obtain ⟨z115, E90, H⟩ := oc H
  have E9w : (IntKind.i64.wrap (a0_2 * a1_0)) = z115 := (i64_w _).trans E90
  obtain ⟨z116, E100, H⟩ := oc H
  have E10w : (IntKind.i64.wrap (a0_3 * a1_2)) = z116 := (i64_w _).trans E100
  obtain ⟨z117, E110, H⟩ := oc H
  have E11w : (IntKind.i64.wrap (z115 + z116)) = z117 := (i64_w _).trans E110
  obtain ⟨z118, E120, H⟩ := oc H
  have E12w : (IntKind.i64.wrap (a0_2 * a1_1)) = z118 := (i64_w _).trans E120
  obtain ⟨z119, E130, H⟩ := oc H
  have E13w : (IntKind.i64.wrap (a0_3 * a1_3)) = z119 := (i64_w _).trans E130
  obtain ⟨z120, E140, H⟩ := oc H
  have E14w : (IntKind.i64.wrap (z118 + z119)) = z120 := (i64_w _).trans E140
  simp only [Option.some.injEq, Prod.mk.injEq] at H
  obtain ⟨rfl, rfl, rfl, rfl⟩ := H
  go_enter Try.func40, Try.ntmps40
  go_wp2_with (first | ((with_reducible refine gate_dst (N := 2) rfl ?_); refine bx 2 #[.int .i64 a0_0, .int .i64 a0_1, .int .i64 a0_2, .int .i64 a0_3] 25 fun gb106 hg w15 BK106 hb => ?_; have GW106 := gw hg HB; have GE106 := gw hg HB; replace HB := bst HB hb; clear hb hg) | ((with_reducible refine gate_dst (N := 3) rfl ?_); refine bx 3 #[.int .i64 a1_0, .int .i64 a1_1, .int .i64 a1_2, .int .i64 a1_3] 25 fun gb107 hg w16 BK107 hb => ?_; have GW107 := gw hg HB; have GE107 := gw hg HB; have NB106_107 := nlt hg BK106; have NB107_106 := ngt hg BK106; replace BK106 := bb BK106 hb; replace HB := bst HB hb; clear hb hg) | ((with_reducible refine gate_dst (N := 4) rfl ?_); refine bx 4 #[.int .i64 0, .int .i64 0, .int .i64 0, .int .i64 0] 25 fun gb108 hg w17 BK108 hb => ?_; have GW108 := gw hg HB; have GE108 := gw hg HB; have NB106_108 := nlt hg BK106; have NB108_106 := ngt hg BK106; have NB107_108 := nlt hg BK107; have NB108_107 := ngt hg BK107; replace BK106 := bb BK106 hb; replace BK107 := bb BK107 hb; replace HB := bst HB hb; clear hb hg; have hnb18 := NB106_107.out; have hnc18 := NB107_106.out; have hnb19 := NB106_108.out; have hnc19 := NB108_106.out; have ⟨hcz20_0, hcz20_1, hcz20_2, hcz20_3, hfz20_0, hfz20_1, hfz20_2, hfz20_3⟩ := cf4 BK106; have hnb21 := NB107_108.out; have hnc21 := NB108_107.out; have ⟨hcz22_0, hcz22_1, hcz22_2, hcz22_3, hfz22_0, hfz22_1, hfz22_2, hfz22_3⟩ := cf4 BK107; have ⟨hcz23_0, hcz23_1, hcz23_2, hcz23_3, hfz23_0, hfz23_1, hfz23_2, hfz23_3⟩ := cf4 BK108) | ((with_reducible refine gate_store (t := 25) (p := 4) rfl ?_); refine sx 25 4 (((((w17.setCell ⟨gb108, 0, none⟩ (.int .i64 z111)).setCell ⟨gb108, 1, none⟩ (.int .i64 z114)).setCell ⟨gb108, 2, none⟩ (.int .i64 z117)).setCell ⟨gb108, 3, none⟩ (.int .i64 z120))) fun w24 hw => ?_; replace BK106 := fw hw BK106; replace BK107 := fw hw BK107; replace BK108 := pw4 hw BK108; replace HB := bw hw HB; clear hw))
  refine bodyPost_ret (results_cell_row rfl _ _ gb108 25 #[.int .i64 z111, .int .i64 z114, .int .i64 z117, .int .i64 z120] (0, 0) _ rfl (pk BK108) Try.underlying25 rfl (by kernel_rfl)) rfl ?_
  exact rt HB
end
section
/-! ### grids_det: function 68 -/
def grids_det.f (a0_0 : Int) (a0_1 : Int) (a0_2 : Int) (a0_3 : Int) : Option (Int) := (some (wrap64 (a0_0 * a0_3))).bind fun z480 => ((some (wrap64 (a0_1 * a0_2))).bind fun z481 => ((some (wrap64 (z480 - z481))).bind fun z482 => (some z482)))
set_option maxHeartbeats 8000000 in
set_option maxRecDepth 100000 in
theorem grids_det.calls (a0_0 : Int) (a0_1 : Int) (a0_2 : Int) (a0_3 : Int) (r : Int) (w : World) (h : grids_det.f a0_0 a0_1 a0_2 a0_3 = some r) :
    Calls Try.prog 68 #[.agg #[.int .i64 a0_0, .int .i64 a0_1, .int .i64 a0_2, .int .i64 a0_3]] w fun e w' => e = .returned (.int .i64 r) ∧ Below w.heap.size w w' := by
  have hu25 := Try.underlying25
  have HB := Aside0.mk (Below.refl w.heap.size w)
  have H : ((some (wrap64 (a0_0 * a0_3))).bind fun z480 => ((some (wrap64 (a0_1 * a0_2))).bind fun z481 => ((some (wrap64 (z480 - z481))).bind fun z482 => (some z482)))) = some r := h
  clear h
  obtain ⟨z480, E20, H⟩ := oc H
  have E2w : (IntKind.i64.wrap (a0_0 * a0_3)) = z480 := (i64_w _).trans E20
  obtain ⟨z481, E30, H⟩ := oc H
  have E3w : (IntKind.i64.wrap (a0_1 * a0_2)) = z481 := (i64_w _).trans E30
  obtain ⟨z482, E40, H⟩ := oc H
  have E4w : (IntKind.i64.wrap (z480 - z481)) = z482 := (i64_w _).trans E40
  obtain rfl := Option.some.inj H
  go_enter Try.func68, Try.ntmps68
  go_wp2_with (first | ((with_reducible refine gate_dst (N := 1) rfl ?_); refine bx 1 #[.int .i64 a0_0, .int .i64 a0_1, .int .i64 a0_2, .int .i64 a0_3] 25 fun gb479 hg w5 BK479 hb => ?_; have GW479 := gw hg HB; have GE479 := gw hg HB; replace HB := bst HB hb; clear hb hg; have ⟨hcz6_0, hcz6_1, hcz6_2, hcz6_3, hfz6_0, hfz6_1, hfz6_2, hfz6_3⟩ := cf4 BK479))
  go_ret
  exact rt HB
end
section
attribute [local go_sem high] eqA25
/-! ### grids_Order: function 33 -/
mutual
def grids_Order.j0 : Nat → Int → Int → Bool → Option (Int × Int)
  | 0, _, _, _ => none
  | k + 1, x5, x6, x28 => if x28 = true then (some (3, 0)) else (if x5 = 1 then (grids_Order.j1 k x5 x6 (x6 == 0)) else (grids_Order.j1 k x5 x6 false))
def grids_Order.j1 : Nat → Int → Int → Bool → Option (Int × Int)
  | 0, _, _, _ => none
  | k + 1, x5, x6, x35 => if x35 = true then (some (4, 0)) else (if x5 = 1 then (if x6 = 1 then (some (6, 0)) else (some (0, 0))) else (some (0, 0)))
end
def grids_Order.f (k : Nat) (a0_0 : Int) (a0_1 : Int) (a0_2 : Int) (a0_3 : Int) : Option (Int × Int) := (grids_matrix.f a0_0 a0_1 a0_2 a0_3).bind fun t574 => (if t574 = true then ((grids_det.f a0_0 a0_1 a0_2 a0_3).bind fun t576 => ((some (wrap64 (a0_0 + a0_3))).bind fun z577 => (if (a0_0 == 1 && (a0_1 == 0 && (a0_2 == 0 && (a0_3 == 1)))) = true then (some (1, 0)) else ((grids_times.f a0_0 a0_1 a0_2 a0_3 a0_0 a0_1 a0_2 a0_3).bind fun bt578 => (if (bt578.1 == 1 && (bt578.2.1 == 0 && (bt578.2.2.1 == 0 && (bt578.2.2.2 == 1)))) = true then (some (2, 0)) else (if t576 = 1 then (grids_Order.j0 k t576 z577 (z577 == (-1))) else (grids_Order.j0 k t576 z577 false))))))) else (some (0, 2)))
theorem grids_Order.mono_l : ∀ k, (∀ y0 y1 y2, LeO (grids_Order.j0 k y0 y1 y2) (grids_Order.j0 (k + 1) y0 y1 y2)) ∧ (∀ y0 y1 y2, LeO (grids_Order.j1 k y0 y1 y2) (grids_Order.j1 (k + 1) y0 y1 y2))
  | 0 => ⟨fun _ _ _ r h => by simp [grids_Order.j0] at h, fun _ _ _ r h => by simp [grids_Order.j1] at h⟩
  | k + 1 => by
    obtain ⟨ih0, ih1⟩ := grids_Order.mono_l k
    refine ⟨?_, ?_⟩
    · intro y0 y1 y2
      unfold grids_Order.j0
      repeat' first
      | (with_reducible exact ih0 _ _ _)
      | (with_reducible exact ih1 _ _ _)
      | (with_reducible exact LeO.refl _)
      | (with_reducible exact LeO.none _)
      | (with_reducible refine LeO.ite ?_ ?_)
      | (with_reducible refine LeO.bind ?_ (fun _ => ?_))
      | exact ih0 _ _ _
      | exact ih1 _ _ _
      | exact LeO.none _
      | refine LeO.ite ?_ ?_
      | refine LeO.bind ?_ (fun _ => ?_)
    · intro y0 y1 y2
      unfold grids_Order.j1
      repeat' first
      | (with_reducible exact ih0 _ _ _)
      | (with_reducible exact ih1 _ _ _)
      | (with_reducible exact LeO.refl _)
      | (with_reducible exact LeO.none _)
      | (with_reducible refine LeO.ite ?_ ?_)
      | (with_reducible refine LeO.bind ?_ (fun _ => ?_))
      | exact ih0 _ _ _
      | exact ih1 _ _ _
      | exact LeO.none _
      | refine LeO.ite ?_ ?_
      | refine LeO.bind ?_ (fun _ => ?_)
theorem grids_Order.mono : ∀ a0 a1 a2 a3 k, LeO (grids_Order.f k a0 a1 a2 a3) (grids_Order.f (k + 1) a0 a1 a2 a3) := by
  intro a0 a1 a2 a3 k
  obtain ⟨ih0, ih1⟩ := grids_Order.mono_l k
  unfold grids_Order.f
  repeat' first
      | (with_reducible exact ih0 _ _ _)
      | (with_reducible exact ih1 _ _ _)
      | (with_reducible exact LeO.refl _)
      | (with_reducible exact LeO.none _)
      | (with_reducible refine LeO.ite ?_ ?_)
      | (with_reducible refine LeO.bind ?_ (fun _ => ?_))
      | exact ih0 _ _ _
      | exact ih1 _ _ _
      | exact LeO.none _
      | refine LeO.ite ?_ ?_
      | refine LeO.bind ?_ (fun _ => ?_)
def grids_Order.T4 : Bool × List (List Nat × List Nat) := (true, [([], []), ([0], [0]), ([], []), ([2], [2]), ([], []), ([4], [4]), ([3, 5], [3, 5]), ([1, 1, 0, 1], [1]), ([6, 7, 0, 1, 2, 3, 4, 5, 6, 7], [6])])
def grids_Order.B4 : List Nat := [0, 1, 0, 4, 0, 16, 60, 3, 255]
theorem grids_Order.tab4 : rtab .any (opsOf Try.f33 4) = grids_Order.T4 := by kernel_rfl
theorem grids_Order.bits4 : waitsOk grids_Order.T4.2 grids_Order.B4 = true := by kernel_rfl
set_option maxHeartbeats 8000000 in
set_option maxRecDepth 100000 in
theorem grids_Order.calls (k : Nat) (a0_0 : Int) (a0_1 : Int) (a0_2 : Int) (a0_3 : Int) (r1 : Int) (r2 : Int) (w : World) (h : grids_Order.f k a0_0 a0_1 a0_2 a0_3 = some (r1, r2)) :
    Calls Try.prog 33 #[.agg #[.int .i64 a0_0, .int .i64 a0_1, .int .i64 a0_2, .int .i64 a0_3]] w fun e w' => e = .returned (.tuple #[.int .i64 r1, .int .i64 r2]) ∧ Below w.heap.size w w' := by
  have hu25 := Try.underlying25
  have HB := Aside0.mk (Below.refl w.heap.size w)
  have H : ((grids_matrix.f a0_0 a0_1 a0_2 a0_3).bind fun t574 => (if t574 = true then ((grids_det.f a0_0 a0_1 a0_2 a0_3).bind fun t576 => ((some (wrap64 (a0_0 + a0_3))).bind fun z577 => (if (a0_0 == 1 && (a0_1 == 0 && (a0_2 == 0 && (a0_3 == 1)))) = true then (some (1, 0)) else ((grids_times.f a0_0 a0_1 a0_2 a0_3 a0_0 a0_1 a0_2 a0_3).bind fun bt578 => (if (bt578.1 == 1 && (bt578.2.1 == 0 && (bt578.2.2.1 == 0 && (bt578.2.2.2 == 1)))) = true then (some (2, 0)) else (if t576 = 1 then (grids_Order.j0 k t576 z577 (z577 == (-1))) else (grids_Order.j0 k t576 z577 false))))))) else (some (0, 2)))) = some (r1, r2) := h
  clear h
  obtain ⟨t574, A2, H⟩ := ob H
  by_cases c3 : t574 = true
  · subst c3
    have H1 : ((grids_det.f a0_0 a0_1 a0_2 a0_3).bind fun t576 => ((some (wrap64 (a0_0 + a0_3))).bind fun z577 => (if (a0_0 == 1 && (a0_1 == 0 && (a0_2 == 0 && (a0_3 == 1)))) = true then (some (1, 0)) else ((grids_times.f a0_0 a0_1 a0_2 a0_3 a0_0 a0_1 a0_2 a0_3).bind fun bt578 => (if (bt578.1 == 1 && (bt578.2.1 == 0 && (bt578.2.2.1 == 0 && (bt578.2.2.2 == 1)))) = true then (some (2, 0)) else (if t576 = 1 then (grids_Order.j0 k t576 z577 (z577 == (-1))) else (grids_Order.j0 k t576 z577 false))))))) = some (r1, r2) := by rw [if_pos rfl] at H; exact H
    clear H
    have H := H1
    clear H1
    obtain ⟨t576, A4, H⟩ := ob H
    obtain ⟨z577, E50, H⟩ := oc H
    have E5w : (IntKind.i64.wrap (a0_0 + a0_3)) = z577 := (i64_w _).trans E50
    by_cases c6 : (a0_0 == 1 && (a0_1 == 0 && (a0_2 == 0 && (a0_3 == 1)))) = true
    · rw [if_pos c6] at H
      have c6b0 : (a0_0 == 1 && (a0_1 == 0 && (a0_2 == 0 && (a0_3 == 1)))) = true := c6
      (try (have c6b1 : decide (a0_0 = 1 && (a0_1 == 0 && (a0_2 == 0 && (a0_3 == 1)))) = true := by simpa using c6))
      (try (have c6b2 : (a0_0 == 1 && (a0_1 == 0 && (a0_2 == 0 && (a0_3 == 1)))) = true := by simpa using c6))
      clear c6
      simp only [Option.some.injEq, Prod.mk.injEq] at H
      obtain ⟨rfl, rfl⟩ := H
      go_enter Try.func33, Try.ntmps33
      try go_wp2_with (first | ((with_reducible refine gate_dst (N := 1) rfl ?_); refine bx 1 #[.int .i64 a0_0, .int .i64 a0_1, .int .i64 a0_2, .int .i64 a0_3] 25 fun gb573 hg w7 BK573 hb => ?_; have GW573 := gw hg HB; have GE573 := gw hg HB; replace HB := bst HB hb; clear hb hg; have ⟨hcz8_0, hcz8_1, hcz8_2, hcz8_3, hfz8_0, hfz8_1, hfz8_2, hfz8_3⟩ := cf4 BK573) | ((with_reducible refine gate_callee (f := 59) rfl ?_); refine gl 8 Try.func59 (grids_matrix.calls a0_0 a0_1 a0_2 a0_3 true _ A2.out) ?_; rintro e w9 ⟨rfl, hb⟩; refine ⟨_, rfl, ?_⟩; replace BK573 := bb BK573 hb; replace HB := bst HB hb; clear hb) | ((with_reducible refine gate_dst (N := 4) rfl ?_); refine bx 4 #[.int .i64 0, .int .i64 0, .int .i64 0, .int .i64 0] 25 fun gb575 hg w10 BK575 hb => ?_; have GW575 := gw hg HB; have GE575 := gw hg HB; have NB573_575 := nlt hg BK573; have NB575_573 := ngt hg BK573; replace BK573 := bb BK573 hb; replace HB := bst HB hb; clear hb hg; have hnb11 := NB575_573.out; have hnc11 := NB573_575.out; have ⟨hcz12_0, hcz12_1, hcz12_2, hcz12_3, hfz12_0, hfz12_1, hfz12_2, hfz12_3⟩ := cf4 BK575) | ((with_reducible refine gate_store (t := 25) (p := 4) rfl ?_); refine sx 25 4 (((((w10.setCell ⟨gb575, 0, none⟩ (.int .i64 1)).setCell ⟨gb575, 1, none⟩ (.int .i64 0)).setCell ⟨gb575, 2, none⟩ (.int .i64 0)).setCell ⟨gb575, 3, none⟩ (.int .i64 1))) fun w13 hw => ?_; replace BK573 := fw hw BK573; replace BK575 := pw4 hw BK575; replace HB := bw hw HB; clear hw))
      replace BK573 := bd BK573
      replace BK575 := bd BK575
      replace HB := bdn HB
      refine start_ (n := 9) (S := fun w' => w'.cell? ⟨gb573, 0, none⟩ = some (.int .i64 a0_0) ∧ w'.cell? ⟨gb573, 1, none⟩ = some (.int .i64 a0_1) ∧ w'.cell? ⟨gb573, 2, none⟩ = some (.int .i64 a0_2) ∧ w'.cell? ⟨gb573, 3, none⟩ = some (.int .i64 a0_3)) (ds := []) #[false, false, false, false, false, false, false, false, false] (by kernel_rfl) rfl rfl ⟨(blk_cell BK573.out 0).trans rfl, (blk_cell BK573.out 1).trans rfl, (blk_cell BK573.out 2).trans rfl, (blk_cell BK573.out 3).trans rfl⟩ (fun hHeld => ?_); refine with_tabW grids_Order.tab4 grids_Order.bits4 (fun HT_ HW_ => ?_)
      generalize w13.drew = w14 at BK573 BK575 HB hHeld ⊢
      refine pz 2 13 HT_ ?_
      refine pz 4 15 HT_ ?_
      refine tz 0 11 HT_ HW_ hHeld ?_
      refine tz 3 14 HT_ HW_ hHeld ?_
      refine tz 5 16 HT_ HW_ hHeld ?_
      refine pz 6 17 HT_ ?_
      refine one_ (i := 1) (N := some 12) #[true, true, true, true, true, true, true, false, false] rfl rfl (one_of HT_.out (by kernel_rfl)) (by decide) (fun K hK => ?_)
      refine gs _ Try.func68 (grids_det.calls a0_0 a0_1 a0_2 a0_3 t576 _ A4.out) ?_
      rintro e w15 ⟨rfl, hb⟩
      refine ⟨_, rfl, ?_⟩
      replace BK573 := bb BK573 hb
      replace BK575 := bb BK575 hb
      replace HB := bst HB hb
      (try clear hb)
      (try clear hb2)
      (try clear hk)
      (try clear hi)
      refine hK.out _ _ ⟨(blk_cell BK573.out 0).trans rfl, (blk_cell BK573.out 1).trans rfl, (blk_cell BK573.out 2).trans rfl, (blk_cell BK573.out 3).trans rfl⟩ (fun hHeld => ?_)
      clear hK K
      refine norm_ (a' := ?_) ?_ ?_
      rotate_left
      · show Act.put _ (some 12) _ = _
        simp only [Act.put, List.setIfInBounds_toArray, List.set_cons_zero, List.set_cons_succ, i64_w, i32_w]
        rfl
      refine pz 7 5 HT_ ?_
      refine pz 8 6 HT_ ?_
      refine done_ (done_of HT_.out (by kernel_rfl)) ?_
      have ⟨hcz16_0, hcz16_1, hcz16_2, hcz16_3, hfz16_0, hfz16_1, hfz16_2, hfz16_3⟩ := cf4 BK573
      have ⟨hcz17_0, hcz17_1, hcz17_2, hcz17_3, hfz17_0, hfz17_1, hfz17_2, hfz17_3⟩ := cf4 BK575
      try go_wp2
      go_ret2
      exact rt HB
    · rw [if_neg c6] at H
      have c6b0 : (a0_0 == 1 && (a0_1 == 0 && (a0_2 == 0 && (a0_3 == 1)))) = false := by simpa using c6
      (try (have c6b1 : decide (a0_0 = 1 && (a0_1 == 0 && (a0_2 == 0 && (a0_3 == 1)))) = false := by simpa using c6))
      (try (have c6b2 : (a0_0 == 1 && (a0_1 == 0 && (a0_2 == 0 && (a0_3 == 1)))) = false := by simpa using c6))
      (try (have c6b3 : ¬ (a0_0 = 1 && (a0_1 == 0 && (a0_2 == 0 && (a0_3 == 1)))) := by simpa using c6))
      clear c6
      obtain ⟨⟨t578, t579, t580, t581⟩, A18, H⟩ := ob H
      by_cases c19 : (t578 == 1 && (t579 == 0 && (t580 == 0 && (t581 == 1)))) = true
      · rw [if_pos c19] at H
        have c19b0 : (t578 == 1 && (t579 == 0 && (t580 == 0 && (t581 == 1)))) = true := c19
        (try (have c19b1 : decide (t578 = 1 && (t579 == 0 && (t580 == 0 && (t581 == 1)))) = true := by simpa using c19))
        (try (have c19b2 : (t578 == 1 && (t579 == 0 && (t580 == 0 && (t581 == 1)))) = true := by simpa using c19))
        clear c19
        simp only [Option.some.injEq, Prod.mk.injEq] at H
        obtain ⟨rfl, rfl⟩ := H
        go_enter Try.func33, Try.ntmps33
        try go_wp2_with (first | ((with_reducible refine gate_dst (N := 1) rfl ?_); refine bx 1 #[.int .i64 a0_0, .int .i64 a0_1, .int .i64 a0_2, .int .i64 a0_3] 25 fun gb573 hg w20 BK573 hb => ?_; have GW573 := gw hg HB; have GE573 := gw hg HB; replace HB := bst HB hb; clear hb hg; have ⟨hcz21_0, hcz21_1, hcz21_2, hcz21_3, hfz21_0, hfz21_1, hfz21_2, hfz21_3⟩ := cf4 BK573) | ((with_reducible refine gate_callee (f := 59) rfl ?_); refine gl 8 Try.func59 (grids_matrix.calls a0_0 a0_1 a0_2 a0_3 true _ A2.out) ?_; rintro e w22 ⟨rfl, hb⟩; refine ⟨_, rfl, ?_⟩; replace BK573 := bb BK573 hb; replace HB := bst HB hb; clear hb) | ((with_reducible refine gate_dst (N := 4) rfl ?_); refine bx 4 #[.int .i64 0, .int .i64 0, .int .i64 0, .int .i64 0] 25 fun gb575 hg w23 BK575 hb => ?_; have GW575 := gw hg HB; have GE575 := gw hg HB; have NB573_575 := nlt hg BK573; have NB575_573 := ngt hg BK573; replace BK573 := bb BK573 hb; replace HB := bst HB hb; clear hb hg; have hnb24 := NB575_573.out; have hnc24 := NB573_575.out; have ⟨hcz25_0, hcz25_1, hcz25_2, hcz25_3, hfz25_0, hfz25_1, hfz25_2, hfz25_3⟩ := cf4 BK575) | ((with_reducible refine gate_store (t := 25) (p := 4) rfl ?_); refine sx 25 4 (((((w23.setCell ⟨gb575, 0, none⟩ (.int .i64 1)).setCell ⟨gb575, 1, none⟩ (.int .i64 0)).setCell ⟨gb575, 2, none⟩ (.int .i64 0)).setCell ⟨gb575, 3, none⟩ (.int .i64 1))) fun w26 hw => ?_; replace BK573 := fw hw BK573; replace BK575 := pw4 hw BK575; replace HB := bw hw HB; clear hw))
        replace BK573 := bd BK573
        replace BK575 := bd BK575
        replace HB := bdn HB
        refine start_ (n := 9) (S := fun w' => w'.cell? ⟨gb573, 0, none⟩ = some (.int .i64 a0_0) ∧ w'.cell? ⟨gb573, 1, none⟩ = some (.int .i64 a0_1) ∧ w'.cell? ⟨gb573, 2, none⟩ = some (.int .i64 a0_2) ∧ w'.cell? ⟨gb573, 3, none⟩ = some (.int .i64 a0_3)) (ds := []) #[false, false, false, false, false, false, false, false, false] (by kernel_rfl) rfl rfl ⟨(blk_cell BK573.out 0).trans rfl, (blk_cell BK573.out 1).trans rfl, (blk_cell BK573.out 2).trans rfl, (blk_cell BK573.out 3).trans rfl⟩ (fun hHeld => ?_); refine with_tabW grids_Order.tab4 grids_Order.bits4 (fun HT_ HW_ => ?_)
        generalize w26.drew = w27 at BK573 BK575 HB hHeld ⊢
        refine pz 2 13 HT_ ?_
        refine pz 4 15 HT_ ?_
        refine tz 0 11 HT_ HW_ hHeld ?_
        refine tz 3 14 HT_ HW_ hHeld ?_
        refine tz 5 16 HT_ HW_ hHeld ?_
        refine pz 6 17 HT_ ?_
        refine one_ (i := 1) (N := some 12) #[true, true, true, true, true, true, true, false, false] rfl rfl (one_of HT_.out (by kernel_rfl)) (by decide) (fun K hK => ?_)
        refine gs _ Try.func68 (grids_det.calls a0_0 a0_1 a0_2 a0_3 t576 _ A4.out) ?_
        rintro e w28 ⟨rfl, hb⟩
        refine ⟨_, rfl, ?_⟩
        replace BK573 := bb BK573 hb
        replace BK575 := bb BK575 hb
        replace HB := bst HB hb
        (try clear hb)
        (try clear hb2)
        (try clear hk)
        (try clear hi)
        refine hK.out _ _ ⟨(blk_cell BK573.out 0).trans rfl, (blk_cell BK573.out 1).trans rfl, (blk_cell BK573.out 2).trans rfl, (blk_cell BK573.out 3).trans rfl⟩ (fun hHeld => ?_)
        clear hK K
        refine norm_ (a' := ?_) ?_ ?_
        rotate_left
        · show Act.put _ (some 12) _ = _
          simp only [Act.put, List.setIfInBounds_toArray, List.set_cons_zero, List.set_cons_succ, i64_w, i32_w]
          rfl
        refine pz 7 5 HT_ ?_
        refine pz 8 6 HT_ ?_
        refine done_ (done_of HT_.out (by kernel_rfl)) ?_
        have ⟨hcz29_0, hcz29_1, hcz29_2, hcz29_3, hfz29_0, hfz29_1, hfz29_2, hfz29_3⟩ := cf4 BK573
        have ⟨hcz30_0, hcz30_1, hcz30_2, hcz30_3, hfz30_0, hfz30_1, hfz30_2, hfz30_3⟩ := cf4 BK575
        try go_wp2
        replace BK573 := bd BK573
        replace BK575 := bd BK575
        replace HB := bdn HB
        refine start_ (n := 6) (S := fun w' => w'.cell? ⟨gb573, 0, none⟩ = some (.int .i64 a0_0) ∧ w'.cell? ⟨gb573, 1, none⟩ = some (.int .i64 a0_1) ∧ w'.cell? ⟨gb573, 2, none⟩ = some (.int .i64 a0_2) ∧ w'.cell? ⟨gb573, 3, none⟩ = some (.int .i64 a0_3) ∧ w'.cell? ⟨gb575, 0, none⟩ = some (.int .i64 1) ∧ w'.cell? ⟨gb575, 1, none⟩ = some (.int .i64 0) ∧ w'.cell? ⟨gb575, 2, none⟩ = some (.int .i64 0) ∧ w'.cell? ⟨gb575, 3, none⟩ = some (.int .i64 1)) (ds := []) #[false, false, false, false, false, false] (by kernel_rfl) rfl rfl ⟨(blk_cell BK573.out 0).trans rfl, (blk_cell BK573.out 1).trans rfl, (blk_cell BK573.out 2).trans rfl, (blk_cell BK573.out 3).trans rfl, (blk_cell BK575.out 0).trans rfl, (blk_cell BK575.out 1).trans rfl, (blk_cell BK575.out 2).trans rfl, (blk_cell BK575.out 3).trans rfl⟩ (fun hHeld => ?_)
        generalize w28.drew = w31 at BK573 BK575 HB hHeld ⊢
        refine take_ (i := 0) (N := some 23) (v := ?_) (a' := ?_) #[true, false, false, false, false, false] rfl rfl (by kernel_rfl) (fun _ _ _ h => h) (Or.inl ⟨by rfl, ?_⟩) hHeld ?_ ?_
        rotate_left
        · rintro w' ⟨s0, s1, s2, s3, s4, s5, s6, s7⟩
          go_simp
          with_reducible rfl
        rotate_left
        · simp only [Act.put, List.setIfInBounds_toArray, List.set_cons_zero, List.set_cons_succ, i64_w, i32_w]
          rfl
        refine take_ (i := 1) (N := some 24) (v := ?_) (a' := ?_) #[true, true, false, false, false, false] rfl rfl (by kernel_rfl) (fun _ _ _ h => h) (Or.inl ⟨by rfl, ?_⟩) hHeld ?_ ?_
        rotate_left
        · rintro w' ⟨s0, s1, s2, s3, s4, s5, s6, s7⟩
          go_simp
          with_reducible rfl
        rotate_left
        · simp only [Act.put, List.setIfInBounds_toArray, List.set_cons_zero, List.set_cons_succ, i64_w, i32_w]
          rfl
        refine take_ (i := 3) (N := some 26) (v := ?_) (a' := ?_) #[true, true, false, true, false, false] rfl rfl (by kernel_rfl) (fun _ _ _ h => h) (Or.inl ⟨by rfl, ?_⟩) hHeld ?_ ?_
        rotate_left
        · rintro w' ⟨s0, s1, s2, s3, s4, s5, s6, s7⟩
          go_simp
          with_reducible rfl
        rotate_left
        · simp only [Act.put, List.setIfInBounds_toArray, List.set_cons_zero, List.set_cons_succ, i64_w, i32_w]
          rfl
        refine one_ (i := 2) (N := some 25) #[true, true, true, true, false, false] rfl rfl (by kernel_rfl) (by decide) (fun K hK => ?_)
        refine gs _ Try.func40 (grids_times.calls a0_0 a0_1 a0_2 a0_3 a0_0 a0_1 a0_2 a0_3 t578 t579 t580 t581 _ A18.out) ?_
        rintro e w32 ⟨rfl, hb⟩
        refine ⟨_, rfl, ?_⟩
        replace BK573 := bb BK573 hb
        replace BK575 := bb BK575 hb
        replace HB := bst HB hb
        (try clear hb)
        (try clear hb2)
        (try clear hk)
        (try clear hi)
        refine hK.out _ _ ⟨(blk_cell BK573.out 0).trans rfl, (blk_cell BK573.out 1).trans rfl, (blk_cell BK573.out 2).trans rfl, (blk_cell BK573.out 3).trans rfl, (blk_cell BK575.out 0).trans rfl, (blk_cell BK575.out 1).trans rfl, (blk_cell BK575.out 2).trans rfl, (blk_cell BK575.out 3).trans rfl⟩ (fun hHeld => ?_)
        clear hK K
        refine norm_ (a' := ?_) ?_ ?_
        rotate_left
        · show Act.put _ (some 25) _ = _
          simp only [Act.put, List.setIfInBounds_toArray, List.set_cons_zero, List.set_cons_succ, i64_w, i32_w]
          rfl
        refine pure_ (i := 4) (N := some 27) (v := ?_) (a' := ?_) #[true, true, true, true, true, false] rfl rfl (by kernel_rfl) (fun _ _ _ h => h) (Or.inl ⟨by rfl, ?_⟩) ?_ ?_
        rotate_left
        · intro w'
          go_simp
          with_reducible rfl
        rotate_left
        · simp only [Act.put, List.setIfInBounds_toArray, List.set_cons_zero, List.set_cons_succ, i64_w, i32_w]
          rfl
        refine pure_ (i := 5) (N := some 22) (v := ?_) (a' := ?_) #[true, true, true, true, true, true] rfl rfl (by kernel_rfl) (fun _ _ _ h => h) (Or.inl ⟨by rfl, ?_⟩) ?_ ?_
        rotate_left
        · intro w'
          go_simp
          with_reducible rfl
        rotate_left
        · simp only [Act.put, List.setIfInBounds_toArray, List.set_cons_zero, List.set_cons_succ, i64_w, i32_w]
          rfl
        refine done_ (by kernel_rfl) ?_
        try go_wp2
        go_ret2
        exact rt HB
      · rw [if_neg c19] at H
        have c19b0 : (t578 == 1 && (t579 == 0 && (t580 == 0 && (t581 == 1)))) = false := by simpa using c19
        (try (have c19b1 : decide (t578 = 1 && (t579 == 0 && (t580 == 0 && (t581 == 1)))) = false := by simpa using c19))
        (try (have c19b2 : (t578 == 1 && (t579 == 0 && (t580 == 0 && (t581 == 1)))) = false := by simpa using c19))
        (try (have c19b3 : ¬ (t578 = 1 && (t579 == 0 && (t580 == 0 && (t581 == 1)))) := by simpa using c19))
        clear c19
        have HC33 := Aside0.mk H
        clear H
        go_enter Try.func33, Try.ntmps33
        try go_wp2_with (first | ((with_reducible refine gate_dst (N := 1) rfl ?_); refine bx 1 #[.int .i64 a0_0, .int .i64 a0_1, .int .i64 a0_2, .int .i64 a0_3] 25 fun gb573 hg w34 BK573 hb => ?_; have GW573 := gw hg HB; have GE573 := gw hg HB; replace HB := bst HB hb; clear hb hg; have ⟨hcz35_0, hcz35_1, hcz35_2, hcz35_3, hfz35_0, hfz35_1, hfz35_2, hfz35_3⟩ := cf4 BK573) | ((with_reducible refine gate_callee (f := 59) rfl ?_); refine gl 8 Try.func59 (grids_matrix.calls a0_0 a0_1 a0_2 a0_3 true _ A2.out) ?_; rintro e w36 ⟨rfl, hb⟩; refine ⟨_, rfl, ?_⟩; replace BK573 := bb BK573 hb; replace HB := bst HB hb; clear hb) | ((with_reducible refine gate_dst (N := 4) rfl ?_); refine bx 4 #[.int .i64 0, .int .i64 0, .int .i64 0, .int .i64 0] 25 fun gb575 hg w37 BK575 hb => ?_; have GW575 := gw hg HB; have GE575 := gw hg HB; have NB573_575 := nlt hg BK573; have NB575_573 := ngt hg BK573; replace BK573 := bb BK573 hb; replace HB := bst HB hb; clear hb hg; have hnb38 := NB575_573.out; have hnc38 := NB573_575.out; have ⟨hcz39_0, hcz39_1, hcz39_2, hcz39_3, hfz39_0, hfz39_1, hfz39_2, hfz39_3⟩ := cf4 BK575) | ((with_reducible refine gate_store (t := 25) (p := 4) rfl ?_); refine sx 25 4 (((((w37.setCell ⟨gb575, 0, none⟩ (.int .i64 1)).setCell ⟨gb575, 1, none⟩ (.int .i64 0)).setCell ⟨gb575, 2, none⟩ (.int .i64 0)).setCell ⟨gb575, 3, none⟩ (.int .i64 1))) fun w40 hw => ?_; replace BK573 := fw hw BK573; replace BK575 := pw4 hw BK575; replace HB := bw hw HB; clear hw))
        replace BK573 := bd BK573
        replace BK575 := bd BK575
        replace HB := bdn HB
        refine start_ (n := 9) (S := fun w' => w'.cell? ⟨gb573, 0, none⟩ = some (.int .i64 a0_0) ∧ w'.cell? ⟨gb573, 1, none⟩ = some (.int .i64 a0_1) ∧ w'.cell? ⟨gb573, 2, none⟩ = some (.int .i64 a0_2) ∧ w'.cell? ⟨gb573, 3, none⟩ = some (.int .i64 a0_3)) (ds := []) #[false, false, false, false, false, false, false, false, false] (by kernel_rfl) rfl rfl ⟨(blk_cell BK573.out 0).trans rfl, (blk_cell BK573.out 1).trans rfl, (blk_cell BK573.out 2).trans rfl, (blk_cell BK573.out 3).trans rfl⟩ (fun hHeld => ?_); refine with_tabW grids_Order.tab4 grids_Order.bits4 (fun HT_ HW_ => ?_)
        generalize w40.drew = w41 at BK573 BK575 HB hHeld ⊢
        refine pz 2 13 HT_ ?_
        refine pz 4 15 HT_ ?_
        refine tz 0 11 HT_ HW_ hHeld ?_
        refine tz 3 14 HT_ HW_ hHeld ?_
        refine tz 5 16 HT_ HW_ hHeld ?_
        refine pz 6 17 HT_ ?_
        refine one_ (i := 1) (N := some 12) #[true, true, true, true, true, true, true, false, false] rfl rfl (one_of HT_.out (by kernel_rfl)) (by decide) (fun K hK => ?_)
        refine gs _ Try.func68 (grids_det.calls a0_0 a0_1 a0_2 a0_3 t576 _ A4.out) ?_
        rintro e w42 ⟨rfl, hb⟩
        refine ⟨_, rfl, ?_⟩
        replace BK573 := bb BK573 hb
        replace BK575 := bb BK575 hb
        replace HB := bst HB hb
        (try clear hb)
        (try clear hb2)
        (try clear hk)
        (try clear hi)
        refine hK.out _ _ ⟨(blk_cell BK573.out 0).trans rfl, (blk_cell BK573.out 1).trans rfl, (blk_cell BK573.out 2).trans rfl, (blk_cell BK573.out 3).trans rfl⟩ (fun hHeld => ?_)
        clear hK K
        refine norm_ (a' := ?_) ?_ ?_
        rotate_left
        · show Act.put _ (some 12) _ = _
          simp only [Act.put, List.setIfInBounds_toArray, List.set_cons_zero, List.set_cons_succ, i64_w, i32_w]
          rfl
        refine pz 7 5 HT_ ?_
        refine pz 8 6 HT_ ?_
        refine done_ (done_of HT_.out (by kernel_rfl)) ?_
        have ⟨hcz43_0, hcz43_1, hcz43_2, hcz43_3, hfz43_0, hfz43_1, hfz43_2, hfz43_3⟩ := cf4 BK573
        have ⟨hcz44_0, hcz44_1, hcz44_2, hcz44_3, hfz44_0, hfz44_1, hfz44_2, hfz44_3⟩ := cf4 BK575
        try go_wp2
        replace BK573 := bd BK573
        replace BK575 := bd BK575
        replace HB := bdn HB
        refine start_ (n := 6) (S := fun w' => w'.cell? ⟨gb573, 0, none⟩ = some (.int .i64 a0_0) ∧ w'.cell? ⟨gb573, 1, none⟩ = some (.int .i64 a0_1) ∧ w'.cell? ⟨gb573, 2, none⟩ = some (.int .i64 a0_2) ∧ w'.cell? ⟨gb573, 3, none⟩ = some (.int .i64 a0_3) ∧ w'.cell? ⟨gb575, 0, none⟩ = some (.int .i64 1) ∧ w'.cell? ⟨gb575, 1, none⟩ = some (.int .i64 0) ∧ w'.cell? ⟨gb575, 2, none⟩ = some (.int .i64 0) ∧ w'.cell? ⟨gb575, 3, none⟩ = some (.int .i64 1)) (ds := []) #[false, false, false, false, false, false] (by kernel_rfl) rfl rfl ⟨(blk_cell BK573.out 0).trans rfl, (blk_cell BK573.out 1).trans rfl, (blk_cell BK573.out 2).trans rfl, (blk_cell BK573.out 3).trans rfl, (blk_cell BK575.out 0).trans rfl, (blk_cell BK575.out 1).trans rfl, (blk_cell BK575.out 2).trans rfl, (blk_cell BK575.out 3).trans rfl⟩ (fun hHeld => ?_)
        generalize w42.drew = w45 at BK573 BK575 HB hHeld ⊢
        refine take_ (i := 0) (N := some 23) (v := ?_) (a' := ?_) #[true, false, false, false, false, false] rfl rfl (by kernel_rfl) (fun _ _ _ h => h) (Or.inl ⟨by rfl, ?_⟩) hHeld ?_ ?_
        rotate_left
        · rintro w' ⟨s0, s1, s2, s3, s4, s5, s6, s7⟩
          go_simp
          with_reducible rfl
        rotate_left
        · simp only [Act.put, List.setIfInBounds_toArray, List.set_cons_zero, List.set_cons_succ, i64_w, i32_w]
          rfl
        refine take_ (i := 1) (N := some 24) (v := ?_) (a' := ?_) #[true, true, false, false, false, false] rfl rfl (by kernel_rfl) (fun _ _ _ h => h) (Or.inl ⟨by rfl, ?_⟩) hHeld ?_ ?_
        rotate_left
        · rintro w' ⟨s0, s1, s2, s3, s4, s5, s6, s7⟩
          go_simp
          with_reducible rfl
        rotate_left
        · simp only [Act.put, List.setIfInBounds_toArray, List.set_cons_zero, List.set_cons_succ, i64_w, i32_w]
          rfl
        refine take_ (i := 3) (N := some 26) (v := ?_) (a' := ?_) #[true, true, false, true, false, false] rfl rfl (by kernel_rfl) (fun _ _ _ h => h) (Or.inl ⟨by rfl, ?_⟩) hHeld ?_ ?_
        rotate_left
        · rintro w' ⟨s0, s1, s2, s3, s4, s5, s6, s7⟩
          go_simp
          with_reducible rfl
        rotate_left
        · simp only [Act.put, List.setIfInBounds_toArray, List.set_cons_zero, List.set_cons_succ, i64_w, i32_w]
          rfl
        refine one_ (i := 2) (N := some 25) #[true, true, true, true, false, false] rfl rfl (by kernel_rfl) (by decide) (fun K hK => ?_)
        refine gs _ Try.func40 (grids_times.calls a0_0 a0_1 a0_2 a0_3 a0_0 a0_1 a0_2 a0_3 t578 t579 t580 t581 _ A18.out) ?_
        rintro e w46 ⟨rfl, hb⟩
        refine ⟨_, rfl, ?_⟩
        replace BK573 := bb BK573 hb
        replace BK575 := bb BK575 hb
        replace HB := bst HB hb
        (try clear hb)
        (try clear hb2)
        (try clear hk)
        (try clear hi)
        refine hK.out _ _ ⟨(blk_cell BK573.out 0).trans rfl, (blk_cell BK573.out 1).trans rfl, (blk_cell BK573.out 2).trans rfl, (blk_cell BK573.out 3).trans rfl, (blk_cell BK575.out 0).trans rfl, (blk_cell BK575.out 1).trans rfl, (blk_cell BK575.out 2).trans rfl, (blk_cell BK575.out 3).trans rfl⟩ (fun hHeld => ?_)
        clear hK K
        refine norm_ (a' := ?_) ?_ ?_
        rotate_left
        · show Act.put _ (some 25) _ = _
          simp only [Act.put, List.setIfInBounds_toArray, List.set_cons_zero, List.set_cons_succ, i64_w, i32_w]
          rfl
        refine pure_ (i := 4) (N := some 27) (v := ?_) (a' := ?_) #[true, true, true, true, true, false] rfl rfl (by kernel_rfl) (fun _ _ _ h => h) (Or.inl ⟨by rfl, ?_⟩) ?_ ?_
        rotate_left
        · intro w'
          go_simp
          with_reducible rfl
        rotate_left
        · simp only [Act.put, List.setIfInBounds_toArray, List.set_cons_zero, List.set_cons_succ, i64_w, i32_w]
          rfl
        refine pure_ (i := 5) (N := some 22) (v := ?_) (a' := ?_) #[true, true, true, true, true, true] rfl rfl (by kernel_rfl) (fun _ _ _ h => h) (Or.inl ⟨by rfl, ?_⟩) ?_ ?_
        rotate_left
        · intro w'
          go_simp
          with_reducible rfl
        rotate_left
        · simp only [Act.put, List.setIfInBounds_toArray, List.set_cons_zero, List.set_cons_succ, i64_w, i32_w]
          rfl
        refine done_ (by kernel_rfl) ?_
        go_upto_region 9 with (fail)
        go_cut [28] (fun v28 wc => ∃ (kq : Nat) (x28_32 : Bool), v28 = .bool x28_32 ∧ Aside0 (grids_Order.j0 kq t576 z577 x28_32 = some (r1, r2)) ∧ Aside0 (kq ≤ k) ∧ Aside0 (wc.heap[gb573]? = some (.cells #[.int .i64 a0_0, .int .i64 a0_1, .int .i64 a0_2, .int .i64 a0_3] 25 (0, 0))) ∧ Aside0 (wc.heap[gb575]? = some (.cells #[.int .i64 1, .int .i64 0, .int .i64 0, .int .i64 1] 25 (0, 0))) ∧ Aside0 (Below w.heap.size w wc))
        case first =>
          have H := HC33.out
          clear HC33
          by_cases c47 : t576 = 1
          · rw [if_pos c47] at H
            have c47b0 : (t576 == 1) = true := beq_iff_eq.mpr c47
            have c47b1 : (t576 != 1) = false := bne_eq_false_iff_eq.mpr c47
            clear c47
            (first | rw [c47b0] | (simp only [i64_w, i32_w]; rw [c47b0]) | skip)
            have H' := Aside0.mk H
            clear H
            go_wp2
            go_meet
            case rel => exact ⟨_, ((z577 == (-1))), (by first | rfl | (simp; done) | (simp [*]; done)), H', ⟨by first | omega | exact Nat.le_refl _⟩, ⟨pk BK573⟩, ⟨pk BK575⟩, ⟨bnow HB⟩⟩
          · rw [if_neg c47] at H
            have c47b0 : (t576 == 1) = false := beq_eq_false_iff_ne.mpr c47
            have c47b1 : (t576 != 1) = true := bne_iff_ne.mpr c47
            (first | rw [c47b0] | (simp only [i64_w, i32_w]; rw [c47b0]) | skip)
            have H' := Aside0.mk H
            clear H
            go_wp2
            go_meet
            case rel => exact ⟨_, (false), (by first | rfl | (simp; done) | (simp [*]; done)), H', ⟨by first | omega | exact Nat.le_refl _⟩, ⟨pk BK573⟩, ⟨pk BK575⟩, ⟨bnow HB⟩⟩
        case rest =>
          clear HC33
          try clear c1; try clear c2; try clear p2; try clear c3; try clear c4; try clear c5; try clear c6; try clear c6b0; try clear c6b1; try clear c6b2; try clear p6; try clear c11; try clear c19; try clear c19b0; try clear c19b1; try clear c19b2; try clear c24; try clear c33; try clear c38; try clear c40; try clear c47; try clear c47b0; try clear c47b1; try clear hcz12_0; try clear hcz12_1; try clear hcz12_2; try clear hcz12_3; try clear hcz16_0; try clear hcz16_1; try clear hcz16_2; try clear hcz16_3; try clear hcz17_0; try clear hcz17_1; try clear hcz17_2; try clear hcz17_3; try clear hcz21_0; try clear hcz21_1; try clear hcz21_2; try clear hcz21_3; try clear hcz25_0; try clear hcz25_1; try clear hcz25_2; try clear hcz25_3; try clear hcz29_0; try clear hcz29_1; try clear hcz29_2; try clear hcz29_3; try clear hcz30_0; try clear hcz30_1; try clear hcz30_2; try clear hcz30_3; try clear hcz35_0; try clear hcz35_1; try clear hcz35_2; try clear hcz35_3; try clear hcz39_0; try clear hcz39_1; try clear hcz39_2; try clear hcz39_3; try clear hcz43_0; try clear hcz43_1; try clear hcz43_2; try clear hcz43_3; try clear hcz44_0; try clear hcz44_1; try clear hcz44_2; try clear hcz44_3; try clear hcz8_0; try clear hcz8_1; try clear hcz8_2; try clear hcz8_3; try clear hfz12_0; try clear hfz12_1; try clear hfz12_2; try clear hfz12_3; try clear hfz16_0; try clear hfz16_1; try clear hfz16_2; try clear hfz16_3; try clear hfz17_0; try clear hfz17_1; try clear hfz17_2; try clear hfz17_3; try clear hfz21_0; try clear hfz21_1; try clear hfz21_2; try clear hfz21_3; try clear hfz25_0; try clear hfz25_1; try clear hfz25_2; try clear hfz25_3; try clear hfz29_0; try clear hfz29_1; try clear hfz29_2; try clear hfz29_3; try clear hfz30_0; try clear hfz30_1; try clear hfz30_2; try clear hfz30_3; try clear hfz35_0; try clear hfz35_1; try clear hfz35_2; try clear hfz35_3; try clear hfz39_0; try clear hfz39_1; try clear hfz39_2; try clear hfz39_3; try clear hfz43_0; try clear hfz43_1; try clear hfz43_2; try clear hfz43_3; try clear hfz44_0; try clear hfz44_1; try clear hfz44_2; try clear hfz44_3; try clear hfz8_0; try clear hfz8_1; try clear hfz8_2; try clear hfz8_3
          obtain ⟨kq, x28_32, rfl, HA, HJ32, BK573, BK575, HB⟩ := hcut
          cases kq with
          | zero => exact absurd HA.out (by simp [grids_Order.j0])
          | succ kj32 =>
            have H := HA.out
            clear HA
            simp only [grids_Order.j0] at H
            by_cases c48 : x28_32 = true
            · subst c48
              have H1 : (some (3, 0)) = some (r1, r2) := by rw [if_pos rfl] at H; exact H
              clear H
              have H := H1
              clear H1
              simp only [Option.some.injEq, Prod.mk.injEq] at H
              obtain ⟨rfl, rfl⟩ := H
              go_wp2
              go_ret2
              exact rt HB
            · replace c48 := Bool.eq_false_iff.mpr c48
              subst c48
              have H1 : (if t576 = 1 then (grids_Order.j1 kj32 t576 z577 (z577 == 0)) else (grids_Order.j1 kj32 t576 z577 false)) = some (r1, r2) := by rw [if_neg (show ¬ (false = true) by decide)] at H; exact H
              clear H
              have H := H1
              clear H1
              have HC49 := Aside0.mk H
              clear H
              go_upto_region 11 with (fail)
              go_cut [35] (fun v35 wc => ∃ (kq : Nat) (x35_48 : Bool), v35 = .bool x35_48 ∧ Aside0 (grids_Order.j1 kq t576 z577 x35_48 = some (r1, r2)) ∧ Aside0 (kq ≤ kj32) ∧ Aside0 (wc.heap[gb573]? = some (.cells #[.int .i64 a0_0, .int .i64 a0_1, .int .i64 a0_2, .int .i64 a0_3] 25 (0, 0))) ∧ Aside0 (wc.heap[gb575]? = some (.cells #[.int .i64 1, .int .i64 0, .int .i64 0, .int .i64 1] 25 (0, 0))) ∧ Aside0 (Below w.heap.size w wc))
              case first =>
                have H := HC49.out
                clear HC49
                by_cases c50 : t576 = 1
                · rw [if_pos c50] at H
                  have c50b0 : (t576 == 1) = true := beq_iff_eq.mpr c50
                  have c50b1 : (t576 != 1) = false := bne_eq_false_iff_eq.mpr c50
                  clear c50
                  (first | rw [c50b0] | (simp only [i64_w, i32_w]; rw [c50b0]) | skip)
                  have H' := Aside0.mk H
                  clear H
                  go_wp2
                  go_meet
                  case rel => exact ⟨_, ((z577 == 0)), (by first | rfl | (simp; done) | (simp [*]; done)), H', ⟨by have := HJ32.out; first | omega | exact Nat.le_refl _⟩, ⟨pk BK573⟩, ⟨pk BK575⟩, ⟨bnow HB⟩⟩
                · rw [if_neg c50] at H
                  have c50b0 : (t576 == 1) = false := beq_eq_false_iff_ne.mpr c50
                  have c50b1 : (t576 != 1) = true := bne_iff_ne.mpr c50
                  (first | rw [c50b0] | (simp only [i64_w, i32_w]; rw [c50b0]) | skip)
                  have H' := Aside0.mk H
                  clear H
                  go_wp2
                  go_meet
                  case rel => exact ⟨_, (false), (by first | rfl | (simp; done) | (simp [*]; done)), H', ⟨by have := HJ32.out; first | omega | exact Nat.le_refl _⟩, ⟨pk BK573⟩, ⟨pk BK575⟩, ⟨bnow HB⟩⟩
              case rest =>
                clear HC49
                try clear c1; try clear c2; try clear p2; try clear c3; try clear c4; try clear c5; try clear c6; try clear c6b0; try clear c6b1; try clear c6b2; try clear p6; try clear c11; try clear c19; try clear c19b0; try clear c19b1; try clear c19b2; try clear c24; try clear c33; try clear c38; try clear c40; try clear c47; try clear c47b0; try clear c47b1; try clear c48; try clear c50; try clear c50b0; try clear c50b1; try clear hcz12_0; try clear hcz12_1; try clear hcz12_2; try clear hcz12_3; try clear hcz16_0; try clear hcz16_1; try clear hcz16_2; try clear hcz16_3; try clear hcz17_0; try clear hcz17_1; try clear hcz17_2; try clear hcz17_3; try clear hcz21_0; try clear hcz21_1; try clear hcz21_2; try clear hcz21_3; try clear hcz25_0; try clear hcz25_1; try clear hcz25_2; try clear hcz25_3; try clear hcz29_0; try clear hcz29_1; try clear hcz29_2; try clear hcz29_3; try clear hcz30_0; try clear hcz30_1; try clear hcz30_2; try clear hcz30_3; try clear hcz35_0; try clear hcz35_1; try clear hcz35_2; try clear hcz35_3; try clear hcz39_0; try clear hcz39_1; try clear hcz39_2; try clear hcz39_3; try clear hcz43_0; try clear hcz43_1; try clear hcz43_2; try clear hcz43_3; try clear hcz44_0; try clear hcz44_1; try clear hcz44_2; try clear hcz44_3; try clear hcz8_0; try clear hcz8_1; try clear hcz8_2; try clear hcz8_3; try clear hfz12_0; try clear hfz12_1; try clear hfz12_2; try clear hfz12_3; try clear hfz16_0; try clear hfz16_1; try clear hfz16_2; try clear hfz16_3; try clear hfz17_0; try clear hfz17_1; try clear hfz17_2; try clear hfz17_3; try clear hfz21_0; try clear hfz21_1; try clear hfz21_2; try clear hfz21_3; try clear hfz25_0; try clear hfz25_1; try clear hfz25_2; try clear hfz25_3; try clear hfz29_0; try clear hfz29_1; try clear hfz29_2; try clear hfz29_3; try clear hfz30_0; try clear hfz30_1; try clear hfz30_2; try clear hfz30_3; try clear hfz35_0; try clear hfz35_1; try clear hfz35_2; try clear hfz35_3; try clear hfz39_0; try clear hfz39_1; try clear hfz39_2; try clear hfz39_3; try clear hfz43_0; try clear hfz43_1; try clear hfz43_2; try clear hfz43_3; try clear hfz44_0; try clear hfz44_1; try clear hfz44_2; try clear hfz44_3; try clear hfz8_0; try clear hfz8_1; try clear hfz8_2; try clear hfz8_3; try clear p2; try clear p6
                obtain ⟨kq, x35_48, rfl, HA, HJ48, BK573, BK575, HB⟩ := hcut
                cases kq with
                | zero => exact absurd HA.out (by simp [grids_Order.j1])
                | succ kj48 =>
                  have H := HA.out
                  clear HA
                  simp only [grids_Order.j1] at H
                  by_cases c51 : x35_48 = true
                  · subst c51
                    have H1 : (some (4, 0)) = some (r1, r2) := by rw [if_pos rfl] at H; exact H
                    clear H
                    have H := H1
                    clear H1
                    simp only [Option.some.injEq, Prod.mk.injEq] at H
                    obtain ⟨rfl, rfl⟩ := H
                    go_wp2
                    go_ret2
                    exact rt HB
                  · replace c51 := Bool.eq_false_iff.mpr c51
                    subst c51
                    have H1 : (if t576 = 1 then (if z577 = 1 then (some (6, 0)) else (some (0, 0))) else (some (0, 0))) = some (r1, r2) := by rw [if_neg (show ¬ (false = true) by decide)] at H; exact H
                    clear H
                    have H := H1
                    clear H1
                    by_cases c52 : t576 = 1
                    · rw [if_pos c52] at H
                      have c52b0 : (t576 == 1) = true := beq_iff_eq.mpr c52
                      have c52b1 : (t576 != 1) = false := bne_eq_false_iff_eq.mpr c52
                      clear c52
                      by_cases c53 : z577 = 1
                      · rw [if_pos c53] at H
                        have c53b0 : (z577 == 1) = true := beq_iff_eq.mpr c53
                        have c53b1 : (z577 != 1) = false := bne_eq_false_iff_eq.mpr c53
                        clear c53
                        simp only [Option.some.injEq, Prod.mk.injEq] at H
                        obtain ⟨rfl, rfl⟩ := H
                        go_wp2
                        go_ret2
                        exact rt HB
                      · rw [if_neg c53] at H
                        have c53b0 : (z577 == 1) = false := beq_eq_false_iff_ne.mpr c53
                        have c53b1 : (z577 != 1) = true := bne_iff_ne.mpr c53
                        simp only [Option.some.injEq, Prod.mk.injEq] at H
                        obtain ⟨rfl, rfl⟩ := H
                        go_wp2
                        go_ret2
                        exact rt HB
                    · rw [if_neg c52] at H
                      have c52b0 : (t576 == 1) = false := beq_eq_false_iff_ne.mpr c52
                      have c52b1 : (t576 != 1) = true := bne_iff_ne.mpr c52
                      simp only [Option.some.injEq, Prod.mk.injEq] at H
                      obtain ⟨rfl, rfl⟩ := H
                      go_wp2
                      go_ret2
                      exact rt HB
  · replace c3 := Bool.eq_false_iff.mpr c3
    subst c3
    have H1 : (some (0, 2)) = some (r1, r2) := by rw [if_neg (show ¬ (false = true) by decide)] at H; exact H
    clear H
    have H := H1
    clear H1
    simp only [Option.some.injEq, Prod.mk.injEq] at H
    obtain ⟨rfl, rfl⟩ := H
    go_enter Try.func33, Try.ntmps33
    go_wp2_with (first | ((with_reducible refine gate_dst (N := 1) rfl ?_); refine bx 1 #[.int .i64 a0_0, .int .i64 a0_1, .int .i64 a0_2, .int .i64 a0_3] 25 fun gb573 hg w54 BK573 hb => ?_; have GW573 := gw hg HB; have GE573 := gw hg HB; replace HB := bst HB hb; clear hb hg; have ⟨hcz55_0, hcz55_1, hcz55_2, hcz55_3, hfz55_0, hfz55_1, hfz55_2, hfz55_3⟩ := cf4 BK573) | ((with_reducible refine gate_callee (f := 59) rfl ?_); refine gl 8 Try.func59 (grids_matrix.calls a0_0 a0_1 a0_2 a0_3 false _ A2.out) ?_; rintro e w56 ⟨rfl, hb⟩; refine ⟨_, rfl, ?_⟩; replace BK573 := bb BK573 hb; replace HB := bst HB hb; clear hb))
    go_ret2
    exact rt HB
end
section
theorem eqA23 (d : Nat) (w : World) (x0 y0 : Int) (x1 y1 : Int) (x2 y2 : Int) :
    (Op.equalIn (d + 2) 23 (.agg #[.int .i64 x0, .int .i64 x1, .int .i64 x2]) (.agg #[.int .i64 y0, .int .i64 y1, .int .i64 y2])).run Try.prog w = .ok (x0 == y0 && (x1 == y1 && (x2 == y2))) w := by
  refine eqA_of Try.underlying23 (by kernel_rfl) ?_
  refine eqf_cons (by rfl) (by go_simp; rfl) (by go_simp; rfl) (by go_simp) ?_
  refine eqf_cons (by rfl) (by go_simp; rfl) (by go_simp; rfl) (by go_simp) ?_
  exact eqf_last (by rfl) (by go_simp; rfl) (by go_simp; rfl) (by go_simp)
end
section
/-! ### grids_Check: function 14 -/
def grids_Check.j0 : Nat → Bool → Option (Int)
  | 0, _ => none
  | k + 1, x38 => if x38 = true then (some 2) else (some 0)
def grids_Check.f (k : Nat) (a0_0 : Int) (a0_1 : Int) (a0_2 : Int) : Option (Int) := if a0_0 < 1 then (grids_Check.j0 k true) else (if a0_2 < 1 then (grids_Check.j0 k true) else (if a0_0 > 10000 then (grids_Check.j0 k true) else (if a0_2 > 10000 then (grids_Check.j0 k true) else ((grids_outside.f a0_1 10000).bind fun t103 => (if t103 = true then (grids_Check.j0 k true) else ((some (wrap64 (a0_0 * a0_2))).bind fun z104 => ((some (wrap64 (a0_1 * a0_1))).bind fun z105 => (grids_Check.j0 k (decide (z104 ≤ z105))))))))))
theorem grids_Check.mono_l : ∀ k, (∀ y0, LeO (grids_Check.j0 k y0) (grids_Check.j0 (k + 1) y0))
  | 0 => fun _ r h => by simp [grids_Check.j0] at h
  | k + 1 => by
    have ih0 := grids_Check.mono_l k
    · intro y0
      unfold grids_Check.j0
      repeat' first
      | (with_reducible exact ih0 _)
      | (with_reducible exact LeO.refl _)
      | (with_reducible exact LeO.none _)
      | (with_reducible refine LeO.ite ?_ ?_)
      | (with_reducible refine LeO.bind ?_ (fun _ => ?_))
      | exact ih0 _
      | exact LeO.none _
      | refine LeO.ite ?_ ?_
      | refine LeO.bind ?_ (fun _ => ?_)
theorem grids_Check.mono : ∀ a0 a1 a2 k, LeO (grids_Check.f k a0 a1 a2) (grids_Check.f (k + 1) a0 a1 a2) := by
  intro a0 a1 a2 k
  have ih0 := grids_Check.mono_l k
  unfold grids_Check.f
  repeat' first
      | (with_reducible exact ih0 _)
      | (with_reducible exact LeO.refl _)
      | (with_reducible exact LeO.none _)
      | (with_reducible refine LeO.ite ?_ ?_)
      | (with_reducible refine LeO.bind ?_ (fun _ => ?_))
      | exact ih0 _
      | exact LeO.none _
      | refine LeO.ite ?_ ?_
      | refine LeO.bind ?_ (fun _ => ?_)
set_option maxHeartbeats 8000000 in
set_option maxRecDepth 100000 in
theorem grids_Check.calls (k : Nat) (a0_0 : Int) (a0_1 : Int) (a0_2 : Int) (r : Int) (w : World) (h : grids_Check.f k a0_0 a0_1 a0_2 = some r) :
    Calls Try.prog 14 #[.agg #[.int .i64 a0_0, .int .i64 a0_1, .int .i64 a0_2]] w fun e w' => e = .returned (.int .i64 r) ∧ Below w.heap.size w w' := by
  have hu23 := Try.underlying23
  have HB := Aside0.mk (Below.refl w.heap.size w)
  have H : (if a0_0 < 1 then (grids_Check.j0 k true) else (if a0_2 < 1 then (grids_Check.j0 k true) else (if a0_0 > 10000 then (grids_Check.j0 k true) else (if a0_2 > 10000 then (grids_Check.j0 k true) else ((grids_outside.f a0_1 10000).bind fun t103 => (if t103 = true then (grids_Check.j0 k true) else ((some (wrap64 (a0_0 * a0_2))).bind fun z104 => ((some (wrap64 (a0_1 * a0_1))).bind fun z105 => (grids_Check.j0 k (decide (z104 ≤ z105))))))))))) = some r := h
  clear h
  have HC2 := Aside0.mk H
  clear H
  go_enter Try.func14, Try.ntmps14
  go_upto_region 1 with (first | ((with_reducible refine gate_dst (N := 1) rfl ?_); refine bx 1 #[.int .i64 a0_0, .int .i64 a0_1, .int .i64 a0_2] 23 fun gb102 hg w3 BK102 hb => ?_; have GW102 := gw hg HB; have GE102 := gw hg HB; replace HB := bst HB hb; clear hb hg))
  (try simp only [Act.put, List.setIfInBounds_toArray, List.set_cons_zero, List.set_cons_succ])
  go_cut [38] (fun v38 wc => ∃ (kq : Nat) (x38_1 : Bool), v38 = .bool x38_1 ∧ Aside0 (grids_Check.j0 kq x38_1 = some r) ∧ Aside0 (kq ≤ k) ∧ Aside0 (wc.heap[gb102]? = some (.cells #[.int .i64 a0_0, .int .i64 a0_1, .int .i64 a0_2] 23 (0, 0))) ∧ Aside0 (Below w.heap.size w wc))
  case first =>
    have H := HC2.out
    clear HC2
    by_cases c4 : a0_0 < 1
    · rw [if_pos c4] at H
      have c4b0 : decide (a0_0 < 1) = true := decide_eq_true c4
      clear c4
      (first | rw [c4b0] | (simp only [i64_w, i32_w]; rw [c4b0]) | skip)
      have H' := Aside0.mk H
      clear H
      have ⟨hcz5_0, hcz5_1, hcz5_2, hfz5_0, hfz5_1, hfz5_2⟩ := cf3 BK102
      go_wp2
      go_meet
      case rel => exact ⟨_, (true), (by first | rfl | (simp; done) | (simp [*]; done)), H', ⟨by first | omega | exact Nat.le_refl _⟩, ⟨pk BK102⟩, ⟨bnow HB⟩⟩
    · rw [if_neg c4] at H
      have c4b0 : decide (a0_0 < 1) = false := decide_eq_false c4
      clear c4
      (first | rw [c4b0] | (simp only [i64_w, i32_w]; rw [c4b0]) | skip)
      by_cases c6 : a0_2 < 1
      · rw [if_pos c6] at H
        have c6b0 : decide (a0_2 < 1) = true := decide_eq_true c6
        clear c6
        have H' := Aside0.mk H
        clear H
        have ⟨hcz7_0, hcz7_1, hcz7_2, hfz7_0, hfz7_1, hfz7_2⟩ := cf3 BK102
        go_wp2
        go_meet
        case rel => exact ⟨_, (true), (by first | rfl | (simp; done) | (simp [*]; done)), H', ⟨by first | omega | exact Nat.le_refl _⟩, ⟨pk BK102⟩, ⟨bnow HB⟩⟩
      · rw [if_neg c6] at H
        have c6b0 : decide (a0_2 < 1) = false := decide_eq_false c6
        clear c6
        by_cases c8 : a0_0 > 10000
        · rw [if_pos c8] at H
          have c8b0 : decide (10000 < a0_0) = true := decide_eq_true c8
          clear c8
          have H' := Aside0.mk H
          clear H
          have ⟨hcz9_0, hcz9_1, hcz9_2, hfz9_0, hfz9_1, hfz9_2⟩ := cf3 BK102
          go_wp2
          go_meet
          case rel => exact ⟨_, (true), (by first | rfl | (simp; done) | (simp [*]; done)), H', ⟨by first | omega | exact Nat.le_refl _⟩, ⟨pk BK102⟩, ⟨bnow HB⟩⟩
        · rw [if_neg c8] at H
          have c8b0 : decide (10000 < a0_0) = false := decide_eq_false c8
          clear c8
          by_cases c10 : a0_2 > 10000
          · rw [if_pos c10] at H
            have c10b0 : decide (10000 < a0_2) = true := decide_eq_true c10
            clear c10
            have H' := Aside0.mk H
            clear H
            have ⟨hcz11_0, hcz11_1, hcz11_2, hfz11_0, hfz11_1, hfz11_2⟩ := cf3 BK102
            go_wp2
            go_meet
            case rel => exact ⟨_, (true), (by first | rfl | (simp; done) | (simp [*]; done)), H', ⟨by first | omega | exact Nat.le_refl _⟩, ⟨pk BK102⟩, ⟨bnow HB⟩⟩
          · rw [if_neg c10] at H
            have c10b0 : decide (10000 < a0_2) = false := decide_eq_false c10
            clear c10
            obtain ⟨t103, A12, H⟩ := ob H
            by_cases c13 : t103 = true
            · subst c13
              have H1 : (grids_Check.j0 k true) = some r := by rw [if_pos rfl] at H; exact H
              clear H
              have H := H1
              clear H1
              have H' := Aside0.mk H
              clear H
              have ⟨hcz14_0, hcz14_1, hcz14_2, hfz14_0, hfz14_1, hfz14_2⟩ := cf3 BK102
              go_wp2_with (first | (go_at_call 46; (with_reducible refine (grids_outside.calls a0_1 10000 true _ A12.out).mono ?_); rintro e w' ⟨rfl, ⟨nd, rfl⟩⟩))
              go_meet
              case rel => exact ⟨_, (true), (by first | rfl | (simp; done) | (simp [*]; done)), H', ⟨by first | omega | exact Nat.le_refl _⟩, ⟨pk BK102⟩, ⟨bnow HB⟩⟩
            · replace c13 := Bool.eq_false_iff.mpr c13
              subst c13
              have H1 : ((some (wrap64 (a0_0 * a0_2))).bind fun z104 => ((some (wrap64 (a0_1 * a0_1))).bind fun z105 => (grids_Check.j0 k (decide (z104 ≤ z105))))) = some r := by rw [if_neg (show ¬ (false = true) by decide)] at H; exact H
              clear H
              have H := H1
              clear H1
              obtain ⟨z104, E150, H⟩ := oc H
              have E15w : (IntKind.i64.wrap (a0_0 * a0_2)) = z104 := (i64_w _).trans E150
              obtain ⟨z105, E160, H⟩ := oc H
              have E16w : (IntKind.i64.wrap (a0_1 * a0_1)) = z105 := (i64_w _).trans E160
              have H' := Aside0.mk H
              clear H
              have ⟨hcz17_0, hcz17_1, hcz17_2, hfz17_0, hfz17_1, hfz17_2⟩ := cf3 BK102
              go_wp2_with (first | (go_at_call 46; (with_reducible refine (grids_outside.calls a0_1 10000 false _ A12.out).mono ?_); rintro e w' ⟨rfl, ⟨nd, rfl⟩⟩))
              go_meet
              case rel => exact ⟨_, (decide (z104 ≤ z105)), (by first | rfl | (simp; done) | (simp [*]; done)), H', ⟨by first | omega | exact Nat.le_refl _⟩, ⟨pk BK102⟩, ⟨bnow HB⟩⟩
  case rest =>
    clear HC2
    try clear c1; try clear p2; try clear c4; try clear c4b0; try clear c6; try clear c6b0; try clear p6; try clear c8; try clear c8b0; try clear c10; try clear c10b0; try clear c13; try clear c14; try clear hcz11_0; try clear hcz11_1; try clear hcz11_2; try clear hcz14_0; try clear hcz14_1; try clear hcz14_2; try clear hcz17_0; try clear hcz17_1; try clear hcz17_2; try clear hcz5_0; try clear hcz5_1; try clear hcz5_2; try clear hcz7_0; try clear hcz7_1; try clear hcz7_2; try clear hcz9_0; try clear hcz9_1; try clear hcz9_2; try clear hfz11_0; try clear hfz11_1; try clear hfz11_2; try clear hfz14_0; try clear hfz14_1; try clear hfz14_2; try clear hfz17_0; try clear hfz17_1; try clear hfz17_2; try clear hfz5_0; try clear hfz5_1; try clear hfz5_2; try clear hfz7_0; try clear hfz7_1; try clear hfz7_2; try clear hfz9_0; try clear hfz9_1; try clear hfz9_2
    obtain ⟨kq, x38_1, rfl, HA, HJ1, BK102, HB⟩ := hcut
    cases kq with
    | zero => exact absurd HA.out (by simp [grids_Check.j0])
    | succ kj1 =>
      have H := HA.out
      clear HA
      simp only [grids_Check.j0] at H
      by_cases c18 : x38_1 = true
      · subst c18
        have H1 : (some 2) = some r := by rw [if_pos rfl] at H; exact H
        clear H
        have H := H1
        clear H1
        obtain rfl := Option.some.inj H
        go_wp2
        go_ret
        exact rt HB
      · replace c18 := Bool.eq_false_iff.mpr c18
        subst c18
        have H1 : (some 0) = some r := by rw [if_neg (show ¬ (false = true) by decide)] at H; exact H
        clear H
        have H := H1
        clear H1
        obtain rfl := Option.some.inj H
        go_wp2
        go_ret
        exact rt HB
end
section
/-! ### grids_floor: function 71 -/
def grids_floor.f (a0 : Int) (a1 : Int) : Option (Int) := if a1 = 0 then (none) else ((some (wrap64 (Int.tdiv a0 a1))).bind fun z121 => ((some (Int.tmod a0 a1)).bind fun z122 => (if z122 = 0 then (some z121) else (if ((decide (a0 < 0)) != (decide (a1 < 0))) = true then ((some (wrap64 (z121 - 1))).bind fun z123 => (some z123)) else (some z121)))))
set_option maxHeartbeats 8000000 in
set_option maxRecDepth 100000 in
theorem grids_floor.calls (a0 : Int) (a1 : Int) (r : Int) (w : World) (h : grids_floor.f a0 a1 = some r) :
    Calls Try.prog 71 #[.int .i64 a0, .int .i64 a1] w fun e w' => e = .returned (.int .i64 r) ∧ Drawn0 w w' := by
  have H : (if a1 = 0 then (none) else ((some (wrap64 (Int.tdiv a0 a1))).bind fun z121 => ((some (Int.tmod a0 a1)).bind fun z122 => (if z122 = 0 then (some z121) else (if ((decide (a0 < 0)) != (decide (a1 < 0))) = true then ((some (wrap64 (z121 - 1))).bind fun z123 => (some z123)) else (some z121)))))) = some r := h
  clear h
  by_cases c3 : a1 = 0
  · rw [if_pos c3] at H
    exact absurd H (by simp)
  · rw [if_neg c3] at H
    have c3b0 : (a1 == 0) = false := beq_eq_false_iff_ne.mpr c3
    have c3b1 : (a1 != 0) = true := bne_iff_ne.mpr c3
    obtain ⟨z121, E40, H⟩ := oc H
    have E4w : (IntKind.i64.wrap (Int.tdiv a0 a1)) = z121 := (i64_w _).trans E40
    obtain ⟨z122, E50, H⟩ := oc H
    by_cases c6 : z122 = 0
    · rw [if_pos c6] at H
      have c6b0 : (z122 == 0) = true := beq_iff_eq.mpr c6
      have c6b1 : (z122 != 0) = false := bne_eq_false_iff_eq.mpr c6
      clear c6
      obtain rfl := Option.some.inj H
      go_enter Try.func71, Try.ntmps71
      go_wp2
      go_ret
      exact ⟨by first | rfl | (simp; done) | (simp [*]; done), by repeat (first | exact Drawn0.refl _ | apply Drawn0.step)⟩
    · rw [if_neg c6] at H
      have c6b0 : (z122 == 0) = false := beq_eq_false_iff_ne.mpr c6
      have c6b1 : (z122 != 0) = true := bne_iff_ne.mpr c6
      by_cases c7 : ((decide (a0 < 0)) != (decide (a1 < 0))) = true
      · rw [if_pos c7] at H
        have c7b0 : ((decide (a0 < 0)) != (decide (a1 < 0))) = true := c7
        (try (have c7b1 : decide ((decide (a0 < 0)) = (decide (a1 < 0))) = false := by simpa using c7))
        (try (have c7b2 : ((decide (a0 < 0)) == (decide (a1 < 0))) = false := by simpa using c7))
        (try (have c7b3 : ¬ ((decide (a0 < 0)) = (decide (a1 < 0))) := by simpa using c7))
        clear c7
        obtain ⟨z123, E80, H⟩ := oc H
        have E8w : (IntKind.i64.wrap (z121 - 1)) = z123 := (i64_w _).trans E80
        obtain rfl := Option.some.inj H
        go_enter Try.func71, Try.ntmps71
        go_wp2
        go_ret
        exact ⟨by first | rfl | (simp; done) | (simp [*]; done), by repeat (first | exact Drawn0.refl _ | apply Drawn0.step)⟩
      · rw [if_neg c7] at H
        have c7b0 : ((decide (a0 < 0)) != (decide (a1 < 0))) = false := by simpa using c7
        (try (have c7b1 : decide ((decide (a0 < 0)) = (decide (a1 < 0))) = true := by simpa using c7))
        (try (have c7b2 : ((decide (a0 < 0)) == (decide (a1 < 0))) = true := by simpa using c7))
        clear c7
        obtain rfl := Option.some.inj H
        go_enter Try.func71, Try.ntmps71
        go_wp2
        go_ret
        exact ⟨by first | rfl | (simp; done) | (simp [*]; done), by repeat (first | exact Drawn0.refl _ | apply Drawn0.step)⟩
end
section
/-! ### grids_reduce: function 38 -/
mutual
def grids_reduce.l0 : Nat → Int → Int → Int → Int → Int → Int → Int → Option (Int × Int × Int × Int × Int × Int × Int)
  | 0, _, _, _, _, _, _, _ => none
  | k + 1, x125000, x125001, x125002, x128000, x128001, x128002, x128003 => (some (wrap64 (2 * x125001))).bind fun z128 => ((some (wrap64 (z128 + x125000))).bind fun z129 => ((some (wrap64 (2 * x125000))).bind fun z130 => ((grids_floor.f z129 z130).bind fun t131 => ((some (wrap64 (-t131))).bind fun z132 => ((grids_times.f x128000 x128001 x128002 x128003 1 z132 0 1).bind fun bt133 => ((some (wrap64 (t131 * x125000))).bind fun z137 => ((some (wrap64 (x125001 - z137))).bind fun z138 => ((some (wrap64 (2 * t131))).bind fun z139 => ((some (wrap64 (z139 * x125001))).bind fun z140 => ((some (wrap64 (x125002 - z140))).bind fun z141 => ((some (wrap64 (t131 * t131))).bind fun z142 => ((some (wrap64 (z142 * x125000))).bind fun z143 => ((some (wrap64 (z141 + z143))).bind fun z144 => (if z138 < 0 then ((some (wrap64 (-z138))).bind fun z145 => ((some (wrap64 (-bt133.2.1))).bind fun z146 => ((some (wrap64 (-bt133.2.2.2))).bind fun z147 => (grids_reduce.j1 k x125000 z145 z144 bt133.1 z146 bt133.2.2.1 z147)))) else (grids_reduce.j1 k x125000 z138 z144 bt133.1 bt133.2.1 bt133.2.2.1 bt133.2.2.2)))))))))))))))
def grids_reduce.j1 : Nat → Int → Int → Int → Int → Int → Int → Int → Option (Int × Int × Int × Int × Int × Int × Int)
  | 0, _, _, _, _, _, _, _ => none
  | k + 1, x125000, x125001, x125002, x128000, x128001, x128002, x128003 => if x125000 ≤ x125002 then (some (x125000, x125001, x125002, x128000, x128001, x128002, x128003)) else (grids_reduce.l0 k x125002 x125001 x125000 x128001 x128000 x128003 x128002)
end
def grids_reduce.f (k : Nat) (a0_0 : Int) (a0_1 : Int) (a0_2 : Int) : Option (Int × Int × Int × Int × Int × Int × Int) := grids_reduce.l0 k a0_0 a0_1 a0_2 1 0 0 1
theorem grids_reduce.mono_l : ∀ k, (∀ y0 y1 y2 y3 y4 y5 y6, LeO (grids_reduce.l0 k y0 y1 y2 y3 y4 y5 y6) (grids_reduce.l0 (k + 1) y0 y1 y2 y3 y4 y5 y6)) ∧ (∀ y0 y1 y2 y3 y4 y5 y6, LeO (grids_reduce.j1 k y0 y1 y2 y3 y4 y5 y6) (grids_reduce.j1 (k + 1) y0 y1 y2 y3 y4 y5 y6))
  | 0 => ⟨fun _ _ _ _ _ _ _ r h => by simp [grids_reduce.l0] at h, fun _ _ _ _ _ _ _ r h => by simp [grids_reduce.j1] at h⟩
  | k + 1 => by
    obtain ⟨ih0, ih1⟩ := grids_reduce.mono_l k
    refine ⟨?_, ?_⟩
    · intro y0 y1 y2 y3 y4 y5 y6
      unfold grids_reduce.l0
      repeat' first
      | (with_reducible exact ih0 _ _ _ _ _ _ _)
      | (with_reducible exact ih1 _ _ _ _ _ _ _)
      | (with_reducible exact LeO.refl _)
      | (with_reducible exact LeO.none _)
      | (with_reducible refine LeO.ite ?_ ?_)
      | (with_reducible refine LeO.bind ?_ (fun _ => ?_))
      | exact ih0 _ _ _ _ _ _ _
      | exact ih1 _ _ _ _ _ _ _
      | exact LeO.none _
      | refine LeO.ite ?_ ?_
      | refine LeO.bind ?_ (fun _ => ?_)
    · intro y0 y1 y2 y3 y4 y5 y6
      unfold grids_reduce.j1
      repeat' first
      | (with_reducible exact ih0 _ _ _ _ _ _ _)
      | (with_reducible exact ih1 _ _ _ _ _ _ _)
      | (with_reducible exact LeO.refl _)
      | (with_reducible exact LeO.none _)
      | (with_reducible refine LeO.ite ?_ ?_)
      | (with_reducible refine LeO.bind ?_ (fun _ => ?_))
      | exact ih0 _ _ _ _ _ _ _
      | exact ih1 _ _ _ _ _ _ _
      | exact LeO.none _
      | refine LeO.ite ?_ ?_
      | refine LeO.bind ?_ (fun _ => ?_)
theorem grids_reduce.mono : ∀ a0 a1 a2 k, LeO (grids_reduce.f k a0 a1 a2) (grids_reduce.f (k + 1) a0 a1 a2) := by
  intro a0 a1 a2 k
  obtain ⟨ih0, ih1⟩ := grids_reduce.mono_l k
  unfold grids_reduce.f
  repeat' first
      | (with_reducible exact ih0 _ _ _ _ _ _ _)
      | (with_reducible exact ih1 _ _ _ _ _ _ _)
      | (with_reducible exact LeO.refl _)
      | (with_reducible exact LeO.none _)
      | (with_reducible refine LeO.ite ?_ ?_)
      | (with_reducible refine LeO.bind ?_ (fun _ => ?_))
      | exact ih0 _ _ _ _ _ _ _
      | exact ih1 _ _ _ _ _ _ _
      | exact LeO.none _
      | refine LeO.ite ?_ ?_
      | refine LeO.bind ?_ (fun _ => ?_)
set_option maxHeartbeats 8000000 in
set_option maxRecDepth 100000 in
theorem grids_reduce.calls (k : Nat) (a0_0 : Int) (a0_1 : Int) (a0_2 : Int) (r1 : Int) (r2 : Int) (r3 : Int) (r4 : Int) (r5 : Int) (r6 : Int) (r7 : Int) (w : World) (h : grids_reduce.f k a0_0 a0_1 a0_2 = some (r1, r2, r3, r4, r5, r6, r7)) :
    Calls Try.prog 38 #[.agg #[.int .i64 a0_0, .int .i64 a0_1, .int .i64 a0_2]] w fun e w' => e = .returned (.tuple #[.agg #[.int .i64 r1, .int .i64 r2, .int .i64 r3], .agg #[.int .i64 r4, .int .i64 r5, .int .i64 r6, .int .i64 r7]]) ∧ Below w.heap.size w w' := by
  have hu23 := Try.underlying23
  have hu25 := Try.underlying25
  have HB := Aside0.mk (Below.refl w.heap.size w)
  have H : (grids_reduce.l0 k a0_0 a0_1 a0_2 1 0 0 1) = some (r1, r2, r3, r4, r5, r6, r7) := h
  clear h
  have H' := Aside0.mk H
  clear H
  go_enter Try.func38, Try.ntmps38
  go_wp2_with (first | ((with_reducible refine gate_dst (N := 1) rfl ?_); refine bx 1 #[.int .i64 a0_0, .int .i64 a0_1, .int .i64 a0_2] 23 fun gb124 hg w2 BK124 hb => ?_; have GW124 := gw hg HB; have GE124 := gw hg HB; replace HB := bst HB hb; clear hb hg) | ((with_reducible refine gate_dst (N := 2) rfl ?_); refine bx 2 #[.int .i64 0, .int .i64 0, .int .i64 0] 23 fun gb125 hg w3 BK125 hb => ?_; have GW125 := gw hg HB; have GE125 := gw hg HB; have NB124_125 := nlt hg BK124; have NB125_124 := ngt hg BK124; replace BK124 := bb BK124 hb; replace HB := bst HB hb; clear hb hg) | ((with_reducible refine gate_dst (N := 3) rfl ?_); refine bx 3 #[.int .i64 0, .int .i64 0, .int .i64 0, .int .i64 0] 25 fun gb126 hg w4 BK126 hb => ?_; have GW126 := gw hg HB; have GE126 := gw hg HB; have NB124_126 := nlt hg BK124; have NB126_124 := ngt hg BK124; have NB125_126 := nlt hg BK125; have NB126_125 := ngt hg BK125; replace BK124 := bb BK124 hb; replace BK125 := bb BK125 hb; replace HB := bst HB hb; clear hb hg) | ((with_reducible refine gate_dst (N := 4) rfl ?_); refine bx 4 #[.int .i64 0, .int .i64 0, .int .i64 0, .int .i64 0] 25 fun gb127 hg w5 BK127 hb => ?_; have GW127 := gw hg HB; have GE127 := gw hg HB; have NB124_127 := nlt hg BK124; have NB127_124 := ngt hg BK124; have NB125_127 := nlt hg BK125; have NB127_125 := ngt hg BK125; have NB126_127 := nlt hg BK126; have NB127_126 := ngt hg BK126; replace BK124 := bb BK124 hb; replace BK125 := bb BK125 hb; replace BK126 := bb BK126 hb; replace HB := bst HB hb; clear hb hg; have hnb6 := NB127_124.out; have hnc6 := NB124_127.out; have hnb7 := NB127_125.out; have hnc7 := NB125_127.out; have hnb8 := NB127_126.out; have hnc8 := NB126_127.out; have ⟨hcz9_0, hcz9_1, hcz9_2, hcz9_3, hfz9_0, hfz9_1, hfz9_2, hfz9_3⟩ := cf4 BK127) | ((with_reducible refine gate_store (t := 25) (p := 4) rfl ?_); refine sx 25 4 (((((w5.setCell ⟨gb127, 0, none⟩ (.int .i64 1)).setCell ⟨gb127, 1, none⟩ (.int .i64 0)).setCell ⟨gb127, 2, none⟩ (.int .i64 0)).setCell ⟨gb127, 3, none⟩ (.int .i64 1))) fun w10 hw => ?_; replace BK124 := fw hw BK124; replace BK125 := fw hw BK125; replace BK126 := fw hw BK126; replace BK127 := pw4 hw BK127; replace HB := bw hw HB; clear hw))
  (try simp only [Act.put, List.setIfInBounds_toArray, List.set_cons_zero, List.set_cons_succ])
  go_loopg [] k (fun kq w' => ∃ (x125000_1 : Int) (x125001_1 : Int) (x125002_1 : Int) (x126000_1 : Int) (x126001_1 : Int) (x126002_1 : Int) (x127000_1 : Int) (x127001_1 : Int) (x127002_1 : Int) (x127003_1 : Int) (x128000_1 : Int) (x128001_1 : Int) (x128002_1 : Int) (x128003_1 : Int), Aside0 (grids_reduce.l0 kq x125000_1 x125001_1 x125002_1 x128000_1 x128001_1 x128002_1 x128003_1 = some (r1, r2, r3, r4, r5, r6, r7)) ∧ Aside0 (kq ≤ k) ∧ Aside0 (w'.heap[gb124]? = some (.cells #[.int .i64 x125000_1, .int .i64 x125001_1, .int .i64 x125002_1] 23 (0, 0))) ∧ Aside0 (w'.heap[gb125]? = some (.cells #[.int .i64 x126000_1, .int .i64 x126001_1, .int .i64 x126002_1] 23 (0, 0))) ∧ Aside0 (w'.heap[gb126]? = some (.cells #[.int .i64 x127000_1, .int .i64 x127001_1, .int .i64 x127002_1, .int .i64 x127003_1] 25 (0, 0))) ∧ Aside0 (w'.heap[gb127]? = some (.cells #[.int .i64 x128000_1, .int .i64 x128001_1, .int .i64 x128002_1, .int .i64 x128003_1] 25 (0, 0))) ∧ Aside0 (Below w.heap.size w w'))
  case atStart => exact ⟨(a0_0), (a0_1), (a0_2), (0), (0), (0), (0), (0), (0), (0), (1), (0), (0), (1), H', ⟨Nat.le_refl _⟩, ⟨pk BK124⟩, ⟨pk BK125⟩, ⟨pk BK126⟩, ⟨pk BK127⟩, ⟨bnow HB⟩⟩
  case round =>
    clear H'
    try clear p2; try clear c3; try clear c6; try clear c7; try clear c8; try clear hcz9_0; try clear hcz9_1; try clear hcz9_2; try clear hcz9_3; try clear hfz9_0; try clear hfz9_1; try clear hfz9_2; try clear hfz9_3
    obtain ⟨x125000_1, x125001_1, x125002_1, x126000_1, x126001_1, x126002_1, x127000_1, x127001_1, x127002_1, x127003_1, x128000_1, x128001_1, x128002_1, x128003_1, HA, HK1, BK124, BK125, BK126, BK127, HB⟩ := hrel
    cases gk with
    | zero => exact absurd HA.out (by simp [grids_reduce.l0])
    | succ k1 =>
      have H := HA.out
      clear HA
      simp only [grids_reduce.l0] at H
      obtain ⟨z128, E110, H⟩ := oc H
      have E11w : (IntKind.i64.wrap (2 * x125001_1)) = z128 := (i64_w _).trans E110
      obtain ⟨z129, E120, H⟩ := oc H
      have E12w : (IntKind.i64.wrap (z128 + x125000_1)) = z129 := (i64_w _).trans E120
      obtain ⟨z130, E130, H⟩ := oc H
      have E13w : (IntKind.i64.wrap (2 * x125000_1)) = z130 := (i64_w _).trans E130
      obtain ⟨t131, A14, H⟩ := ob H
      obtain ⟨z132, E150, H⟩ := oc H
      have E15w : (IntKind.i64.wrap (-t131)) = z132 := (i64_w _).trans E150
      obtain ⟨⟨t133, t134, t135, t136⟩, A16, H⟩ := ob H
      obtain ⟨z137, E170, H⟩ := oc H
      have E17w : (IntKind.i64.wrap (t131 * x125000_1)) = z137 := (i64_w _).trans E170
      obtain ⟨z138, E180, H⟩ := oc H
      have E18w : (IntKind.i64.wrap (x125001_1 - z137)) = z138 := (i64_w _).trans E180
      obtain ⟨z139, E190, H⟩ := oc H
      have E19w : (IntKind.i64.wrap (2 * t131)) = z139 := (i64_w _).trans E190
      obtain ⟨z140, E200, H⟩ := oc H
      have E20w : (IntKind.i64.wrap (z139 * x125001_1)) = z140 := (i64_w _).trans E200
      obtain ⟨z141, E210, H⟩ := oc H
      have E21w : (IntKind.i64.wrap (x125002_1 - z140)) = z141 := (i64_w _).trans E210
      obtain ⟨z142, E220, H⟩ := oc H
      have E22w : (IntKind.i64.wrap (t131 * t131)) = z142 := (i64_w _).trans E220
      obtain ⟨z143, E230, H⟩ := oc H
      have E23w : (IntKind.i64.wrap (z142 * x125000_1)) = z143 := (i64_w _).trans E230
      obtain ⟨z144, E240, H⟩ := oc H
      have E24w : (IntKind.i64.wrap (z141 + z143)) = z144 := (i64_w _).trans E240
      have HC25 := Aside0.mk H
      clear H
      have hnb26 := NB124_125.out
      have hnc26 := NB125_124.out
      have hnb27 := NB124_126.out
      have hnc27 := NB126_124.out
      have hnb28 := NB124_127.out
      have hnc28 := NB127_124.out
      have ⟨hcz29_0, hcz29_1, hcz29_2, hfz29_0, hfz29_1, hfz29_2⟩ := cf3 BK124
      go_upto_if 49 with (first | ((with_reducible refine gate_callee (f := 71) rfl ?_); refine goesL_ (some 16) rfl rfl Try.func71 (by kernel_rfl) rfl #[.int .i64 z129, .int .i64 z130] rfl am ?_; (with_reducible refine (grids_floor.calls z129 z130 t131 _ A14.out).mono ?_); rintro e w' ⟨rfl, ⟨nd, rfl⟩⟩; refine ⟨_, rfl, ?_⟩; (try (rw [drewN_self wr]; generalize hq_ : World.drewN wr _ = wr; have n0_ : Aside0 (wr.heap[gb124]? = some (.cells #[.int .i64 x125000_1, .int .i64 x125001_1, .int .i64 x125002_1] 23 (0, 0))) := ⟨by rw [← hq_]; exact (pk BK124)⟩; have n1_ : Aside0 (wr.heap[gb125]? = some (.cells #[.int .i64 x126000_1, .int .i64 x126001_1, .int .i64 x126002_1] 23 (0, 0))) := ⟨by rw [← hq_]; exact (pk BK125)⟩; have n2_ : Aside0 (wr.heap[gb126]? = some (.cells #[.int .i64 x127000_1, .int .i64 x127001_1, .int .i64 x127002_1, .int .i64 x127003_1] 25 (0, 0))) := ⟨by rw [← hq_]; exact (pk BK126)⟩; have n3_ : Aside0 (wr.heap[gb127]? = some (.cells #[.int .i64 x128000_1, .int .i64 x128001_1, .int .i64 x128002_1, .int .i64 x128003_1] 25 (0, 0))) := ⟨by rw [← hq_]; exact (pk BK127)⟩; have n4_ : Aside0 (Below w.heap.size w wr) := ⟨by rw [← hq_]; exact (bnow HB)⟩; clear BK124 BK125 BK126 BK127 HB hq_; have BK124 := n0_; have BK125 := n1_; have BK126 := n2_; have BK127 := n3_; have HB := n4_; clear n0_ n1_ n2_ n3_ n4_)); have hnb30 := NB127_125.out; have hnc30 := NB125_127.out; have hnb31 := NB127_126.out; have hnc31 := NB126_127.out; have ⟨hcz32_0, hcz32_1, hcz32_2, hcz32_3, hfz32_0, hfz32_1, hfz32_2, hfz32_3⟩ := cf4 BK127) | ((with_reducible refine gate_callee (f := 40) rfl ?_); refine gl 21 Try.func40 (grids_times.calls x128000_1 x128001_1 x128002_1 x128003_1 1 z132 0 1 t133 t134 t135 t136 _ A16.out) ?_; rintro e w33 ⟨rfl, hb⟩; refine ⟨_, rfl, ?_⟩; replace BK124 := bb BK124 hb; replace BK125 := bb BK125 hb; replace BK126 := bb BK126 hb; replace BK127 := bb BK127 hb; replace HB := bst HB hb; clear hb; have ⟨hcz34_0, hcz34_1, hcz34_2, hcz34_3, hfz34_0, hfz34_1, hfz34_2, hfz34_3⟩ := cf4 BK127) | ((with_reducible refine gate_store (t := 25) (p := 4) rfl ?_); refine sx 25 4 (((((w33.setCell ⟨gb127, 0, none⟩ (.int .i64 t133)).setCell ⟨gb127, 1, none⟩ (.int .i64 t134)).setCell ⟨gb127, 2, none⟩ (.int .i64 t135)).setCell ⟨gb127, 3, none⟩ (.int .i64 t136))) fun w35 hw => ?_; replace BK124 := fw hw BK124; replace BK125 := fw hw BK125; replace BK126 := fw hw BK126; replace BK127 := pw4 hw BK127; replace HB := bw hw HB; clear hw; have ⟨hcz36_0, hcz36_1, hcz36_2, hfz36_0, hfz36_1, hfz36_2⟩ := cf3 BK124) | ((with_reducible refine gate_store (t := 23) (p := 1) rfl ?_); refine sx 23 1 ((((w35.setCell ⟨gb124, 0, none⟩ (.int .i64 x125000_1)).setCell ⟨gb124, 1, none⟩ (.int .i64 z138)).setCell ⟨gb124, 2, none⟩ (.int .i64 z144))) fun w37 hw => ?_; replace BK124 := pw3 hw BK124; replace BK125 := fw hw BK125; replace BK126 := fw hw BK126; replace BK127 := fw hw BK127; replace HB := bw hw HB; clear hw; have ⟨hcz38_0, hcz38_1, hcz38_2, hfz38_0, hfz38_1, hfz38_2⟩ := cf3 BK124))
      (try simp only [Act.put, List.setIfInBounds_toArray, List.set_cons_zero, List.set_cons_succ])
      go_cut [] (fun wc => ∃ (kq : Nat) (x125001_24 : Int) (x128001_24 : Int) (x128003_24 : Int), Aside0 (grids_reduce.j1 kq x125000_1 x125001_24 z144 t133 x128001_24 t135 x128003_24 = some (r1, r2, r3, r4, r5, r6, r7)) ∧ Aside0 (kq ≤ k1) ∧ Aside0 (wc.heap[gb124]? = some (.cells #[.int .i64 x125000_1, .int .i64 x125001_24, .int .i64 z144] 23 (0, 0))) ∧ Aside0 (wc.heap[gb125]? = some (.cells #[.int .i64 x126000_1, .int .i64 x126001_1, .int .i64 x126002_1] 23 (0, 0))) ∧ Aside0 (wc.heap[gb126]? = some (.cells #[.int .i64 x127000_1, .int .i64 x127001_1, .int .i64 x127002_1, .int .i64 x127003_1] 25 (0, 0))) ∧ Aside0 (wc.heap[gb127]? = some (.cells #[.int .i64 t133, .int .i64 x128001_24, .int .i64 t135, .int .i64 x128003_24] 25 (0, 0))) ∧ Aside0 (Below w.heap.size w wc))
      case first =>
        have H := HC25.out
        clear HC25
        by_cases c39 : z138 < 0
        · rw [if_pos c39] at H
          have c39b0 : decide (z138 < 0) = true := decide_eq_true c39
          clear c39
          (first | rw [c39b0] | (simp only [i64_w, i32_w]; rw [c39b0]) | skip)
          obtain ⟨z145, E400, H⟩ := oc H
          have E40w : (IntKind.i64.wrap (-z138)) = z145 := (i64_w _).trans E400
          obtain ⟨z146, E410, H⟩ := oc H
          have E41w : (IntKind.i64.wrap (-t134)) = z146 := (i64_w _).trans E410
          obtain ⟨z147, E420, H⟩ := oc H
          have E42w : (IntKind.i64.wrap (-t136)) = z147 := (i64_w _).trans E420
          have H' := Aside0.mk H
          clear H
          have hnb43 := NB124_125.out
          have hnc43 := NB125_124.out
          have hnb44 := NB124_126.out
          have hnc44 := NB126_124.out
          have hnb45 := NB124_127.out
          have hnc45 := NB127_124.out
          have ⟨hcz46_0, hcz46_1, hcz46_2, hfz46_0, hfz46_1, hfz46_2⟩ := cf3 BK124
          have hnb47 := NB127_125.out
          have hnc47 := NB125_127.out
          have hnb48 := NB127_126.out
          have hnc48 := NB126_127.out
          have ⟨hcz49_0, hcz49_1, hcz49_2, hcz49_3, hfz49_0, hfz49_1, hfz49_2, hfz49_3⟩ := cf4 BK127
          go_wp2_with (first | ((with_reducible refine gate_store (t := 2) (p := 61) rfl ?_); refine sx 2 61 ((((w37.setCell ⟨gb124, 1, none⟩ (.int .i64 z145)).setCell ⟨gb127, 1, none⟩ (.int .i64 z146)).setCell ⟨gb127, 3, none⟩ (.int .i64 z147))) fun w50 hw => ?_; have n0_ : Aside0 (w50.heap[gb124]? = some (.cells #[.int .i64 x125000_1, .int .i64 z145, .int .i64 z144] 23 (0, 0))) := ⟨(by rw [hw]; exact (by (with_reducible repeat (first | refine blk_drewN ?_ _ | refine blk_drew ?_ | refine blk_alloc ?_ _)); refine blk_far ?_ NB124_127.out _; (with_reducible repeat (first | refine blk_drewN ?_ _ | refine blk_drew ?_ | refine blk_alloc ?_ _)); refine blk_far ?_ NB124_127.out _; (with_reducible repeat (first | refine blk_drewN ?_ _ | refine blk_drew ?_ | refine blk_alloc ?_ _)); refine blk_put (cs := #[.int .i64 x125000_1, .int .i64 z138, .int .i64 z144]) ?_ 1 _ rfl; (with_reducible repeat (first | refine blk_drewN ?_ _ | refine blk_drew ?_ | refine blk_alloc ?_ _)); exact BK124.out))⟩; have n1_ := fw hw BK125; have n2_ := fw hw BK126; have n3_ : Aside0 (w50.heap[gb127]? = some (.cells #[.int .i64 t133, .int .i64 z146, .int .i64 t135, .int .i64 z147] 25 (0, 0))) := ⟨(by rw [hw]; exact (by (with_reducible repeat (first | refine blk_drewN ?_ _ | refine blk_drew ?_ | refine blk_alloc ?_ _)); refine blk_put (cs := #[.int .i64 t133, .int .i64 z146, .int .i64 t135, .int .i64 t136]) ?_ 3 _ rfl; (with_reducible repeat (first | refine blk_drewN ?_ _ | refine blk_drew ?_ | refine blk_alloc ?_ _)); refine blk_put (cs := #[.int .i64 t133, .int .i64 t134, .int .i64 t135, .int .i64 t136]) ?_ 1 _ rfl; (with_reducible repeat (first | refine blk_drewN ?_ _ | refine blk_drew ?_ | refine blk_alloc ?_ _)); refine blk_far ?_ NB127_124.out _; (with_reducible repeat (first | refine blk_drewN ?_ _ | refine blk_drew ?_ | refine blk_alloc ?_ _)); exact BK127.out))⟩; have n4_ := bw hw HB; clear hw; clear BK124; clear BK125; clear BK126; clear BK127; clear HB; have BK124 := n0_; have BK125 := n1_; have BK126 := n2_; have BK127 := n3_; have HB := n4_; clear n0_ n1_ n2_ n3_ n4_))
          go_meet
          case rel => exact ⟨_, (z145), (z146), (z147), H', ⟨by have := HK1.out; first | omega | exact Nat.le_refl _⟩, ⟨pk BK124⟩, ⟨pk BK125⟩, ⟨pk BK126⟩, ⟨pk BK127⟩, ⟨bnow HB⟩⟩
        · rw [if_neg c39] at H
          have c39b0 : decide (z138 < 0) = false := decide_eq_false c39
          clear c39
          (first | rw [c39b0] | (simp only [i64_w, i32_w]; rw [c39b0]) | skip)
          have H' := Aside0.mk H
          clear H
          go_wp2
          go_meet
          case rel => exact ⟨_, (z138), (t134), (t136), H', ⟨by have := HK1.out; first | omega | exact Nat.le_refl _⟩, ⟨pk BK124⟩, ⟨pk BK125⟩, ⟨pk BK126⟩, ⟨pk BK127⟩, ⟨bnow HB⟩⟩
      case rest =>
        clear HC25
        try clear c2; try clear p2; try clear c3; try clear c4; try clear c6; try clear p6; try clear c7; try clear c8; try clear c26; try clear c27; try clear c28; try clear c30; try clear c31; try clear c38; try clear c39; try clear c39b0; try clear c40; try clear c43; try clear c44; try clear c45; try clear c47; try clear c48; try clear hcz29_0; try clear hcz29_1; try clear hcz29_2; try clear hcz32_0; try clear hcz32_1; try clear hcz32_2; try clear hcz32_3; try clear hcz34_0; try clear hcz34_1; try clear hcz34_2; try clear hcz34_3; try clear hcz36_0; try clear hcz36_1; try clear hcz36_2; try clear hcz38_0; try clear hcz38_1; try clear hcz38_2; try clear hcz46_0; try clear hcz46_1; try clear hcz46_2; try clear hcz49_0; try clear hcz49_1; try clear hcz49_2; try clear hcz49_3; try clear hcz9_0; try clear hcz9_1; try clear hcz9_2; try clear hcz9_3; try clear hfz29_0; try clear hfz29_1; try clear hfz29_2; try clear hfz32_0; try clear hfz32_1; try clear hfz32_2; try clear hfz32_3; try clear hfz34_0; try clear hfz34_1; try clear hfz34_2; try clear hfz34_3; try clear hfz36_0; try clear hfz36_1; try clear hfz36_2; try clear hfz38_0; try clear hfz38_1; try clear hfz38_2; try clear hfz46_0; try clear hfz46_1; try clear hfz46_2; try clear hfz49_0; try clear hfz49_1; try clear hfz49_2; try clear hfz49_3; try clear hfz9_0; try clear hfz9_1; try clear hfz9_2; try clear hfz9_3; try clear p2
        obtain ⟨kq, x125001_24, x128001_24, x128003_24, HA, HJ24, BK124, BK125, BK126, BK127, HB⟩ := hcut
        cases kq with
        | zero => exact absurd HA.out (by simp [grids_reduce.j1])
        | succ kj24 =>
          have H := HA.out
          clear HA
          simp only [grids_reduce.j1] at H
          by_cases c51 : x125000_1 ≤ z144
          · rw [if_pos c51] at H
            have c51b0 : decide (x125000_1 ≤ z144) = true := decide_eq_true c51
            clear c51
            simp only [Option.some.injEq, Prod.mk.injEq] at H
            obtain ⟨rfl, rfl, rfl, rfl, rfl, rfl, rfl⟩ := H
            have hnb52 := NB124_125.out
            have hnc52 := NB125_124.out
            have hnb53 := NB124_126.out
            have hnc53 := NB126_124.out
            have hnb54 := NB124_127.out
            have hnc54 := NB127_124.out
            have ⟨hcz55_0, hcz55_1, hcz55_2, hfz55_0, hfz55_1, hfz55_2⟩ := cf3 BK124
            try go_wp2
            replace BK124 := bd BK124
            replace BK125 := bd BK125
            replace BK126 := bd BK126
            replace BK127 := bd BK127
            replace HB := bdn HB
            refine start_ (n := 4) (S := fun w' => w'.cell? ⟨gb124, 0, none⟩ = some (.int .i64 x125000_1) ∧ w'.cell? ⟨gb124, 1, none⟩ = some (.int .i64 x125001_24) ∧ w'.cell? ⟨gb124, 2, none⟩ = some (.int .i64 z144) ∧ w'.cell? ⟨gb127, 0, none⟩ = some (.int .i64 t133) ∧ w'.cell? ⟨gb127, 1, none⟩ = some (.int .i64 x128001_24) ∧ w'.cell? ⟨gb127, 2, none⟩ = some (.int .i64 t135) ∧ w'.cell? ⟨gb127, 3, none⟩ = some (.int .i64 x128003_24)) (ds := []) #[false, false, false, false] (by kernel_rfl) rfl rfl ⟨(blk_cell BK124.out 0).trans rfl, (blk_cell BK124.out 1).trans rfl, (blk_cell BK124.out 2).trans rfl, (blk_cell BK127.out 0).trans rfl, (blk_cell BK127.out 1).trans rfl, (blk_cell BK127.out 2).trans rfl, (blk_cell BK127.out 3).trans rfl⟩ (fun hHeld => ?_)
            generalize wc.drew = w56 at BK124 BK125 BK126 BK127 HB hHeld ⊢
            refine take_ (i := 0) (N := some 67) (v := ?_) (a' := ?_) #[true, false, false, false] rfl rfl (by kernel_rfl) (fun _ _ _ h => h) (Or.inl ⟨by rfl, ?_⟩) hHeld ?_ ?_
            rotate_left
            · rintro w' ⟨s0, s1, s2, s3, s4, s5, s6⟩
              go_simp
              with_reducible rfl
            rotate_left
            · simp only [Act.put, List.setIfInBounds_toArray, List.set_cons_zero, List.set_cons_succ, i64_w, i32_w]
              rfl
            refine take_ (i := 1) (N := some 68) (v := ?_) (a' := ?_) #[true, true, false, false] rfl rfl (by kernel_rfl) (fun _ _ _ h => h) (Or.inl ⟨by rfl, ?_⟩) hHeld ?_ ?_
            rotate_left
            · rintro w' ⟨s0, s1, s2, s3, s4, s5, s6⟩
              go_simp
              with_reducible rfl
            rotate_left
            · simp only [Act.put, List.setIfInBounds_toArray, List.set_cons_zero, List.set_cons_succ, i64_w, i32_w]
              rfl
            refine one_ (i := 2) (N := none) #[true, true, true, false] rfl rfl (by kernel_rfl) (by decide) (fun K hK => ?_)
            have hs57 : w56.cell? ⟨gb125, 0, none⟩ = some (.int .i64 x126000_1) := (blk_cell BK125.out 0).trans rfl
            have hfs57 := blk_frozen BK125.out 0
            have hns57_0 := NB124_125.out
            have hns57_2 := NB126_125.out
            have hns57_3 := NB127_125.out
            have hms57_0 := NB125_124.out
            have hms57_2 := NB125_126.out
            have hms57_3 := NB125_127.out
            have hs58 : w56.cell? ⟨gb125, 1, none⟩ = some (.int .i64 x126001_1) := (blk_cell BK125.out 1).trans rfl
            have hfs58 := blk_frozen BK125.out 1
            have hns58_0 := NB124_125.out
            have hns58_2 := NB126_125.out
            have hns58_3 := NB127_125.out
            have hms58_0 := NB125_124.out
            have hms58_2 := NB125_126.out
            have hms58_3 := NB125_127.out
            have hs59 : w56.cell? ⟨gb125, 2, none⟩ = some (.int .i64 x126002_1) := (blk_cell BK125.out 2).trans rfl
            have hfs59 := blk_frozen BK125.out 2
            have hns59_0 := NB124_125.out
            have hns59_2 := NB126_125.out
            have hns59_3 := NB127_125.out
            have hms59_0 := NB125_124.out
            have hms59_2 := NB125_126.out
            have hms59_3 := NB125_127.out
            refine skip_ (w1 := ?_) (by rfl) rfl ?_ ?_
            rotate_left
            · go_simp
              rfl
            refine hK.out _ _ ⟨((cell_far (p := ⟨gb125, _, none⟩) NB124_125.out _).trans (((cell_far (p := ⟨gb125, _, none⟩) NB124_125.out _).trans (((cell_far (p := ⟨gb125, _, none⟩) NB124_125.out _).trans (hHeld.1)))))), ((cell_far (p := ⟨gb125, _, none⟩) NB124_125.out _).trans (((cell_far (p := ⟨gb125, _, none⟩) NB124_125.out _).trans (((cell_far (p := ⟨gb125, _, none⟩) NB124_125.out _).trans (hHeld.2.1)))))), ((cell_far (p := ⟨gb125, _, none⟩) NB124_125.out _).trans (((cell_far (p := ⟨gb125, _, none⟩) NB124_125.out _).trans (((cell_far (p := ⟨gb125, _, none⟩) NB124_125.out _).trans (hHeld.2.2.1)))))), ((cell_far (p := ⟨gb125, _, none⟩) NB127_125.out _).trans (((cell_far (p := ⟨gb125, _, none⟩) NB127_125.out _).trans (((cell_far (p := ⟨gb125, _, none⟩) NB127_125.out _).trans (hHeld.2.2.2.1)))))), ((cell_far (p := ⟨gb125, _, none⟩) NB127_125.out _).trans (((cell_far (p := ⟨gb125, _, none⟩) NB127_125.out _).trans (((cell_far (p := ⟨gb125, _, none⟩) NB127_125.out _).trans (hHeld.2.2.2.2.1)))))), ((cell_far (p := ⟨gb125, _, none⟩) NB127_125.out _).trans (((cell_far (p := ⟨gb125, _, none⟩) NB127_125.out _).trans (((cell_far (p := ⟨gb125, _, none⟩) NB127_125.out _).trans (hHeld.2.2.2.2.2.1)))))), ((cell_far (p := ⟨gb125, _, none⟩) NB127_125.out _).trans (((cell_far (p := ⟨gb125, _, none⟩) NB127_125.out _).trans (((cell_far (p := ⟨gb125, _, none⟩) NB127_125.out _).trans (hHeld.2.2.2.2.2.2))))))⟩ (fun hHeld => ?_)
            clear hK K
            refine one_ (i := 3) (N := none) #[true, true, true, true] rfl rfl (by kernel_rfl) (by decide) (fun K hK => ?_)
            have hs60 : w56.cell? ⟨gb126, 0, none⟩ = some (.int .i64 x127000_1) := (blk_cell BK126.out 0).trans rfl
            have hfs60 := blk_frozen BK126.out 0
            have hns60_0 := NB124_126.out
            have hns60_1 := NB125_126.out
            have hns60_3 := NB127_126.out
            have hms60_0 := NB126_124.out
            have hms60_1 := NB126_125.out
            have hms60_3 := NB126_127.out
            have hs61 : w56.cell? ⟨gb126, 1, none⟩ = some (.int .i64 x127001_1) := (blk_cell BK126.out 1).trans rfl
            have hfs61 := blk_frozen BK126.out 1
            have hns61_0 := NB124_126.out
            have hns61_1 := NB125_126.out
            have hns61_3 := NB127_126.out
            have hms61_0 := NB126_124.out
            have hms61_1 := NB126_125.out
            have hms61_3 := NB126_127.out
            have hs62 : w56.cell? ⟨gb126, 2, none⟩ = some (.int .i64 x127002_1) := (blk_cell BK126.out 2).trans rfl
            have hfs62 := blk_frozen BK126.out 2
            have hns62_0 := NB124_126.out
            have hns62_1 := NB125_126.out
            have hns62_3 := NB127_126.out
            have hms62_0 := NB126_124.out
            have hms62_1 := NB126_125.out
            have hms62_3 := NB126_127.out
            have hs63 : w56.cell? ⟨gb126, 3, none⟩ = some (.int .i64 x127003_1) := (blk_cell BK126.out 3).trans rfl
            have hfs63 := blk_frozen BK126.out 3
            have hns63_0 := NB124_126.out
            have hns63_1 := NB125_126.out
            have hns63_3 := NB127_126.out
            have hms63_0 := NB126_124.out
            have hms63_1 := NB126_125.out
            have hms63_3 := NB126_127.out
            refine skip_ (w1 := ?_) (by rfl) rfl ?_ ?_
            rotate_left
            · go_simp
              rfl
            refine hK.out _ _ ⟨((cell_far (p := ⟨gb126, _, none⟩) NB124_126.out _).trans (((cell_far (p := ⟨gb126, _, none⟩) NB124_126.out _).trans (((cell_far (p := ⟨gb126, _, none⟩) NB124_126.out _).trans (((cell_far (p := ⟨gb126, _, none⟩) NB124_126.out _).trans (hHeld.1)))))))), ((cell_far (p := ⟨gb126, _, none⟩) NB124_126.out _).trans (((cell_far (p := ⟨gb126, _, none⟩) NB124_126.out _).trans (((cell_far (p := ⟨gb126, _, none⟩) NB124_126.out _).trans (((cell_far (p := ⟨gb126, _, none⟩) NB124_126.out _).trans (hHeld.2.1)))))))), ((cell_far (p := ⟨gb126, _, none⟩) NB124_126.out _).trans (((cell_far (p := ⟨gb126, _, none⟩) NB124_126.out _).trans (((cell_far (p := ⟨gb126, _, none⟩) NB124_126.out _).trans (((cell_far (p := ⟨gb126, _, none⟩) NB124_126.out _).trans (hHeld.2.2.1)))))))), ((cell_far (p := ⟨gb126, _, none⟩) NB127_126.out _).trans (((cell_far (p := ⟨gb126, _, none⟩) NB127_126.out _).trans (((cell_far (p := ⟨gb126, _, none⟩) NB127_126.out _).trans (((cell_far (p := ⟨gb126, _, none⟩) NB127_126.out _).trans (hHeld.2.2.2.1)))))))), ((cell_far (p := ⟨gb126, _, none⟩) NB127_126.out _).trans (((cell_far (p := ⟨gb126, _, none⟩) NB127_126.out _).trans (((cell_far (p := ⟨gb126, _, none⟩) NB127_126.out _).trans (((cell_far (p := ⟨gb126, _, none⟩) NB127_126.out _).trans (hHeld.2.2.2.2.1)))))))), ((cell_far (p := ⟨gb126, _, none⟩) NB127_126.out _).trans (((cell_far (p := ⟨gb126, _, none⟩) NB127_126.out _).trans (((cell_far (p := ⟨gb126, _, none⟩) NB127_126.out _).trans (((cell_far (p := ⟨gb126, _, none⟩) NB127_126.out _).trans (hHeld.2.2.2.2.2.1)))))))), ((cell_far (p := ⟨gb126, _, none⟩) NB127_126.out _).trans (((cell_far (p := ⟨gb126, _, none⟩) NB127_126.out _).trans (((cell_far (p := ⟨gb126, _, none⟩) NB127_126.out _).trans (((cell_far (p := ⟨gb126, _, none⟩) NB127_126.out _).trans (hHeld.2.2.2.2.2.2))))))))⟩ (fun hHeld => ?_)
            clear hK K
            refine done_ (by kernel_rfl) ?_
            try go_wp2
            refine bodyPost_ret (results_cc rfl _ _ gb125 gb126 23 25 #[.int .i64 x125000_1, .int .i64 x125001_24, .int .i64 z144] #[.int .i64 t133, .int .i64 x128001_24, .int .i64 t135, .int .i64 x128003_24] (0, 0) (0, 0) _ _ rfl (by (with_reducible repeat (first | refine blk_drewN ?_ _ | refine blk_drew ?_ | refine blk_alloc ?_ _)); refine blk_far ?_ NB125_126.out _; (with_reducible repeat (first | refine blk_drewN ?_ _ | refine blk_drew ?_ | refine blk_alloc ?_ _)); refine blk_far ?_ NB125_126.out _; (with_reducible repeat (first | refine blk_drewN ?_ _ | refine blk_drew ?_ | refine blk_alloc ?_ _)); refine blk_far ?_ NB125_126.out _; (with_reducible repeat (first | refine blk_drewN ?_ _ | refine blk_drew ?_ | refine blk_alloc ?_ _)); refine blk_far ?_ NB125_126.out _; (with_reducible repeat (first | refine blk_drewN ?_ _ | refine blk_drew ?_ | refine blk_alloc ?_ _)); refine blk_put (cs := #[.int .i64 x125000_1, .int .i64 x125001_24, .int .i64 x126002_1]) ?_ 2 _ rfl; (with_reducible repeat (first | refine blk_drewN ?_ _ | refine blk_drew ?_ | refine blk_alloc ?_ _)); refine blk_put (cs := #[.int .i64 x125000_1, .int .i64 x126001_1, .int .i64 x126002_1]) ?_ 1 _ rfl; (with_reducible repeat (first | refine blk_drewN ?_ _ | refine blk_drew ?_ | refine blk_alloc ?_ _)); refine blk_put (cs := #[.int .i64 x126000_1, .int .i64 x126001_1, .int .i64 x126002_1]) ?_ 0 _ rfl; (with_reducible repeat (first | refine blk_drewN ?_ _ | refine blk_drew ?_ | refine blk_alloc ?_ _)); exact BK125.out) Try.underlying23 rfl (by kernel_rfl) rfl (by (with_reducible repeat (first | refine blk_drewN ?_ _ | refine blk_drew ?_ | refine blk_alloc ?_ _)); refine blk_put (cs := #[.int .i64 t133, .int .i64 x128001_24, .int .i64 t135, .int .i64 x127003_1]) ?_ 3 _ rfl; (with_reducible repeat (first | refine blk_drewN ?_ _ | refine blk_drew ?_ | refine blk_alloc ?_ _)); refine blk_put (cs := #[.int .i64 t133, .int .i64 x128001_24, .int .i64 x127002_1, .int .i64 x127003_1]) ?_ 2 _ rfl; (with_reducible repeat (first | refine blk_drewN ?_ _ | refine blk_drew ?_ | refine blk_alloc ?_ _)); refine blk_put (cs := #[.int .i64 t133, .int .i64 x127001_1, .int .i64 x127002_1, .int .i64 x127003_1]) ?_ 1 _ rfl; (with_reducible repeat (first | refine blk_drewN ?_ _ | refine blk_drew ?_ | refine blk_alloc ?_ _)); refine blk_put (cs := #[.int .i64 x127000_1, .int .i64 x127001_1, .int .i64 x127002_1, .int .i64 x127003_1]) ?_ 0 _ rfl; (with_reducible repeat (first | refine blk_drewN ?_ _ | refine blk_drew ?_ | refine blk_alloc ?_ _)); refine blk_far ?_ NB126_125.out _; (with_reducible repeat (first | refine blk_drewN ?_ _ | refine blk_drew ?_ | refine blk_alloc ?_ _)); refine blk_far ?_ NB126_125.out _; (with_reducible repeat (first | refine blk_drewN ?_ _ | refine blk_drew ?_ | refine blk_alloc ?_ _)); refine blk_far ?_ NB126_125.out _; (with_reducible repeat (first | refine blk_drewN ?_ _ | refine blk_drew ?_ | refine blk_alloc ?_ _)); exact BK126.out) Try.underlying25 rfl (by kernel_rfl)) rfl ?_
            exact rt HB
          · rw [if_neg c51] at H
            have c51b0 : decide (x125000_1 ≤ z144) = false := decide_eq_false c51
            clear c51
            have H' := Aside0.mk H
            clear H
            have hnb64 := NB124_125.out
            have hnc64 := NB125_124.out
            have hnb65 := NB124_126.out
            have hnc65 := NB126_124.out
            have hnb66 := NB124_127.out
            have hnc66 := NB127_124.out
            have ⟨hcz67_0, hcz67_1, hcz67_2, hfz67_0, hfz67_1, hfz67_2⟩ := cf3 BK124
            have hnb68 := NB127_125.out
            have hnc68 := NB125_127.out
            have hnb69 := NB127_126.out
            have hnc69 := NB126_127.out
            have ⟨hcz70_0, hcz70_1, hcz70_2, hcz70_3, hfz70_0, hfz70_1, hfz70_2, hfz70_3⟩ := cf4 BK127
            go_wp2_with (first | ((with_reducible refine gate_store (t := 2) (p := 83) rfl ?_); refine sx 2 83 ((((wc.setCell ⟨gb124, 0, none⟩ (.int .i64 z144)).setCell ⟨gb124, 2, none⟩ (.int .i64 x125000_1)).setCell ⟨gb127, 0, none⟩ (.int .i64 x128001_24))) fun w71 hw => ?_; have n0_ : Aside0 (w71.heap[gb124]? = some (.cells #[.int .i64 z144, .int .i64 x125001_24, .int .i64 x125000_1] 23 (0, 0))) := ⟨(by rw [hw]; exact (by (with_reducible repeat (first | refine blk_drewN ?_ _ | refine blk_drew ?_ | refine blk_alloc ?_ _)); refine blk_far ?_ NB124_127.out _; (with_reducible repeat (first | refine blk_drewN ?_ _ | refine blk_drew ?_ | refine blk_alloc ?_ _)); refine blk_put (cs := #[.int .i64 z144, .int .i64 x125001_24, .int .i64 z144]) ?_ 2 _ rfl; (with_reducible repeat (first | refine blk_drewN ?_ _ | refine blk_drew ?_ | refine blk_alloc ?_ _)); refine blk_put (cs := #[.int .i64 x125000_1, .int .i64 x125001_24, .int .i64 z144]) ?_ 0 _ rfl; (with_reducible repeat (first | refine blk_drewN ?_ _ | refine blk_drew ?_ | refine blk_alloc ?_ _)); exact BK124.out))⟩; have n1_ := fw hw BK125; have n2_ := fw hw BK126; have n3_ : Aside0 (w71.heap[gb127]? = some (.cells #[.int .i64 x128001_24, .int .i64 x128001_24, .int .i64 t135, .int .i64 x128003_24] 25 (0, 0))) := ⟨(by rw [hw]; exact (by (with_reducible repeat (first | refine blk_drewN ?_ _ | refine blk_drew ?_ | refine blk_alloc ?_ _)); refine blk_put (cs := #[.int .i64 t133, .int .i64 x128001_24, .int .i64 t135, .int .i64 x128003_24]) ?_ 0 _ rfl; (with_reducible repeat (first | refine blk_drewN ?_ _ | refine blk_drew ?_ | refine blk_alloc ?_ _)); refine blk_far ?_ NB127_124.out _; (with_reducible repeat (first | refine blk_drewN ?_ _ | refine blk_drew ?_ | refine blk_alloc ?_ _)); refine blk_far ?_ NB127_124.out _; (with_reducible repeat (first | refine blk_drewN ?_ _ | refine blk_drew ?_ | refine blk_alloc ?_ _)); exact BK127.out))⟩; have n4_ := bw hw HB; clear hw; clear BK124; clear BK125; clear BK126; clear BK127; clear HB; have BK124 := n0_; have BK125 := n1_; have BK126 := n2_; have BK127 := n3_; have HB := n4_; clear n0_ n1_ n2_ n3_ n4_; have ⟨hcz72_0, hcz72_1, hcz72_2, hcz72_3, hfz72_0, hfz72_1, hfz72_2, hfz72_3⟩ := cf4 BK127) | ((with_reducible refine gate_store (t := 2) (p := 86) rfl ?_); refine sx 2 86 ((((w71.setCell ⟨gb127, 1, none⟩ (.int .i64 t133)).setCell ⟨gb127, 2, none⟩ (.int .i64 x128003_24)).setCell ⟨gb127, 3, none⟩ (.int .i64 t135))) fun w73 hw => ?_; have n0_ := fw hw BK124; have n1_ := fw hw BK125; have n2_ := fw hw BK126; have n3_ : Aside0 (w73.heap[gb127]? = some (.cells #[.int .i64 x128001_24, .int .i64 t133, .int .i64 x128003_24, .int .i64 t135] 25 (0, 0))) := ⟨(by rw [hw]; exact (by (with_reducible repeat (first | refine blk_drewN ?_ _ | refine blk_drew ?_ | refine blk_alloc ?_ _)); refine blk_put (cs := #[.int .i64 x128001_24, .int .i64 t133, .int .i64 x128003_24, .int .i64 x128003_24]) ?_ 3 _ rfl; (with_reducible repeat (first | refine blk_drewN ?_ _ | refine blk_drew ?_ | refine blk_alloc ?_ _)); refine blk_put (cs := #[.int .i64 x128001_24, .int .i64 t133, .int .i64 t135, .int .i64 x128003_24]) ?_ 2 _ rfl; (with_reducible repeat (first | refine blk_drewN ?_ _ | refine blk_drew ?_ | refine blk_alloc ?_ _)); refine blk_put (cs := #[.int .i64 x128001_24, .int .i64 x128001_24, .int .i64 t135, .int .i64 x128003_24]) ?_ 1 _ rfl; (with_reducible repeat (first | refine blk_drewN ?_ _ | refine blk_drew ?_ | refine blk_alloc ?_ _)); exact BK127.out))⟩; have n4_ := bw hw HB; clear hw; clear BK124; clear BK125; clear BK126; clear BK127; clear HB; have BK124 := n0_; have BK125 := n1_; have BK126 := n2_; have BK127 := n3_; have HB := n4_; clear n0_ n1_ n2_ n3_ n4_))
            go_roundg kj24
            case measure => have := HK1.out; have := HJ24.out; omega
            case rel => exact ⟨(z144), (x125001_24), (x125000_1), (x126000_1), (x126001_1), (x126002_1), (x127000_1), (x127001_1), (x127002_1), (x127003_1), (x128001_24), (t133), (x128003_24), (t135), H', ⟨by have := HK1.out; have := HJ24.out; omega⟩, ⟨pk BK124⟩, ⟨pk BK125⟩, ⟨pk BK126⟩, ⟨pk BK127⟩, ⟨bnow HB⟩⟩
end
section
/-! ### grids_step_product: function 80 -/
def grids_step_product.f (a0_0 : Int) (a0_1 : Int) (a1_0 : Int) (a1_1 : Int) (a1_2 : Int) (a2_0 : Int) (a2_1 : Int) : Option (Int) := (some (wrap64 (a1_0 * a2_0))).bind fun z151 => ((some (wrap64 (a1_1 * a2_1))).bind fun z152 => ((some (wrap64 (z151 + z152))).bind fun z153 => ((some (wrap64 (a0_0 * z153))).bind fun z154 => ((some (wrap64 (a1_1 * a2_0))).bind fun z155 => ((some (wrap64 (a1_2 * a2_1))).bind fun z156 => ((some (wrap64 (z155 + z156))).bind fun z157 => ((some (wrap64 (a0_1 * z157))).bind fun z158 => ((some (wrap64 (z154 + z158))).bind fun z159 => (some z159)))))))))
set_option maxHeartbeats 8000000 in
set_option maxRecDepth 100000 in
theorem grids_step_product.calls (a0_0 : Int) (a0_1 : Int) (a1_0 : Int) (a1_1 : Int) (a1_2 : Int) (a2_0 : Int) (a2_1 : Int) (r : Int) (w : World) (h : grids_step_product.f a0_0 a0_1 a1_0 a1_1 a1_2 a2_0 a2_1 = some r) :
    Calls Try.prog 80 #[.agg #[.int .i64 a0_0, .int .i64 a0_1], .agg #[.int .i64 a1_0, .int .i64 a1_1, .int .i64 a1_2], .agg #[.int .i64 a2_0, .int .i64 a2_1]] w fun e w' => e = .returned (.int .i64 r) ∧ Below w.heap.size w w' := by
  have hu81 := Try.underlying81
  have hu23 := Try.underlying23
  have HB := Aside0.mk (Below.refl w.heap.size w)
  have H : ((some (wrap64 (a1_0 * a2_0))).bind fun z151 => ((some (wrap64 (a1_1 * a2_1))).bind fun z152 => ((some (wrap64 (z151 + z152))).bind fun z153 => ((some (wrap64 (a0_0 * z153))).bind fun z154 => ((some (wrap64 (a1_1 * a2_0))).bind fun z155 => ((some (wrap64 (a1_2 * a2_1))).bind fun z156 => ((some (wrap64 (z155 + z156))).bind fun z157 => ((some (wrap64 (a0_1 * z157))).bind fun z158 => ((some (wrap64 (z154 + z158))).bind fun z159 => (some z159)))))))))) = some r := h
  clear h
  obtain ⟨z151, E40, H⟩ := oc H
  have E4w : (IntKind.i64.wrap (a1_0 * a2_0)) = z151 := (i64_w _).trans E40
  obtain ⟨z152, E50, H⟩ := oc H
  have E5w : (IntKind.i64.wrap (a1_1 * a2_1)) = z152 := (i64_w _).trans E50
  obtain ⟨z153, E60, H⟩ := oc H
  have E6w : (IntKind.i64.wrap (z151 + z152)) = z153 := (i64_w _).trans E60
  obtain ⟨z154, E70, H⟩ := oc H
  have E7w : (IntKind.i64.wrap (a0_0 * z153)) = z154 := (i64_w _).trans E70
  obtain ⟨z155, E80, H⟩ := oc H
  have E8w : (IntKind.i64.wrap (a1_1 * a2_0)) = z155 := (i64_w _).trans E80
  obtain ⟨z156, E90, H⟩ := oc H
  have E9w : (IntKind.i64.wrap (a1_2 * a2_1)) = z156 := (i64_w _).trans E90
  obtain ⟨z157, E100, H⟩ := oc H
  have E10w : (IntKind.i64.wrap (z155 + z156)) = z157 := (i64_w _).trans E100
  obtain ⟨z158, E110, H⟩ := oc H
  have E11w : (IntKind.i64.wrap (a0_1 * z157)) = z158 := (i64_w _).trans E110
  obtain ⟨z159, E120, H⟩ := oc H
  have E12w : (IntKind.i64.wrap (z154 + z158)) = z159 := (i64_w _).trans E120
  obtain rfl := Option.some.inj H
  go_enter Try.func80, Try.ntmps80
  go_wp2_with (first | ((with_reducible refine gate_dst (N := 3) rfl ?_); refine bx 3 #[.int .i64 a0_0, .int .i64 a0_1] 81 fun gb148 hg w13 BK148 hb => ?_; have GW148 := gw hg HB; have GE148 := gw hg HB; replace HB := bst HB hb; clear hb hg) | ((with_reducible refine gate_dst (N := 4) rfl ?_); refine bx 4 #[.int .i64 a1_0, .int .i64 a1_1, .int .i64 a1_2] 23 fun gb149 hg w14 BK149 hb => ?_; have GW149 := gw hg HB; have GE149 := gw hg HB; have NB148_149 := nlt hg BK148; have NB149_148 := ngt hg BK148; replace BK148 := bb BK148 hb; replace HB := bst HB hb; clear hb hg) | ((with_reducible refine gate_dst (N := 5) rfl ?_); refine bx 5 #[.int .i64 a2_0, .int .i64 a2_1] 81 fun gb150 hg w15 BK150 hb => ?_; have GW150 := gw hg HB; have GE150 := gw hg HB; have NB148_150 := nlt hg BK148; have NB150_148 := ngt hg BK148; have NB149_150 := nlt hg BK149; have NB150_149 := ngt hg BK149; replace BK148 := bb BK148 hb; replace BK149 := bb BK149 hb; replace HB := bst HB hb; clear hb hg; have hnb16 := NB148_149.out; have hnc16 := NB149_148.out; have hnb17 := NB148_150.out; have hnc17 := NB150_148.out; have ⟨hcz18_0, hcz18_1, hfz18_0, hfz18_1⟩ := cf2 BK148; have hnb19 := NB149_150.out; have hnc19 := NB150_149.out; have ⟨hcz20_0, hcz20_1, hcz20_2, hfz20_0, hfz20_1, hfz20_2⟩ := cf3 BK149; have ⟨hcz21_0, hcz21_1, hfz21_0, hfz21_1⟩ := cf2 BK150))
  go_ret
  exact rt HB
end
section
/-! ### grids_lead: function 60 -/
def grids_lead.f (a0_0 : Int) (a0_1 : Int) (a0_2 : Int) (a1_0 : Int) (a1_1 : Int) (a1_2 : Int) (a1_3 : Int) : Option (Int × Int × Int) := (grids_step_product.f a1_0 a1_2 a0_0 a0_1 a0_2 a1_0 a1_2).bind fun t165 => ((grids_step_product.f a1_0 a1_2 a0_0 a0_1 a0_2 a1_1 a1_3).bind fun t166 => ((grids_step_product.f a1_1 a1_3 a0_0 a0_1 a0_2 a1_1 a1_3).bind fun t167 => (some (t165, t166, t167))))
def grids_lead.T1 : Bool × List (List Nat × List Nat) := (true, [([], []), ([0], [0]), ([], []), ([2], [2]), ([1, 3], [1, 3]), ([], []), ([5], [5]), ([], []), ([7], [7]), ([6, 8], [6, 8]), ([], []), ([], []), ([10, 4, 0, 1, 2, 3, 4, 10, 11], [4, 10]), ([11, 9, 12, 0, 1, 2, 3, 4, 5, 6, 7, 8, 9, 10, 11, 12], [9, 11])])
def grids_lead.B1 : List Nat := [0, 1, 0, 4, 15, 0, 32, 0, 128, 480, 0, 0, 3103, 8191]
theorem grids_lead.tab1 : rtab .any (opsOf Try.f60 1) = grids_lead.T1 := by kernel_rfl
theorem grids_lead.bits1 : waitsOk grids_lead.T1.2 grids_lead.B1 = true := by kernel_rfl
def grids_lead.T2 : Bool × List (List Nat × List Nat) := (true, [([], []), ([], []), ([], []), ([0, 1, 2], [0, 1, 2]), ([], []), ([], []), ([], []), ([4, 5, 6, 3], [4, 5, 6]), ([], []), ([], []), ([], []), ([8, 9, 10, 7], [8, 9, 10]), ([3, 7, 11], [3, 7, 11]), ([12, 11, 0, 1, 2, 3, 4, 5, 6, 7, 8, 9, 10, 11, 12], [12])])
def grids_lead.B2 : List Nat := [0, 0, 0, 7, 0, 0, 0, 127, 0, 0, 0, 2047, 4095, 8191]
theorem grids_lead.tab2 : rtab .any (opsOf Try.f60 2) = grids_lead.T2 := by kernel_rfl
theorem grids_lead.bits2 : waitsOk grids_lead.T2.2 grids_lead.B2 = true := by kernel_rfl
set_option maxHeartbeats 8000000 in
set_option maxRecDepth 100000 in
theorem grids_lead.calls (a0_0 : Int) (a0_1 : Int) (a0_2 : Int) (a1_0 : Int) (a1_1 : Int) (a1_2 : Int) (a1_3 : Int) (r1 : Int) (r2 : Int) (r3 : Int) (w : World) (h : grids_lead.f a0_0 a0_1 a0_2 a1_0 a1_1 a1_2 a1_3 = some (r1, r2, r3)) :
    Calls Try.prog 60 #[.agg #[.int .i64 a0_0, .int .i64 a0_1, .int .i64 a0_2], .agg #[.int .i64 a1_0, .int .i64 a1_1, .int .i64 a1_2, .int .i64 a1_3]] w fun e w' => e = .returned (.agg #[.int .i64 r1, .int .i64 r2, .int .i64 r3]) ∧ Below w.heap.size w w' := by
  have hu23 := Try.underlying23
  have hu25 := Try.underlying25
  have hu81 := Try.underlying81
  have HB := Aside0.mk (Below.refl w.heap.size w)
  have H : ((grids_step_product.f a1_0 a1_2 a0_0 a0_1 a0_2 a1_0 a1_2).bind fun t165 => ((grids_step_product.f a1_0 a1_2 a0_0 a0_1 a0_2 a1_1 a1_3).bind fun t166 => ((grids_step_product.f a1_1 a1_3 a0_0 a0_1 a0_2 a1_1 a1_3).bind fun t167 => (some (t165, t166, t167))))) = some (r1, r2, r3) := h
  clear h
  obtain ⟨t165, A3, H⟩ := ob H
  obtain ⟨t166, A4, H⟩ := ob H
  obtain ⟨t167, A5, H⟩ := ob H
  simp only [Option.some.injEq, Prod.mk.injEq] at H
  obtain ⟨rfl, rfl, rfl⟩ := H
  go_enter Try.func60, Try.ntmps60
  try go_wp2_with (first | ((with_reducible refine gate_dst (N := 2) rfl ?_); refine bx 2 #[.int .i64 a0_0, .int .i64 a0_1, .int .i64 a0_2] 23 fun gb160 hg w6 BK160 hb => ?_; have GW160 := gw hg HB; have GE160 := gw hg HB; replace HB := bst HB hb; clear hb hg) | ((with_reducible refine gate_dst (N := 3) rfl ?_); refine bx 3 #[.int .i64 a1_0, .int .i64 a1_1, .int .i64 a1_2, .int .i64 a1_3] 25 fun gb161 hg w7 BK161 hb => ?_; have GW161 := gw hg HB; have GE161 := gw hg HB; have NB160_161 := nlt hg BK160; have NB161_160 := ngt hg BK160; replace BK160 := bb BK160 hb; replace HB := bst HB hb; clear hb hg) | ((with_reducible refine gate_dst (N := 4) rfl ?_); refine bx 4 #[.int .i64 0, .int .i64 0, .int .i64 0] 23 fun gb162 hg w8 BK162 hb => ?_; have GW162 := gw hg HB; have GE162 := gw hg HB; have NB160_162 := nlt hg BK160; have NB162_160 := ngt hg BK160; have NB161_162 := nlt hg BK161; have NB162_161 := ngt hg BK161; replace BK160 := bb BK160 hb; replace BK161 := bb BK161 hb; replace HB := bst HB hb; clear hb hg))
  replace BK160 := bd BK160
  replace BK161 := bd BK161
  replace BK162 := bd BK162
  replace HB := bdn HB
  refine start_ (n := 14) (S := fun w' => True) (ds := []) #[false, false, false, false, false, false, false, false, false, false, false, false, false, false] (by kernel_rfl) rfl rfl trivial (fun hHeld => ?_); refine with_tabW grids_lead.tab1 grids_lead.bits1 (fun HT_ HW_ => ?_)
  generalize w8.drew = w9 at BK160 BK161 BK162 HB hHeld ⊢
  refine pz 0 7 HT_ ?_
  refine pz 2 9 HT_ ?_
  refine pz 5 12 HT_ ?_
  refine pz 7 14 HT_ ?_
  refine inv_at [1, 3, 4, 6, 8, 9, 10, 11, 12, 13] (fun a0_ b a w' => ∃ (gb163 : Nat) (gb164 : Nat) (m10_ : Value) (m11_ : Value), a = putSel a0_ b [(1, 8, .int .i64 a1_0), (3, 10, .int .i64 a1_2), (4, 11, .agg #[.int .i64 a1_0, .int .i64 a1_2]), (6, 13, .int .i64 a1_1), (8, 15, .int .i64 a1_3), (9, 16, .agg #[.int .i64 a1_1, .int .i64 a1_3]), (10, 5, m10_), (11, 6, m11_)] ∧ (w'.heap[gb160]? = some (.cells #[.int .i64 a0_0, .int .i64 a0_1, .int .i64 a0_2] 23 (0, 0))) ∧ (w'.heap[gb161]? = some (.cells #[.int .i64 a1_0, .int .i64 a1_1, .int .i64 a1_2, .int .i64 a1_3] 25 (0, 0))) ∧ (w'.heap[gb162]? = some (.cells #[.int .i64 0, .int .i64 0, .int .i64 0] 23 (0, 0))) ∧ (Below w.heap.size w w') ∧ (b 10 = true → b 11 = true → gb164 ≠ gb163) ∧ (b 10 = true → b 11 = true → gb163 ≠ gb164) ∧ (b 10 = true → b 12 = false → w'.heap[gb163]? = some (.cells #[.int .i64 0, .int .i64 0] 81 (0, 0))) ∧ (b 10 = true → w.heap.size ≤ gb163) ∧ (b 10 = true → w.heap.size ≤ gb163) ∧ (b 10 = true → gb160 ≠ gb163) ∧ (b 10 = true → gb163 ≠ gb160) ∧ (b 10 = true → gb161 ≠ gb163) ∧ (b 10 = true → gb163 ≠ gb161) ∧ (b 10 = true → gb162 ≠ gb163) ∧ (b 10 = true → gb163 ≠ gb162) ∧ (b 11 = true → b 13 = false → w'.heap[gb164]? = some (.cells #[.int .i64 0, .int .i64 0] 81 (0, 0))) ∧ (b 11 = true → w.heap.size ≤ gb164) ∧ (b 11 = true → w.heap.size ≤ gb164) ∧ (b 11 = true → gb160 ≠ gb164) ∧ (b 11 = true → gb164 ≠ gb160) ∧ (b 11 = true → gb161 ≠ gb164) ∧ (b 11 = true → gb164 ≠ gb161) ∧ (b 11 = true → gb162 ≠ gb164) ∧ (b 11 = true → gb164 ≠ gb162) ∧ (b 12 = true → w'.heap[gb163]? = some (.cells #[.int .i64 a1_0, .int .i64 a1_2] 81 (0, 0))) ∧ (b 13 = true → w'.heap[gb164]? = some (.cells #[.int .i64 a1_1, .int .i64 a1_3] 81 (0, 0))) ∧ (b 10 = true → (m10_ : Value) = .pointer (some ⟨gb163, 0, none⟩)) ∧ (b 11 = true → (m11_ : Value) = .pointer (some ⟨gb164, 0, none⟩))) HT_.out HW_.out (by kernel_rfl) (by kernel_rfl) ?_ ?_ ?_
  · exact ⟨0, 0, .bool false, .bool false, by simp only [putSel, Bool.false_eq_true, if_false], BK160.out, BK161.out, BK162.out, HB.out, fun h_ => absurd h_ (by decide), fun h_ => absurd h_ (by decide), fun h_ => absurd h_ (by decide), fun h_ => absurd h_ (by decide), fun h_ => absurd h_ (by decide), fun h_ => absurd h_ (by decide), fun h_ => absurd h_ (by decide), fun h_ => absurd h_ (by decide), fun h_ => absurd h_ (by decide), fun h_ => absurd h_ (by decide), fun h_ => absurd h_ (by decide), fun h_ => absurd h_ (by decide), fun h_ => absurd h_ (by decide), fun h_ => absurd h_ (by decide), fun h_ => absurd h_ (by decide), fun h_ => absurd h_ (by decide), fun h_ => absurd h_ (by decide), fun h_ => absurd h_ (by decide), fun h_ => absurd h_ (by decide), fun h_ => absurd h_ (by decide), fun h_ => absurd h_ (by decide), fun h_ => absurd h_ (by decide), fun h_ => absurd h_ (by decide), fun h_ => absurd h_ (by decide)⟩
  · skip
    clear BK160 BK161 BK162 HB
    refine steps_cons ?_ ?_
    · rintro b a w' ⟨gb163, gb164, m10_, m11_, ha, Q_BK160, Q_BK161, Q_BK162, Q_HB, Q_NB164_163, Q_NB163_164, Q_BK163, Q_GW163, Q_GE163, Q_NB160_163, Q_NB163_160, Q_NB161_163, Q_NB163_161, Q_NB162_163, Q_NB163_162, Q_BK164, Q_GW164, Q_GE164, Q_NB160_164, Q_NB164_160, Q_NB161_164, Q_NB164_161, Q_NB162_164, Q_NB164_162, Q_BK163_e12, Q_BK164_e13, Q_X10_, Q_X11_⟩ hb_ hon hoff
      refine ⟨_, rfl, fun K hK => ?_⟩
      have e7 : a.tmps[7]? = some (.pointer (some ⟨gb161, 0, none⟩)) := by rw [ha]; exact (putSel_off rfl).trans rfl
      replace ha := Aside0.mk ha
      have BK160 := Aside0.mk Q_BK160
      have BK161 := Aside0.mk Q_BK161
      have BK162 := Aside0.mk Q_BK162
      have HB := Aside0.mk Q_HB
      have hc0_ : w'.cell? ⟨gb161, 0, none⟩ = some (.int .i64 a1_0) := (blk_cell BK161.out 0).trans rfl
      have hc1_ : w'.cell? ⟨gb161, 1, none⟩ = some (.int .i64 a1_1) := (blk_cell BK161.out 1).trans rfl
      have hc2_ : w'.cell? ⟨gb161, 2, none⟩ = some (.int .i64 a1_2) := (blk_cell BK161.out 2).trans rfl
      have hc3_ : w'.cell? ⟨gb161, 3, none⟩ = some (.int .i64 a1_3) := (blk_cell BK161.out 3).trans rfl
      refine value_ (w1 := w') (v := .int .i64 a1_0) (by rfl) rfl ?_ ?_
      · go_simp
        (try simp only [i64_w])
        try rfl
      refine hK.out _ _ ⟨gb163, gb164, m10_, m11_, (by rw [ha.out]; exact putSel_upk 0 hb_ rfl rfl rfl), Q_BK160, Q_BK161, Q_BK162, Q_HB, Q_NB164_163, Q_NB163_164, Q_BK163, Q_GW163, Q_GE163, Q_NB160_163, Q_NB163_160, Q_NB161_163, Q_NB163_161, Q_NB162_163, Q_NB163_162, Q_BK164, Q_GW164, Q_GE164, Q_NB160_164, Q_NB164_160, Q_NB161_164, Q_NB164_161, Q_NB162_164, Q_NB164_162, fun h0_ => absurd ((hoff 12 (by kernel_rfl)).symm.trans h0_) (by decide), fun h0_ => absurd ((hoff 13 (by kernel_rfl)).symm.trans h0_) (by decide), Q_X10_, Q_X11_⟩
    refine steps_cons ?_ ?_
    · rintro b a w' ⟨gb163, gb164, m10_, m11_, ha, Q_BK160, Q_BK161, Q_BK162, Q_HB, Q_NB164_163, Q_NB163_164, Q_BK163, Q_GW163, Q_GE163, Q_NB160_163, Q_NB163_160, Q_NB161_163, Q_NB163_161, Q_NB162_163, Q_NB163_162, Q_BK164, Q_GW164, Q_GE164, Q_NB160_164, Q_NB164_160, Q_NB161_164, Q_NB164_161, Q_NB162_164, Q_NB164_162, Q_BK163_e12, Q_BK164_e13, Q_X10_, Q_X11_⟩ hb_ hon hoff
      refine ⟨_, rfl, fun K hK => ?_⟩
      have e9 : a.tmps[9]? = some (.pointer (some ⟨gb161, 2, none⟩)) := by rw [ha]; exact (putSel_off rfl).trans rfl
      replace ha := Aside0.mk ha
      have BK160 := Aside0.mk Q_BK160
      have BK161 := Aside0.mk Q_BK161
      have BK162 := Aside0.mk Q_BK162
      have HB := Aside0.mk Q_HB
      have hc0_ : w'.cell? ⟨gb161, 0, none⟩ = some (.int .i64 a1_0) := (blk_cell BK161.out 0).trans rfl
      have hc1_ : w'.cell? ⟨gb161, 1, none⟩ = some (.int .i64 a1_1) := (blk_cell BK161.out 1).trans rfl
      have hc2_ : w'.cell? ⟨gb161, 2, none⟩ = some (.int .i64 a1_2) := (blk_cell BK161.out 2).trans rfl
      have hc3_ : w'.cell? ⟨gb161, 3, none⟩ = some (.int .i64 a1_3) := (blk_cell BK161.out 3).trans rfl
      refine value_ (w1 := w') (v := .int .i64 a1_2) (by rfl) rfl ?_ ?_
      · go_simp
        (try simp only [i64_w])
        try rfl
      refine hK.out _ _ ⟨gb163, gb164, m10_, m11_, (by rw [ha.out]; exact putSel_upk 1 hb_ rfl rfl rfl), Q_BK160, Q_BK161, Q_BK162, Q_HB, Q_NB164_163, Q_NB163_164, Q_BK163, Q_GW163, Q_GE163, Q_NB160_163, Q_NB163_160, Q_NB161_163, Q_NB163_161, Q_NB162_163, Q_NB163_162, Q_BK164, Q_GW164, Q_GE164, Q_NB160_164, Q_NB164_160, Q_NB161_164, Q_NB164_161, Q_NB162_164, Q_NB164_162, fun h0_ => absurd ((hoff 12 (by kernel_rfl)).symm.trans h0_) (by decide), fun h0_ => absurd ((hoff 13 (by kernel_rfl)).symm.trans h0_) (by decide), Q_X10_, Q_X11_⟩
    refine steps_cons ?_ ?_
    · rintro b a w' ⟨gb163, gb164, m10_, m11_, ha, Q_BK160, Q_BK161, Q_BK162, Q_HB, Q_NB164_163, Q_NB163_164, Q_BK163, Q_GW163, Q_GE163, Q_NB160_163, Q_NB163_160, Q_NB161_163, Q_NB163_161, Q_NB162_163, Q_NB163_162, Q_BK164, Q_GW164, Q_GE164, Q_NB160_164, Q_NB164_160, Q_NB161_164, Q_NB164_161, Q_NB162_164, Q_NB164_162, Q_BK163_e12, Q_BK164_e13, Q_X10_, Q_X11_⟩ hb_ hon hoff
      refine ⟨_, rfl, fun K hK => ?_⟩
      have e8 : a.tmps[8]? = some (.int .i64 a1_0) := by rw [ha]; exact putSel_on (e := (1, 8, .int .i64 a1_0)) 0 rfl rfl (hon 1 (by kernel_rfl)) rfl
      have e10 : a.tmps[10]? = some (.int .i64 a1_2) := by rw [ha]; exact putSel_on (e := (3, 10, .int .i64 a1_2)) 1 rfl rfl (hon 3 (by kernel_rfl)) rfl
      replace ha := Aside0.mk ha
      have BK160 := Aside0.mk Q_BK160
      have BK161 := Aside0.mk Q_BK161
      have BK162 := Aside0.mk Q_BK162
      have HB := Aside0.mk Q_HB
      refine value_ (w1 := w') (v := .agg #[.int .i64 a1_0, .int .i64 a1_2]) (by rfl) rfl ?_ ?_
      · go_simp
        (try simp only [i64_w])
        try rfl
      refine hK.out _ _ ⟨gb163, gb164, m10_, m11_, (by rw [ha.out]; exact putSel_upk 2 hb_ rfl rfl rfl), Q_BK160, Q_BK161, Q_BK162, Q_HB, Q_NB164_163, Q_NB163_164, Q_BK163, Q_GW163, Q_GE163, Q_NB160_163, Q_NB163_160, Q_NB161_163, Q_NB163_161, Q_NB162_163, Q_NB163_162, Q_BK164, Q_GW164, Q_GE164, Q_NB160_164, Q_NB164_160, Q_NB161_164, Q_NB164_161, Q_NB162_164, Q_NB164_162, fun h0_ => absurd ((hoff 12 (by kernel_rfl)).symm.trans h0_) (by decide), fun h0_ => absurd ((hoff 13 (by kernel_rfl)).symm.trans h0_) (by decide), Q_X10_, Q_X11_⟩
    refine steps_cons ?_ ?_
    · rintro b a w' ⟨gb163, gb164, m10_, m11_, ha, Q_BK160, Q_BK161, Q_BK162, Q_HB, Q_NB164_163, Q_NB163_164, Q_BK163, Q_GW163, Q_GE163, Q_NB160_163, Q_NB163_160, Q_NB161_163, Q_NB163_161, Q_NB162_163, Q_NB163_162, Q_BK164, Q_GW164, Q_GE164, Q_NB160_164, Q_NB164_160, Q_NB161_164, Q_NB164_161, Q_NB162_164, Q_NB164_162, Q_BK163_e12, Q_BK164_e13, Q_X10_, Q_X11_⟩ hb_ hon hoff
      refine ⟨_, rfl, fun K hK => ?_⟩
      have e12 : a.tmps[12]? = some (.pointer (some ⟨gb161, 1, none⟩)) := by rw [ha]; exact (putSel_off rfl).trans rfl
      replace ha := Aside0.mk ha
      have BK160 := Aside0.mk Q_BK160
      have BK161 := Aside0.mk Q_BK161
      have BK162 := Aside0.mk Q_BK162
      have HB := Aside0.mk Q_HB
      have hc0_ : w'.cell? ⟨gb161, 0, none⟩ = some (.int .i64 a1_0) := (blk_cell BK161.out 0).trans rfl
      have hc1_ : w'.cell? ⟨gb161, 1, none⟩ = some (.int .i64 a1_1) := (blk_cell BK161.out 1).trans rfl
      have hc2_ : w'.cell? ⟨gb161, 2, none⟩ = some (.int .i64 a1_2) := (blk_cell BK161.out 2).trans rfl
      have hc3_ : w'.cell? ⟨gb161, 3, none⟩ = some (.int .i64 a1_3) := (blk_cell BK161.out 3).trans rfl
      refine value_ (w1 := w') (v := .int .i64 a1_1) (by rfl) rfl ?_ ?_
      · go_simp
        (try simp only [i64_w])
        try rfl
      refine hK.out _ _ ⟨gb163, gb164, m10_, m11_, (by rw [ha.out]; exact putSel_upk 3 hb_ rfl rfl rfl), Q_BK160, Q_BK161, Q_BK162, Q_HB, Q_NB164_163, Q_NB163_164, Q_BK163, Q_GW163, Q_GE163, Q_NB160_163, Q_NB163_160, Q_NB161_163, Q_NB163_161, Q_NB162_163, Q_NB163_162, Q_BK164, Q_GW164, Q_GE164, Q_NB160_164, Q_NB164_160, Q_NB161_164, Q_NB164_161, Q_NB162_164, Q_NB164_162, Q_BK163_e12, fun h0_ => absurd ((hoff 13 (by kernel_rfl)).symm.trans h0_) (by decide), Q_X10_, Q_X11_⟩
    refine steps_cons ?_ ?_
    · rintro b a w' ⟨gb163, gb164, m10_, m11_, ha, Q_BK160, Q_BK161, Q_BK162, Q_HB, Q_NB164_163, Q_NB163_164, Q_BK163, Q_GW163, Q_GE163, Q_NB160_163, Q_NB163_160, Q_NB161_163, Q_NB163_161, Q_NB162_163, Q_NB163_162, Q_BK164, Q_GW164, Q_GE164, Q_NB160_164, Q_NB164_160, Q_NB161_164, Q_NB164_161, Q_NB162_164, Q_NB164_162, Q_BK163_e12, Q_BK164_e13, Q_X10_, Q_X11_⟩ hb_ hon hoff
      refine ⟨_, rfl, fun K hK => ?_⟩
      have e14 : a.tmps[14]? = some (.pointer (some ⟨gb161, 3, none⟩)) := by rw [ha]; exact (putSel_off rfl).trans rfl
      replace ha := Aside0.mk ha
      have BK160 := Aside0.mk Q_BK160
      have BK161 := Aside0.mk Q_BK161
      have BK162 := Aside0.mk Q_BK162
      have HB := Aside0.mk Q_HB
      have hc0_ : w'.cell? ⟨gb161, 0, none⟩ = some (.int .i64 a1_0) := (blk_cell BK161.out 0).trans rfl
      have hc1_ : w'.cell? ⟨gb161, 1, none⟩ = some (.int .i64 a1_1) := (blk_cell BK161.out 1).trans rfl
      have hc2_ : w'.cell? ⟨gb161, 2, none⟩ = some (.int .i64 a1_2) := (blk_cell BK161.out 2).trans rfl
      have hc3_ : w'.cell? ⟨gb161, 3, none⟩ = some (.int .i64 a1_3) := (blk_cell BK161.out 3).trans rfl
      refine value_ (w1 := w') (v := .int .i64 a1_3) (by rfl) rfl ?_ ?_
      · go_simp
        (try simp only [i64_w])
        try rfl
      refine hK.out _ _ ⟨gb163, gb164, m10_, m11_, (by rw [ha.out]; exact putSel_upk 4 hb_ rfl rfl rfl), Q_BK160, Q_BK161, Q_BK162, Q_HB, Q_NB164_163, Q_NB163_164, Q_BK163, Q_GW163, Q_GE163, Q_NB160_163, Q_NB163_160, Q_NB161_163, Q_NB163_161, Q_NB162_163, Q_NB163_162, Q_BK164, Q_GW164, Q_GE164, Q_NB160_164, Q_NB164_160, Q_NB161_164, Q_NB164_161, Q_NB162_164, Q_NB164_162, Q_BK163_e12, fun h0_ => absurd ((hoff 13 (by kernel_rfl)).symm.trans h0_) (by decide), Q_X10_, Q_X11_⟩
    refine steps_cons ?_ ?_
    · rintro b a w' ⟨gb163, gb164, m10_, m11_, ha, Q_BK160, Q_BK161, Q_BK162, Q_HB, Q_NB164_163, Q_NB163_164, Q_BK163, Q_GW163, Q_GE163, Q_NB160_163, Q_NB163_160, Q_NB161_163, Q_NB163_161, Q_NB162_163, Q_NB163_162, Q_BK164, Q_GW164, Q_GE164, Q_NB160_164, Q_NB164_160, Q_NB161_164, Q_NB164_161, Q_NB162_164, Q_NB164_162, Q_BK163_e12, Q_BK164_e13, Q_X10_, Q_X11_⟩ hb_ hon hoff
      refine ⟨_, rfl, fun K hK => ?_⟩
      have e13 : a.tmps[13]? = some (.int .i64 a1_1) := by rw [ha]; exact putSel_on (e := (6, 13, .int .i64 a1_1)) 3 rfl rfl (hon 6 (by kernel_rfl)) rfl
      have e15 : a.tmps[15]? = some (.int .i64 a1_3) := by rw [ha]; exact putSel_on (e := (8, 15, .int .i64 a1_3)) 4 rfl rfl (hon 8 (by kernel_rfl)) rfl
      replace ha := Aside0.mk ha
      have BK160 := Aside0.mk Q_BK160
      have BK161 := Aside0.mk Q_BK161
      have BK162 := Aside0.mk Q_BK162
      have HB := Aside0.mk Q_HB
      refine value_ (w1 := w') (v := .agg #[.int .i64 a1_1, .int .i64 a1_3]) (by rfl) rfl ?_ ?_
      · go_simp
        (try simp only [i64_w])
        try rfl
      refine hK.out _ _ ⟨gb163, gb164, m10_, m11_, (by rw [ha.out]; exact putSel_upk 5 hb_ rfl rfl rfl), Q_BK160, Q_BK161, Q_BK162, Q_HB, Q_NB164_163, Q_NB163_164, Q_BK163, Q_GW163, Q_GE163, Q_NB160_163, Q_NB163_160, Q_NB161_163, Q_NB163_161, Q_NB162_163, Q_NB163_162, Q_BK164, Q_GW164, Q_GE164, Q_NB160_164, Q_NB164_160, Q_NB161_164, Q_NB164_161, Q_NB162_164, Q_NB164_162, Q_BK163_e12, fun h0_ => absurd ((hoff 13 (by kernel_rfl)).symm.trans h0_) (by decide), Q_X10_, Q_X11_⟩
    refine steps_cons ?_ ?_
    · rintro b a w' ⟨gb163, gb164, m10_, m11_, ha, Q_BK160, Q_BK161, Q_BK162, Q_HB, Q_NB164_163, Q_NB163_164, Q_BK163, Q_GW163, Q_GE163, Q_NB160_163, Q_NB163_160, Q_NB161_163, Q_NB163_161, Q_NB162_163, Q_NB163_162, Q_BK164, Q_GW164, Q_GE164, Q_NB160_164, Q_NB164_160, Q_NB161_164, Q_NB164_161, Q_NB162_164, Q_NB164_162, Q_BK163_e12, Q_BK164_e13, Q_X10_, Q_X11_⟩ hb_ hon hoff
      refine ⟨_, rfl, fun K hK => ?_⟩
      replace ha := Aside0.mk ha
      have BK160 := Aside0.mk Q_BK160
      have BK161 := Aside0.mk Q_BK161
      have BK162 := Aside0.mk Q_BK162
      have HB := Aside0.mk Q_HB
      refine box_step ?hg (N := 5) ?hd (cs := #[.int .i64 0, .int .i64 0]) (t := 81) ?hr ?_; (case hd => rfl); (case hg => rfl); (case hr => first | (go_simp; done) | (go_simp; rfl))
      intro gb163 hg w10 hbox hb
      have n0_ := bb BK160 hb
      have n1_ := bb BK161 hb
      have n2_ := bb BK162 hb
      have n3_ := bst HB hb
      have n4_ := Aside0.mk (hbox)
      have n5_ := gw hg HB
      have n6_ := gw hg HB
      have n7_ := nlt hg BK160
      have n8_ := ngt hg BK160
      have n9_ := nlt hg BK161
      have n10_ := ngt hg BK161
      have n11_ := nlt hg BK162
      have n12_ := ngt hg BK162
      have z_NB164_163 := fun (h0_ : up b 10 10 = true) (h1_ : up b 10 11 = true) => (show gb164 ≠ gb163 from (by cases hb_ : b 13 with | false => exact ((by rw [hg]; exact Nat.ne_of_lt (blk_lt (g := gb164) (o := .cells #[.int .i64 0, .int .i64 0] 81 (0, 0)) (by (with_reducible repeat (first | refine blk_drewN ?_ _ | refine blk_drew ?_ | refine blk_alloc ?_ _)); exact (Q_BK164 h1_ hb_))) : gb164 ≠ gb163)) | true => exact ((by rw [hg]; exact Nat.ne_of_lt (blk_lt (g := gb164) (by (with_reducible repeat (first | refine blk_drewN ?_ _ | refine blk_drew ?_ | refine blk_alloc ?_ _)); exact (Q_BK164_e13 hb_))) : gb164 ≠ gb163))))
      have z_NB163_164 := fun (h0_ : up b 10 10 = true) (h1_ : up b 10 11 = true) => (show gb163 ≠ gb164 from (by cases hb_ : b 13 with | false => exact ((by rw [hg]; exact Nat.ne_of_gt (blk_lt (g := gb164) (o := .cells #[.int .i64 0, .int .i64 0] 81 (0, 0)) (by (with_reducible repeat (first | refine blk_drewN ?_ _ | refine blk_drew ?_ | refine blk_alloc ?_ _)); exact (Q_BK164 h1_ hb_))) : gb163 ≠ gb164)) | true => exact ((by rw [hg]; exact Nat.ne_of_gt (blk_lt (g := gb164) (by (with_reducible repeat (first | refine blk_drewN ?_ _ | refine blk_drew ?_ | refine blk_alloc ?_ _)); exact (Q_BK164_e13 hb_))) : gb163 ≠ gb164))))
      have z_BK164 := fun (h0_ : b 11 = true) (h1_ : b 13 = false) => (show w10.heap[gb164]? = some (.cells #[.int .i64 0, .int .i64 0] 81 (0, 0)) from by first | exact (blk_below (g := gb164) (o := .cells #[.int .i64 0, .int .i64 0] 81 (0, 0)) (by (with_reducible repeat (first | refine blk_drewN ?_ _ | refine blk_drew ?_ | refine blk_alloc ?_ _)); exact (Q_BK164 h0_ h1_)) hb))
      clear BK160
      clear BK161
      clear BK162
      clear HB
      have BK160 := n0_
      have BK161 := n1_
      have BK162 := n2_
      have HB := n3_
      have BK163 := n4_
      have GW163 := n5_
      have GE163 := n6_
      have NB160_163 := n7_
      have NB163_160 := n8_
      have NB161_163 := n9_
      have NB163_161 := n10_
      have NB162_163 := n11_
      have NB163_162 := n12_
      clear n0_ n1_ n2_ n3_ n4_ n5_ n6_ n7_ n8_ n9_ n10_ n11_ n12_
      clear hb hg
      refine hK.out _ _ ⟨gb163, gb164, (.pointer (some ⟨gb163, 0, none⟩)), m11_, (by rw [ha.out]; exact putSel_upk 6 hb_ rfl rfl rfl), (pk BK160), (pk BK161), (pk BK162), (bnow HB), z_NB164_163, z_NB163_164, fun _ _ => (pk BK163), fun _ => GW163.out, fun _ => GE163.out, fun _ => NB160_163.out, fun _ => NB163_160.out, fun _ => NB161_163.out, fun _ => NB163_161.out, fun _ => NB162_163.out, fun _ => NB163_162.out, z_BK164, Q_GW164, Q_GE164, Q_NB160_164, Q_NB164_160, Q_NB161_164, Q_NB164_161, Q_NB162_164, Q_NB164_162, fun h0_ => absurd ((hoff 12 (by kernel_rfl)).symm.trans h0_) (by decide), fun h0_ => absurd ((hoff 13 (by kernel_rfl)).symm.trans h0_) (by decide), fun _ => rfl, Q_X11_⟩
    refine steps_cons ?_ ?_
    · rintro b a w' ⟨gb163, gb164, m10_, m11_, ha, Q_BK160, Q_BK161, Q_BK162, Q_HB, Q_NB164_163, Q_NB163_164, Q_BK163, Q_GW163, Q_GE163, Q_NB160_163, Q_NB163_160, Q_NB161_163, Q_NB163_161, Q_NB162_163, Q_NB163_162, Q_BK164, Q_GW164, Q_GE164, Q_NB160_164, Q_NB164_160, Q_NB161_164, Q_NB164_161, Q_NB162_164, Q_NB164_162, Q_BK163_e12, Q_BK164_e13, Q_X10_, Q_X11_⟩ hb_ hon hoff
      refine ⟨_, rfl, fun K hK => ?_⟩
      replace ha := Aside0.mk ha
      have BK160 := Aside0.mk Q_BK160
      have BK161 := Aside0.mk Q_BK161
      have BK162 := Aside0.mk Q_BK162
      have HB := Aside0.mk Q_HB
      refine box_step ?hg (N := 6) ?hd (cs := #[.int .i64 0, .int .i64 0]) (t := 81) ?hr ?_; (case hd => rfl); (case hg => rfl); (case hr => first | (go_simp; done) | (go_simp; rfl))
      intro gb164 hg w10 hbox hb
      have n0_ := bb BK160 hb
      have n1_ := bb BK161 hb
      have n2_ := bb BK162 hb
      have n3_ := bst HB hb
      have n4_ := Aside0.mk (hbox)
      have n5_ := gw hg HB
      have n6_ := gw hg HB
      have n7_ := nlt hg BK160
      have n8_ := ngt hg BK160
      have n9_ := nlt hg BK161
      have n10_ := ngt hg BK161
      have n11_ := nlt hg BK162
      have n12_ := ngt hg BK162
      have z_NB164_163 := fun (h0_ : up b 11 10 = true) (h1_ : up b 11 11 = true) => (show gb164 ≠ gb163 from (by cases hb_ : b 12 with | false => exact ((by rw [hg]; exact Nat.ne_of_gt (blk_lt (g := gb163) (o := .cells #[.int .i64 0, .int .i64 0] 81 (0, 0)) (by (with_reducible repeat (first | refine blk_drewN ?_ _ | refine blk_drew ?_ | refine blk_alloc ?_ _)); exact (Q_BK163 h0_ hb_))) : gb164 ≠ gb163)) | true => exact ((by rw [hg]; exact Nat.ne_of_gt (blk_lt (g := gb163) (by (with_reducible repeat (first | refine blk_drewN ?_ _ | refine blk_drew ?_ | refine blk_alloc ?_ _)); exact (Q_BK163_e12 hb_))) : gb164 ≠ gb163))))
      have z_NB163_164 := fun (h0_ : up b 11 10 = true) (h1_ : up b 11 11 = true) => (show gb163 ≠ gb164 from (by cases hb_ : b 12 with | false => exact ((by rw [hg]; exact Nat.ne_of_lt (blk_lt (g := gb163) (o := .cells #[.int .i64 0, .int .i64 0] 81 (0, 0)) (by (with_reducible repeat (first | refine blk_drewN ?_ _ | refine blk_drew ?_ | refine blk_alloc ?_ _)); exact (Q_BK163 h0_ hb_))) : gb163 ≠ gb164)) | true => exact ((by rw [hg]; exact Nat.ne_of_lt (blk_lt (g := gb163) (by (with_reducible repeat (first | refine blk_drewN ?_ _ | refine blk_drew ?_ | refine blk_alloc ?_ _)); exact (Q_BK163_e12 hb_))) : gb163 ≠ gb164))))
      have z_BK163 := fun (h0_ : b 10 = true) (h1_ : b 12 = false) => (show w10.heap[gb163]? = some (.cells #[.int .i64 0, .int .i64 0] 81 (0, 0)) from by first | exact (blk_below (g := gb163) (o := .cells #[.int .i64 0, .int .i64 0] 81 (0, 0)) (by (with_reducible repeat (first | refine blk_drewN ?_ _ | refine blk_drew ?_ | refine blk_alloc ?_ _)); exact (Q_BK163 h0_ h1_)) hb))
      clear BK160
      clear BK161
      clear BK162
      clear HB
      have BK160 := n0_
      have BK161 := n1_
      have BK162 := n2_
      have HB := n3_
      have BK164 := n4_
      have GW164 := n5_
      have GE164 := n6_
      have NB160_164 := n7_
      have NB164_160 := n8_
      have NB161_164 := n9_
      have NB164_161 := n10_
      have NB162_164 := n11_
      have NB164_162 := n12_
      clear n0_ n1_ n2_ n3_ n4_ n5_ n6_ n7_ n8_ n9_ n10_ n11_ n12_
      clear hb hg
      refine hK.out _ _ ⟨gb163, gb164, m10_, (.pointer (some ⟨gb164, 0, none⟩)), (by rw [ha.out]; exact putSel_upk 7 hb_ rfl rfl rfl), (pk BK160), (pk BK161), (pk BK162), (bnow HB), z_NB164_163, z_NB163_164, z_BK163, Q_GW163, Q_GE163, Q_NB160_163, Q_NB163_160, Q_NB161_163, Q_NB163_161, Q_NB162_163, Q_NB163_162, fun _ _ => (pk BK164), fun _ => GW164.out, fun _ => GE164.out, fun _ => NB160_164.out, fun _ => NB164_160.out, fun _ => NB161_164.out, fun _ => NB164_161.out, fun _ => NB162_164.out, fun _ => NB164_162.out, fun h0_ => absurd ((hoff 12 (by kernel_rfl)).symm.trans h0_) (by decide), fun h0_ => absurd ((hoff 13 (by kernel_rfl)).symm.trans h0_) (by decide), Q_X10_, fun _ => rfl⟩
    refine steps_cons ?_ ?_
    · rintro b a w' ⟨gb163, gb164, m10_, m11_, ha, Q_BK160, Q_BK161, Q_BK162, Q_HB, Q_NB164_163, Q_NB163_164, Q_BK163, Q_GW163, Q_GE163, Q_NB160_163, Q_NB163_160, Q_NB161_163, Q_NB163_161, Q_NB162_163, Q_NB163_162, Q_BK164, Q_GW164, Q_GE164, Q_NB160_164, Q_NB164_160, Q_NB161_164, Q_NB164_161, Q_NB162_164, Q_NB164_162, Q_BK163_e12, Q_BK164_e13, Q_X10_, Q_X11_⟩ hb_ hon hoff
      refine ⟨_, rfl, fun K hK => ?_⟩
      have e5 : a.tmps[5]? = some (m10_) := by rw [ha]; exact putSel_on (e := (10, 5, m10_)) 6 rfl rfl (hon 10 (by kernel_rfl)) rfl
      rw [Q_X10_ (hon 10 (by kernel_rfl))] at e5
      have e11 : a.tmps[11]? = some (.agg #[.int .i64 a1_0, .int .i64 a1_2]) := by rw [ha]; exact putSel_on (e := (4, 11, .agg #[.int .i64 a1_0, .int .i64 a1_2])) 2 rfl rfl (hon 4 (by kernel_rfl)) rfl
      replace ha := Aside0.mk ha
      have BK160 := Aside0.mk Q_BK160
      have BK161 := Aside0.mk Q_BK161
      have BK162 := Aside0.mk Q_BK162
      have HB := Aside0.mk Q_HB
      have NB164_163 := Aside0.mk (Q_NB164_163 (hon 10 (by kernel_rfl)) (hon 11 (by kernel_rfl)))
      have NB163_164 := Aside0.mk (Q_NB163_164 (hon 10 (by kernel_rfl)) (hon 11 (by kernel_rfl)))
      have BK163 := Aside0.mk (Q_BK163 (hon 10 (by kernel_rfl)) hb_)
      have GW163 := Aside0.mk (Q_GW163 (hon 10 (by kernel_rfl)))
      have GE163 := Aside0.mk (Q_GE163 (hon 10 (by kernel_rfl)))
      have NB160_163 := Aside0.mk (Q_NB160_163 (hon 10 (by kernel_rfl)))
      have NB163_160 := Aside0.mk (Q_NB163_160 (hon 10 (by kernel_rfl)))
      have NB161_163 := Aside0.mk (Q_NB161_163 (hon 10 (by kernel_rfl)))
      have NB163_161 := Aside0.mk (Q_NB163_161 (hon 10 (by kernel_rfl)))
      have NB162_163 := Aside0.mk (Q_NB162_163 (hon 10 (by kernel_rfl)))
      have NB163_162 := Aside0.mk (Q_NB163_162 (hon 10 (by kernel_rfl)))
      have BK164 := Aside0.mk (Q_BK164 (hon 11 (by kernel_rfl)) (hoff 13 (by kernel_rfl)))
      have GW164 := Aside0.mk (Q_GW164 (hon 11 (by kernel_rfl)))
      have GE164 := Aside0.mk (Q_GE164 (hon 11 (by kernel_rfl)))
      have NB160_164 := Aside0.mk (Q_NB160_164 (hon 11 (by kernel_rfl)))
      have NB164_160 := Aside0.mk (Q_NB164_160 (hon 11 (by kernel_rfl)))
      have NB161_164 := Aside0.mk (Q_NB161_164 (hon 11 (by kernel_rfl)))
      have NB164_161 := Aside0.mk (Q_NB164_161 (hon 11 (by kernel_rfl)))
      have NB162_164 := Aside0.mk (Q_NB162_164 (hon 11 (by kernel_rfl)))
      have NB164_162 := Aside0.mk (Q_NB164_162 (hon 11 (by kernel_rfl)))
      have hs13 : w'.cell? ⟨gb163, 0, none⟩ = some (.int .i64 0) := (blk_cell BK163.out 0).trans rfl
      have hfs13 := blk_frozen BK163.out 0
      have hns13_0 := NB160_163.out
      have hns13_1 := NB161_163.out
      have hns13_2 := NB162_163.out
      have hns13_4 := NB164_163.out
      have hms13_0 := NB163_160.out
      have hms13_1 := NB163_161.out
      have hms13_2 := NB163_162.out
      have hms13_4 := NB163_164.out
      have hs14 : w'.cell? ⟨gb163, 1, none⟩ = some (.int .i64 0) := (blk_cell BK163.out 1).trans rfl
      have hfs14 := blk_frozen BK163.out 1
      have hns14_0 := NB160_163.out
      have hns14_1 := NB161_163.out
      have hns14_2 := NB162_163.out
      have hns14_4 := NB164_163.out
      have hms14_0 := NB163_160.out
      have hms14_1 := NB163_161.out
      have hms14_2 := NB163_162.out
      have hms14_4 := NB163_164.out
      refine skip_ (w1 := ?_) (by rfl) rfl ?_ ?_
      rotate_left
      · go_simp
        rfl
      refine hK.out _ _ ⟨gb163, gb164, m10_, m11_, (by rw [ha.out]; exact putSel_none (v := undef) rfl), (by (with_reducible repeat (first | refine blk_drewN ?_ _ | refine blk_drew ?_ | refine blk_alloc ?_ _)); refine blk_far ?_ NB160_163.out _; (with_reducible repeat (first | refine blk_drewN ?_ _ | refine blk_drew ?_ | refine blk_alloc ?_ _)); refine blk_far ?_ NB160_163.out _; (with_reducible repeat (first | refine blk_drewN ?_ _ | refine blk_drew ?_ | refine blk_alloc ?_ _)); exact BK160.out), (by (with_reducible repeat (first | refine blk_drewN ?_ _ | refine blk_drew ?_ | refine blk_alloc ?_ _)); refine blk_far ?_ NB161_163.out _; (with_reducible repeat (first | refine blk_drewN ?_ _ | refine blk_drew ?_ | refine blk_alloc ?_ _)); refine blk_far ?_ NB161_163.out _; (with_reducible repeat (first | refine blk_drewN ?_ _ | refine blk_drew ?_ | refine blk_alloc ?_ _)); exact BK161.out), (by (with_reducible repeat (first | refine blk_drewN ?_ _ | refine blk_drew ?_ | refine blk_alloc ?_ _)); refine blk_far ?_ NB162_163.out _; (with_reducible repeat (first | refine blk_drewN ?_ _ | refine blk_drew ?_ | refine blk_alloc ?_ _)); refine blk_far ?_ NB162_163.out _; (with_reducible repeat (first | refine blk_drewN ?_ _ | refine blk_drew ?_ | refine blk_alloc ?_ _)); exact BK162.out), (bnow HB), fun _ _ => NB164_163.out, fun _ _ => NB163_164.out, fun _ h1_ => absurd ((up_self b 12).symm.trans h1_) (by decide), fun _ => GW163.out, fun _ => GE163.out, fun _ => NB160_163.out, fun _ => NB163_160.out, fun _ => NB161_163.out, fun _ => NB163_161.out, fun _ => NB162_163.out, fun _ => NB163_162.out, fun _ _ => (by (with_reducible repeat (first | refine blk_drewN ?_ _ | refine blk_drew ?_ | refine blk_alloc ?_ _)); refine blk_far ?_ NB164_163.out _; (with_reducible repeat (first | refine blk_drewN ?_ _ | refine blk_drew ?_ | refine blk_alloc ?_ _)); refine blk_far ?_ NB164_163.out _; (with_reducible repeat (first | refine blk_drewN ?_ _ | refine blk_drew ?_ | refine blk_alloc ?_ _)); exact BK164.out), fun _ => GW164.out, fun _ => GE164.out, fun _ => NB160_164.out, fun _ => NB164_160.out, fun _ => NB161_164.out, fun _ => NB164_161.out, fun _ => NB162_164.out, fun _ => NB164_162.out, fun _ => (by (with_reducible repeat (first | refine blk_drewN ?_ _ | refine blk_drew ?_ | refine blk_alloc ?_ _)); refine blk_put (cs := #[.int .i64 a1_0, .int .i64 0]) ?_ 1 _ rfl; (with_reducible repeat (first | refine blk_drewN ?_ _ | refine blk_drew ?_ | refine blk_alloc ?_ _)); refine blk_put (cs := #[.int .i64 0, .int .i64 0]) ?_ 0 _ rfl; (with_reducible repeat (first | refine blk_drewN ?_ _ | refine blk_drew ?_ | refine blk_alloc ?_ _)); exact BK163.out), fun h0_ => absurd ((hoff 13 (by kernel_rfl)).symm.trans h0_) (by decide), Q_X10_, Q_X11_⟩
    refine steps_cons ?_ ?_
    · rintro b a w' ⟨gb163, gb164, m10_, m11_, ha, Q_BK160, Q_BK161, Q_BK162, Q_HB, Q_NB164_163, Q_NB163_164, Q_BK163, Q_GW163, Q_GE163, Q_NB160_163, Q_NB163_160, Q_NB161_163, Q_NB163_161, Q_NB162_163, Q_NB163_162, Q_BK164, Q_GW164, Q_GE164, Q_NB160_164, Q_NB164_160, Q_NB161_164, Q_NB164_161, Q_NB162_164, Q_NB164_162, Q_BK163_e12, Q_BK164_e13, Q_X10_, Q_X11_⟩ hb_ hon hoff
      refine ⟨_, rfl, fun K hK => ?_⟩
      have e6 : a.tmps[6]? = some (m11_) := by rw [ha]; exact putSel_on (e := (11, 6, m11_)) 7 rfl rfl (hon 11 (by kernel_rfl)) rfl
      rw [Q_X11_ (hon 11 (by kernel_rfl))] at e6
      have e16 : a.tmps[16]? = some (.agg #[.int .i64 a1_1, .int .i64 a1_3]) := by rw [ha]; exact putSel_on (e := (9, 16, .agg #[.int .i64 a1_1, .int .i64 a1_3])) 5 rfl rfl (hon 9 (by kernel_rfl)) rfl
      replace ha := Aside0.mk ha
      have BK160 := Aside0.mk Q_BK160
      have BK161 := Aside0.mk Q_BK161
      have BK162 := Aside0.mk Q_BK162
      have HB := Aside0.mk Q_HB
      have NB164_163 := Aside0.mk (Q_NB164_163 (hon 10 (by kernel_rfl)) (hon 11 (by kernel_rfl)))
      have NB163_164 := Aside0.mk (Q_NB163_164 (hon 10 (by kernel_rfl)) (hon 11 (by kernel_rfl)))
      have GW163 := Aside0.mk (Q_GW163 (hon 10 (by kernel_rfl)))
      have GE163 := Aside0.mk (Q_GE163 (hon 10 (by kernel_rfl)))
      have NB160_163 := Aside0.mk (Q_NB160_163 (hon 10 (by kernel_rfl)))
      have NB163_160 := Aside0.mk (Q_NB163_160 (hon 10 (by kernel_rfl)))
      have NB161_163 := Aside0.mk (Q_NB161_163 (hon 10 (by kernel_rfl)))
      have NB163_161 := Aside0.mk (Q_NB163_161 (hon 10 (by kernel_rfl)))
      have NB162_163 := Aside0.mk (Q_NB162_163 (hon 10 (by kernel_rfl)))
      have NB163_162 := Aside0.mk (Q_NB163_162 (hon 10 (by kernel_rfl)))
      have BK164 := Aside0.mk (Q_BK164 (hon 11 (by kernel_rfl)) hb_)
      have GW164 := Aside0.mk (Q_GW164 (hon 11 (by kernel_rfl)))
      have GE164 := Aside0.mk (Q_GE164 (hon 11 (by kernel_rfl)))
      have NB160_164 := Aside0.mk (Q_NB160_164 (hon 11 (by kernel_rfl)))
      have NB164_160 := Aside0.mk (Q_NB164_160 (hon 11 (by kernel_rfl)))
      have NB161_164 := Aside0.mk (Q_NB161_164 (hon 11 (by kernel_rfl)))
      have NB164_161 := Aside0.mk (Q_NB164_161 (hon 11 (by kernel_rfl)))
      have NB162_164 := Aside0.mk (Q_NB162_164 (hon 11 (by kernel_rfl)))
      have NB164_162 := Aside0.mk (Q_NB164_162 (hon 11 (by kernel_rfl)))
      have BK163 := Aside0.mk (Q_BK163_e12 (hon 12 (by kernel_rfl)))
      have hs15 : w'.cell? ⟨gb164, 0, none⟩ = some (.int .i64 0) := (blk_cell BK164.out 0).trans rfl
      have hfs15 := blk_frozen BK164.out 0
      have hns15_0 := NB160_164.out
      have hns15_1 := NB161_164.out
      have hns15_2 := NB162_164.out
      have hns15_3 := NB163_164.out
      have hms15_0 := NB164_160.out
      have hms15_1 := NB164_161.out
      have hms15_2 := NB164_162.out
      have hms15_3 := NB164_163.out
      have hs16 : w'.cell? ⟨gb164, 1, none⟩ = some (.int .i64 0) := (blk_cell BK164.out 1).trans rfl
      have hfs16 := blk_frozen BK164.out 1
      have hns16_0 := NB160_164.out
      have hns16_1 := NB161_164.out
      have hns16_2 := NB162_164.out
      have hns16_3 := NB163_164.out
      have hms16_0 := NB164_160.out
      have hms16_1 := NB164_161.out
      have hms16_2 := NB164_162.out
      have hms16_3 := NB164_163.out
      refine skip_ (w1 := ?_) (by rfl) rfl ?_ ?_
      rotate_left
      · go_simp
        rfl
      refine hK.out _ _ ⟨gb163, gb164, m10_, m11_, (by rw [ha.out]; exact putSel_none (v := undef) rfl), (by (with_reducible repeat (first | refine blk_drewN ?_ _ | refine blk_drew ?_ | refine blk_alloc ?_ _)); refine blk_far ?_ NB160_164.out _; (with_reducible repeat (first | refine blk_drewN ?_ _ | refine blk_drew ?_ | refine blk_alloc ?_ _)); refine blk_far ?_ NB160_164.out _; (with_reducible repeat (first | refine blk_drewN ?_ _ | refine blk_drew ?_ | refine blk_alloc ?_ _)); exact BK160.out), (by (with_reducible repeat (first | refine blk_drewN ?_ _ | refine blk_drew ?_ | refine blk_alloc ?_ _)); refine blk_far ?_ NB161_164.out _; (with_reducible repeat (first | refine blk_drewN ?_ _ | refine blk_drew ?_ | refine blk_alloc ?_ _)); refine blk_far ?_ NB161_164.out _; (with_reducible repeat (first | refine blk_drewN ?_ _ | refine blk_drew ?_ | refine blk_alloc ?_ _)); exact BK161.out), (by (with_reducible repeat (first | refine blk_drewN ?_ _ | refine blk_drew ?_ | refine blk_alloc ?_ _)); refine blk_far ?_ NB162_164.out _; (with_reducible repeat (first | refine blk_drewN ?_ _ | refine blk_drew ?_ | refine blk_alloc ?_ _)); refine blk_far ?_ NB162_164.out _; (with_reducible repeat (first | refine blk_drewN ?_ _ | refine blk_drew ?_ | refine blk_alloc ?_ _)); exact BK162.out), (bnow HB), fun _ _ => NB164_163.out, fun _ _ => NB163_164.out, fun _ h1_ => absurd ((hon 12 (by kernel_rfl)).symm.trans h1_) (by decide), fun _ => GW163.out, fun _ => GE163.out, fun _ => NB160_163.out, fun _ => NB163_160.out, fun _ => NB161_163.out, fun _ => NB163_161.out, fun _ => NB162_163.out, fun _ => NB163_162.out, fun _ h1_ => absurd ((up_self b 13).symm.trans h1_) (by decide), fun _ => GW164.out, fun _ => GE164.out, fun _ => NB160_164.out, fun _ => NB164_160.out, fun _ => NB161_164.out, fun _ => NB164_161.out, fun _ => NB162_164.out, fun _ => NB164_162.out, fun _ => (by (with_reducible repeat (first | refine blk_drewN ?_ _ | refine blk_drew ?_ | refine blk_alloc ?_ _)); refine blk_far ?_ NB163_164.out _; (with_reducible repeat (first | refine blk_drewN ?_ _ | refine blk_drew ?_ | refine blk_alloc ?_ _)); refine blk_far ?_ NB163_164.out _; (with_reducible repeat (first | refine blk_drewN ?_ _ | refine blk_drew ?_ | refine blk_alloc ?_ _)); exact BK163.out), fun _ => (by (with_reducible repeat (first | refine blk_drewN ?_ _ | refine blk_drew ?_ | refine blk_alloc ?_ _)); refine blk_put (cs := #[.int .i64 a1_1, .int .i64 0]) ?_ 1 _ rfl; (with_reducible repeat (first | refine blk_drewN ?_ _ | refine blk_drew ?_ | refine blk_alloc ?_ _)); refine blk_put (cs := #[.int .i64 0, .int .i64 0]) ?_ 0 _ rfl; (with_reducible repeat (first | refine blk_drewN ?_ _ | refine blk_drew ?_ | refine blk_alloc ?_ _)); exact BK164.out), Q_X10_, Q_X11_⟩
    exact steps_nil
  rintro b a w16 hall ⟨gb163, gb164, m10_, m11_, ha, Q_BK160, Q_BK161, Q_BK162, Q_HB, Q_NB164_163, Q_NB163_164, Q_BK163, Q_GW163, Q_GE163, Q_NB160_163, Q_NB163_160, Q_NB161_163, Q_NB163_161, Q_NB162_163, Q_NB163_162, Q_BK164, Q_GW164, Q_GE164, Q_NB160_164, Q_NB164_160, Q_NB161_164, Q_NB164_161, Q_NB162_164, Q_NB164_162, Q_BK163_e12, Q_BK164_e13, Q_X10_, Q_X11_⟩
  clear BK160 BK161 BK162 HB
  have hb1_ := hall 1 (by kernel_rfl)
  have hb3_ := hall 3 (by kernel_rfl)
  have hb4_ := hall 4 (by kernel_rfl)
  have hb6_ := hall 6 (by kernel_rfl)
  have hb8_ := hall 8 (by kernel_rfl)
  have hb9_ := hall 9 (by kernel_rfl)
  have hb10_ := hall 10 (by kernel_rfl)
  have hb11_ := hall 11 (by kernel_rfl)
  have hb12_ := hall 12 (by kernel_rfl)
  have hb13_ := hall 13 (by kernel_rfl)
  subst ha
  obtain rfl := Q_X10_ hb10_
  obtain rfl := Q_X11_ hb11_
  simp only [putSel, hb1_, hb3_, hb4_, hb6_, hb8_, hb9_, hb10_, hb11_, hb12_, hb13_, if_true, Act.put, List.setIfInBounds_toArray, List.set_cons_zero, List.set_cons_succ]
  have BK160 := Aside0.mk Q_BK160
  clear Q_BK160
  have BK161 := Aside0.mk Q_BK161
  clear Q_BK161
  have BK162 := Aside0.mk Q_BK162
  clear Q_BK162
  have HB := Aside0.mk Q_HB
  clear Q_HB
  have NB164_163 := Aside0.mk (Q_NB164_163 hb10_ hb11_)
  clear Q_NB164_163
  have NB163_164 := Aside0.mk (Q_NB163_164 hb10_ hb11_)
  clear Q_NB163_164
  clear Q_BK163
  have GW163 := Aside0.mk (Q_GW163 hb10_)
  clear Q_GW163
  have GE163 := Aside0.mk (Q_GE163 hb10_)
  clear Q_GE163
  have NB160_163 := Aside0.mk (Q_NB160_163 hb10_)
  clear Q_NB160_163
  have NB163_160 := Aside0.mk (Q_NB163_160 hb10_)
  clear Q_NB163_160
  have NB161_163 := Aside0.mk (Q_NB161_163 hb10_)
  clear Q_NB161_163
  have NB163_161 := Aside0.mk (Q_NB163_161 hb10_)
  clear Q_NB163_161
  have NB162_163 := Aside0.mk (Q_NB162_163 hb10_)
  clear Q_NB162_163
  have NB163_162 := Aside0.mk (Q_NB163_162 hb10_)
  clear Q_NB163_162
  clear Q_BK164
  have GW164 := Aside0.mk (Q_GW164 hb11_)
  clear Q_GW164
  have GE164 := Aside0.mk (Q_GE164 hb11_)
  clear Q_GE164
  have NB160_164 := Aside0.mk (Q_NB160_164 hb11_)
  clear Q_NB160_164
  have NB164_160 := Aside0.mk (Q_NB164_160 hb11_)
  clear Q_NB164_160
  have NB161_164 := Aside0.mk (Q_NB161_164 hb11_)
  clear Q_NB161_164
  have NB164_161 := Aside0.mk (Q_NB164_161 hb11_)
  clear Q_NB164_161
  have NB162_164 := Aside0.mk (Q_NB162_164 hb11_)
  clear Q_NB162_164
  have NB164_162 := Aside0.mk (Q_NB164_162 hb11_)
  clear Q_NB164_162
  have BK163 := Aside0.mk (Q_BK163_e12 hb12_)
  clear Q_BK163_e12
  have BK164 := Aside0.mk (Q_BK164_e13 hb13_)
  clear Q_BK164_e13
  clear hall hb1_ hb3_ hb4_ hb6_ hb8_ hb9_ hb10_ hb11_ hb12_ hb13_
  try go_wp2
  replace BK160 := bd BK160
  replace BK161 := bd BK161
  replace BK162 := bd BK162
  replace BK163 := bd BK163
  replace BK164 := bd BK164
  replace HB := bdn HB
  refine start_ (n := 14) (S := fun w' => w'.cell? ⟨gb163, 0, none⟩ = some (.int .i64 a1_0) ∧ w'.cell? ⟨gb163, 1, none⟩ = some (.int .i64 a1_2) ∧ w'.cell? ⟨gb160, 0, none⟩ = some (.int .i64 a0_0) ∧ w'.cell? ⟨gb160, 1, none⟩ = some (.int .i64 a0_1) ∧ w'.cell? ⟨gb160, 2, none⟩ = some (.int .i64 a0_2) ∧ w'.cell? ⟨gb164, 0, none⟩ = some (.int .i64 a1_1) ∧ w'.cell? ⟨gb164, 1, none⟩ = some (.int .i64 a1_3)) (ds := []) #[false, false, false, false, false, false, false, false, false, false, false, false, false, false] (by kernel_rfl) rfl rfl ⟨(blk_cell BK163.out 0).trans rfl, (blk_cell BK163.out 1).trans rfl, (blk_cell BK160.out 0).trans rfl, (blk_cell BK160.out 1).trans rfl, (blk_cell BK160.out 2).trans rfl, (blk_cell BK164.out 0).trans rfl, (blk_cell BK164.out 1).trans rfl⟩ (fun hHeld => ?_); refine with_tabW grids_lead.tab2 grids_lead.bits2 (fun HT_ HW_ => ?_)
  generalize w16.drew = w17 at BK160 BK161 BK162 BK163 BK164 HB hHeld ⊢
  refine tz 0 17 HT_ HW_ hHeld ?_
  refine tz 1 18 HT_ HW_ hHeld ?_
  refine tz 2 19 HT_ HW_ hHeld ?_
  refine tz 4 21 HT_ HW_ hHeld ?_
  refine tz 5 22 HT_ HW_ hHeld ?_
  refine tz 6 23 HT_ HW_ hHeld ?_
  refine tz 8 25 HT_ HW_ hHeld ?_
  refine tz 9 26 HT_ HW_ hHeld ?_
  refine tz 10 27 HT_ HW_ hHeld ?_
  refine one_ (i := 3) (N := some 20) #[true, true, true, true, true, true, true, false, true, true, true, false, false, false] rfl rfl (one_of HT_.out (by kernel_rfl)) (by decide) (fun K hK => ?_)
  refine gs _ Try.func80 (grids_step_product.calls a1_0 a1_2 a0_0 a0_1 a0_2 a1_0 a1_2 t165 _ A3.out) ?_
  rintro e w18 ⟨rfl, hb⟩
  refine ⟨_, rfl, ?_⟩
  replace BK160 := bb BK160 hb
  replace BK161 := bb BK161 hb
  replace BK162 := bb BK162 hb
  replace BK163 := bb BK163 hb
  replace BK164 := bb BK164 hb
  replace HB := bst HB hb
  (try clear hb)
  (try clear hb2)
  (try clear hk)
  (try clear hi)
  refine hK.out _ _ ⟨(blk_cell BK163.out 0).trans rfl, (blk_cell BK163.out 1).trans rfl, (blk_cell BK160.out 0).trans rfl, (blk_cell BK160.out 1).trans rfl, (blk_cell BK160.out 2).trans rfl, (blk_cell BK164.out 0).trans rfl, (blk_cell BK164.out 1).trans rfl⟩ (fun hHeld => ?_)
  clear hK K
  refine norm_ (a' := ?_) ?_ ?_
  rotate_left
  · show Act.put _ (some 20) _ = _
    simp only [Act.put, List.setIfInBounds_toArray, List.set_cons_zero, List.set_cons_succ, i64_w, i32_w]
    rfl
  refine one_ (i := 7) (N := some 24) #[true, true, true, true, true, true, true, true, true, true, true, false, false, false] rfl rfl (one_of HT_.out (by kernel_rfl)) (by decide) (fun K hK => ?_)
  refine gs _ Try.func80 (grids_step_product.calls a1_0 a1_2 a0_0 a0_1 a0_2 a1_1 a1_3 t166 _ A4.out) ?_
  rintro e w19 ⟨rfl, hb⟩
  refine ⟨_, rfl, ?_⟩
  replace BK160 := bb BK160 hb
  replace BK161 := bb BK161 hb
  replace BK162 := bb BK162 hb
  replace BK163 := bb BK163 hb
  replace BK164 := bb BK164 hb
  replace HB := bst HB hb
  (try clear hb)
  (try clear hb2)
  (try clear hk)
  (try clear hi)
  refine hK.out _ _ ⟨(blk_cell BK163.out 0).trans rfl, (blk_cell BK163.out 1).trans rfl, (blk_cell BK160.out 0).trans rfl, (blk_cell BK160.out 1).trans rfl, (blk_cell BK160.out 2).trans rfl, (blk_cell BK164.out 0).trans rfl, (blk_cell BK164.out 1).trans rfl⟩ (fun hHeld => ?_)
  clear hK K
  refine norm_ (a' := ?_) ?_ ?_
  rotate_left
  · show Act.put _ (some 24) _ = _
    simp only [Act.put, List.setIfInBounds_toArray, List.set_cons_zero, List.set_cons_succ, i64_w, i32_w]
    rfl
  refine one_ (i := 11) (N := some 28) #[true, true, true, true, true, true, true, true, true, true, true, true, false, false] rfl rfl (one_of HT_.out (by kernel_rfl)) (by decide) (fun K hK => ?_)
  refine gs _ Try.func80 (grids_step_product.calls a1_1 a1_3 a0_0 a0_1 a0_2 a1_1 a1_3 t167 _ A5.out) ?_
  rintro e w20 ⟨rfl, hb⟩
  refine ⟨_, rfl, ?_⟩
  replace BK160 := bb BK160 hb
  replace BK161 := bb BK161 hb
  replace BK162 := bb BK162 hb
  replace BK163 := bb BK163 hb
  replace BK164 := bb BK164 hb
  replace HB := bst HB hb
  (try clear hb)
  (try clear hb2)
  (try clear hk)
  (try clear hi)
  refine hK.out _ _ ⟨(blk_cell BK163.out 0).trans rfl, (blk_cell BK163.out 1).trans rfl, (blk_cell BK160.out 0).trans rfl, (blk_cell BK160.out 1).trans rfl, (blk_cell BK160.out 2).trans rfl, (blk_cell BK164.out 0).trans rfl, (blk_cell BK164.out 1).trans rfl⟩ (fun hHeld => ?_)
  clear hK K
  refine norm_ (a' := ?_) ?_ ?_
  rotate_left
  · show Act.put _ (some 28) _ = _
    simp only [Act.put, List.setIfInBounds_toArray, List.set_cons_zero, List.set_cons_succ, i64_w, i32_w]
    rfl
  refine pz 12 29 HT_ ?_
  refine one_ (i := 13) (N := none) #[true, true, true, true, true, true, true, true, true, true, true, true, true, true] rfl rfl (one_of HT_.out (by kernel_rfl)) (by decide) (fun K hK => ?_)
  have hs21 : w20.cell? ⟨gb162, 0, none⟩ = some (.int .i64 0) := (blk_cell BK162.out 0).trans rfl
  have hfs21 := blk_frozen BK162.out 0
  have hns21_0 := NB160_162.out
  have hns21_1 := NB161_162.out
  have hns21_3 := NB163_162.out
  have hns21_4 := NB164_162.out
  have hms21_0 := NB162_160.out
  have hms21_1 := NB162_161.out
  have hms21_3 := NB162_163.out
  have hms21_4 := NB162_164.out
  have hs22 : w20.cell? ⟨gb162, 1, none⟩ = some (.int .i64 0) := (blk_cell BK162.out 1).trans rfl
  have hfs22 := blk_frozen BK162.out 1
  have hns22_0 := NB160_162.out
  have hns22_1 := NB161_162.out
  have hns22_3 := NB163_162.out
  have hns22_4 := NB164_162.out
  have hms22_0 := NB162_160.out
  have hms22_1 := NB162_161.out
  have hms22_3 := NB162_163.out
  have hms22_4 := NB162_164.out
  have hs23 : w20.cell? ⟨gb162, 2, none⟩ = some (.int .i64 0) := (blk_cell BK162.out 2).trans rfl
  have hfs23 := blk_frozen BK162.out 2
  have hns23_0 := NB160_162.out
  have hns23_1 := NB161_162.out
  have hns23_3 := NB163_162.out
  have hns23_4 := NB164_162.out
  have hms23_0 := NB162_160.out
  have hms23_1 := NB162_161.out
  have hms23_3 := NB162_163.out
  have hms23_4 := NB162_164.out
  refine skip_ (w1 := ?_) (by rfl) rfl ?_ ?_
  rotate_left
  · go_simp
    rfl
  refine hK.out _ _ ⟨((cell_far (p := ⟨gb162, _, none⟩) NB163_162.out _).trans (((cell_far (p := ⟨gb162, _, none⟩) NB163_162.out _).trans (((cell_far (p := ⟨gb162, _, none⟩) NB163_162.out _).trans (hHeld.1)))))), ((cell_far (p := ⟨gb162, _, none⟩) NB163_162.out _).trans (((cell_far (p := ⟨gb162, _, none⟩) NB163_162.out _).trans (((cell_far (p := ⟨gb162, _, none⟩) NB163_162.out _).trans (hHeld.2.1)))))), ((cell_far (p := ⟨gb162, _, none⟩) NB160_162.out _).trans (((cell_far (p := ⟨gb162, _, none⟩) NB160_162.out _).trans (((cell_far (p := ⟨gb162, _, none⟩) NB160_162.out _).trans (hHeld.2.2.1)))))), ((cell_far (p := ⟨gb162, _, none⟩) NB160_162.out _).trans (((cell_far (p := ⟨gb162, _, none⟩) NB160_162.out _).trans (((cell_far (p := ⟨gb162, _, none⟩) NB160_162.out _).trans (hHeld.2.2.2.1)))))), ((cell_far (p := ⟨gb162, _, none⟩) NB160_162.out _).trans (((cell_far (p := ⟨gb162, _, none⟩) NB160_162.out _).trans (((cell_far (p := ⟨gb162, _, none⟩) NB160_162.out _).trans (hHeld.2.2.2.2.1)))))), ((cell_far (p := ⟨gb162, _, none⟩) NB164_162.out _).trans (((cell_far (p := ⟨gb162, _, none⟩) NB164_162.out _).trans (((cell_far (p := ⟨gb162, _, none⟩) NB164_162.out _).trans (hHeld.2.2.2.2.2.1)))))), ((cell_far (p := ⟨gb162, _, none⟩) NB164_162.out _).trans (((cell_far (p := ⟨gb162, _, none⟩) NB164_162.out _).trans (((cell_far (p := ⟨gb162, _, none⟩) NB164_162.out _).trans (hHeld.2.2.2.2.2.2))))))⟩ (fun hHeld => ?_)
  clear hK K
  refine done_ (done_of HT_.out (by kernel_rfl)) ?_
  try go_wp2
  refine bodyPost_ret (results_cell_row rfl _ _ gb162 23 #[.int .i64 t165, .int .i64 t166, .int .i64 t167] (0, 0) _ rfl (by (with_reducible repeat (first | refine blk_drewN ?_ _ | refine blk_drew ?_ | refine blk_alloc ?_ _)); refine blk_put (cs := #[.int .i64 t165, .int .i64 t166, .int .i64 0]) ?_ 2 _ rfl; (with_reducible repeat (first | refine blk_drewN ?_ _ | refine blk_drew ?_ | refine blk_alloc ?_ _)); refine blk_put (cs := #[.int .i64 t165, .int .i64 0, .int .i64 0]) ?_ 1 _ rfl; (with_reducible repeat (first | refine blk_drewN ?_ _ | refine blk_drew ?_ | refine blk_alloc ?_ _)); refine blk_put (cs := #[.int .i64 0, .int .i64 0, .int .i64 0]) ?_ 0 _ rfl; (with_reducible repeat (first | refine blk_drewN ?_ _ | refine blk_drew ?_ | refine blk_alloc ?_ _)); exact BK162.out) Try.underlying23 rfl (by kernel_rfl)) rfl ?_
  exact rt HB
end
section
attribute [local go_sem high] eqA23
/-! ### grids_group: function 39 -/
def grids_group.l0 : Nat → List (S25) → Int → Int → Int → Int → Option ((List (S25)))
  | 0, _, _, _, _, _ => none
  | k + 1, x3, x6, x169000, x169001, x169002 => if x6 < 81 then ((some (Int.tmod x6 3)).bind fun z169 => ((some (wrap64 (z169 - 1))).bind fun z170 => ((some (wrap64 (Int.tdiv x6 3))).bind fun z171 => ((some (Int.tmod z171 3)).bind fun z172 => ((some (wrap64 (z172 - 1))).bind fun z173 => ((some (wrap64 (Int.tdiv x6 9))).bind fun z174 => ((some (Int.tmod z174 3)).bind fun z175 => ((some (wrap64 (z175 - 1))).bind fun z176 => ((some (wrap64 (Int.tdiv x6 27))).bind fun z177 => ((some (wrap64 (z177 - 1))).bind fun z178 => ((grids_lead.f x169000 x169001 x169002 z170 z173 z176 z178).bind fun bt180 => (if (bt180.1 == x169000 && (bt180.2.1 == x169001 && (bt180.2.2 == x169002))) = true then (if x3.length < 4398046511104 then ((some (wrap64 (x6 + 1))).bind fun z186 => (grids_group.l0 k (x3 ++ [(⟨z170, z173, z176, z178⟩ : S25)]) z186 x169000 x169001 x169002)) else (none)) else ((some (wrap64 (x6 + 1))).bind fun z187 => (grids_group.l0 k x3 z187 x169000 x169001 x169002)))))))))))))) else (some x3)
def grids_group.f (k : Nat) (a0_0 : Int) (a0_1 : Int) (a0_2 : Int) : Option ((List (S25))) := grids_group.l0 k ([] : List (S25)) 0 a0_0 a0_1 a0_2
theorem grids_group.mono_l : ∀ k, (∀ y0 y1 y2 y3 y4, LeO (grids_group.l0 k y0 y1 y2 y3 y4) (grids_group.l0 (k + 1) y0 y1 y2 y3 y4))
  | 0 => fun _ _ _ _ _ r h => by simp [grids_group.l0] at h
  | k + 1 => by
    have ih0 := grids_group.mono_l k
    · intro y0 y1 y2 y3 y4
      unfold grids_group.l0
      repeat' first
      | (with_reducible exact ih0 _ _ _ _ _)
      | (with_reducible exact LeO.refl _)
      | (with_reducible exact LeO.none _)
      | (with_reducible refine LeO.ite ?_ ?_)
      | (with_reducible refine LeO.bind ?_ (fun _ => ?_))
      | exact ih0 _ _ _ _ _
      | exact LeO.none _
      | refine LeO.ite ?_ ?_
      | refine LeO.bind ?_ (fun _ => ?_)
theorem grids_group.mono : ∀ a0 a1 a2 k, LeO (grids_group.f k a0 a1 a2) (grids_group.f (k + 1) a0 a1 a2) := by
  intro a0 a1 a2 k
  have ih0 := grids_group.mono_l k
  unfold grids_group.f
  repeat' first
      | (with_reducible exact ih0 _ _ _ _ _)
      | (with_reducible exact LeO.refl _)
      | (with_reducible exact LeO.none _)
      | (with_reducible refine LeO.ite ?_ ?_)
      | (with_reducible refine LeO.bind ?_ (fun _ => ?_))
      | exact ih0 _ _ _ _ _
      | exact LeO.none _
      | refine LeO.ite ?_ ?_
      | refine LeO.bind ?_ (fun _ => ?_)
set_option maxHeartbeats 8000000 in
set_option maxRecDepth 100000 in
theorem grids_group.calls (k : Nat) (a0_0 : Int) (a0_1 : Int) (a0_2 : Int) (r : List (S25)) (w : World) (h : grids_group.f k a0_0 a0_1 a0_2 = some r) :
    Calls Try.prog 39 #[.agg #[.int .i64 a0_0, .int .i64 a0_1, .int .i64 a0_2]] w fun e w' => ∃ v0_ : Value, e = .returned (v0_) ∧ Kd.R k25 25 w' w.heap.size (fun _ => True) v0_ r ∧ Below w.heap.size w w' := by
  have hu23 := Try.underlying23
  have hu25 := Try.underlying25
  have HB := Aside0.mk (Below.refl w.heap.size w)
  have H : (grids_group.l0 k ([] : List (S25)) 0 a0_0 a0_1 a0_2) = some r := h
  clear h
  have H' := Aside0.mk H
  clear H
  go_enter Try.func39, Try.ntmps39
  go_wp2_with (first | ((with_reducible refine gate_dst (N := 1) rfl ?_); refine bx 1 #[.int .i64 a0_0, .int .i64 a0_1, .int .i64 a0_2] 23 fun gb168 hg w2 BK168 hb => ?_; have GW168 := gw hg HB; have GE168 := gw hg HB; replace HB := bst HB hb; clear hb hg))
  (try simp only [Act.put, List.setIfInBounds_toArray, List.set_cons_zero, List.set_cons_succ])
  go_loopg [3, 6] k (fun kq v3 v6 w' => ∃ (x3_1 : List (S25)) (x6_1 : Int), v6 = .int .i64 x6_1 ∧ Aside0 (grids_group.l0 kq x3_1 x6_1 a0_0 a0_1 a0_2 = some r) ∧ Aside0 (kq ≤ k) ∧ Aside0 (Kd.R k25 25 w' w.heap.size (fun _ => True) v3 x3_1) ∧ Aside0 (w'.heap[gb168]? = some (.cells #[.int .i64 a0_0, .int .i64 a0_1, .int .i64 a0_2] 23 (0, 0))) ∧ Aside0 (Below w.heap.size w w'))
  case atStart => exact ⟨(([] : List (S25))), (0), (by first | rfl | (simp; done) | (simp [*]; done)), H', ⟨Nat.le_refl _⟩, ⟨by first | exact Kd.R_nil _ _ _ _ _ | exact Kd.N_nil _ _ _ _ _ | exact Kd.V_nil _ _ _ _ _ | exact Kd.Q_nil _ _ _ _ _ | exact Kd.S_nil _ _ _ _ _⟩, ⟨pk BK168⟩, ⟨bnow HB⟩⟩
  case round =>
    clear H'
    try clear p2
    obtain ⟨x3_1, x6_1, rfl, HA, HK1, HO_3, BK168, HB⟩ := hrel
    cases gk with
    | zero => exact absurd HA.out (by simp [grids_group.l0])
    | succ k1 =>
      have H := HA.out
      clear HA
      simp only [grids_group.l0] at H
      by_cases c3 : x6_1 < 81
      · rw [if_pos c3] at H
        have c3b0 : decide (x6_1 < 81) = true := decide_eq_true c3
        clear c3
        obtain ⟨z169, E40, H⟩ := oc H
        obtain ⟨z170, E50, H⟩ := oc H
        have E5w : (IntKind.i64.wrap (z169 - 1)) = z170 := (i64_w _).trans E50
        obtain ⟨z171, E60, H⟩ := oc H
        have E6w : (IntKind.i64.wrap (Int.tdiv x6_1 3)) = z171 := (i64_w _).trans E60
        obtain ⟨z172, E70, H⟩ := oc H
        obtain ⟨z173, E80, H⟩ := oc H
        have E8w : (IntKind.i64.wrap (z172 - 1)) = z173 := (i64_w _).trans E80
        obtain ⟨z174, E90, H⟩ := oc H
        have E9w : (IntKind.i64.wrap (Int.tdiv x6_1 9)) = z174 := (i64_w _).trans E90
        obtain ⟨z175, E100, H⟩ := oc H
        obtain ⟨z176, E110, H⟩ := oc H
        have E11w : (IntKind.i64.wrap (z175 - 1)) = z176 := (i64_w _).trans E110
        obtain ⟨z177, E120, H⟩ := oc H
        have E12w : (IntKind.i64.wrap (Int.tdiv x6_1 27)) = z177 := (i64_w _).trans E120
        obtain ⟨z178, E130, H⟩ := oc H
        have E13w : (IntKind.i64.wrap (z177 - 1)) = z178 := (i64_w _).trans E130
        obtain ⟨⟨t180, t181, t182⟩, A14, H⟩ := ob H
        by_cases c15 : (t180 == a0_0 && (t181 == a0_1 && (t182 == a0_2))) = true
        · rw [if_pos c15] at H
          have c15b0 : (t180 == a0_0 && (t181 == a0_1 && (t182 == a0_2))) = true := c15
          (try (have c15b1 : decide (t180 = a0_0 && (t181 == a0_1 && (t182 == a0_2))) = true := by simpa using c15))
          (try (have c15b2 : (t180 == a0_0 && (t181 == a0_1 && (t182 == a0_2))) = true := by simpa using c15))
          clear c15
          by_cases c16 : x3_1.length < 4398046511104
          · rw [if_pos c16] at H
            have LMc16 := Aside0.mk c16
            clear c16
            obtain ⟨y183, hy183⟩ : ∃ y_ : List (S25), y_ = (x3_1 ++ [(⟨z170, z173, z176, z178⟩ : S25)]) := ⟨_, rfl⟩
            replace H : ((some (wrap64 (x6_1 + 1))).bind fun z186 => (grids_group.l0 k1 y183 z186 a0_0 a0_1 a0_2)) = some r := by first | (rw [hy183]; with_reducible exact H) | (have H2_ := (Option.bind_some _ _).symm.trans H; rw [hy183]; with_reducible exact H2_) | (have H2_ := (Option.bind_some _ _).symm.trans H; with_reducible exact H2_) | with_reducible exact H | (rw [hy183]; exact H) | exact H
            have Ny183 := Aside0.mk hy183
            clear hy183
            obtain ⟨z186, E170, H⟩ := oc H
            have E17w : (IntKind.i64.wrap (x6_1 + 1)) = z186 := (i64_w _).trans E170
            have H' := Aside0.mk H
            clear H
            try go_wp2_with (first | ((with_reducible refine gate_dst (N := 5) rfl ?_); refine box_event ?hg (N := 5) ?hd (cs := #[.int .i64 0, .int .i64 0, .int .i64 0, .int .i64 0]) (t := 25) ?hr ?_; (case hd => rfl); (case hg => rfl); (case hr => first | (go_simp; done) | (go_simp; rfl)); intro gb179 hg w18 hbox hb; have BK179 := Aside0.mk (hbox); have GW179 := gw hg HB; have GE179 := gw hg HB; have NB168_179 := nlt hg BK168; have NB179_168 := ngt hg BK168; replace HO_3 := Aside0.mk (Kd.R_below (Kd.R_elderB (by (with_reducible repeat (first | apply Kd.R_alloc | apply Kd.R_drewN | apply Kd.R_drew)); exact HO_3.out) gb179 (Nat.le_of_eq hg.symm)) hb); replace BK168 := bb BK168 hb; replace HB := bst HB hb; clear hb hg; have hnb19 := NB179_168.out; have hnc19 := NB168_179.out; have ⟨hcz20_0, hcz20_1, hcz20_2, hcz20_3, hfz20_0, hfz20_1, hfz20_2, hfz20_3⟩ := cf4 BK179) | ((with_reducible refine gate_store (t := 25) (p := 5) rfl ?_); refine sx 25 5 (((((w18.setCell ⟨gb179, 0, none⟩ (.int .i64 z170)).setCell ⟨gb179, 1, none⟩ (.int .i64 z173)).setCell ⟨gb179, 2, none⟩ (.int .i64 z176)).setCell ⟨gb179, 3, none⟩ (.int .i64 z178))) fun w21 hw => ?_; have n0_ : Aside0 (Kd.R k25 25 w21 w.heap.size (fun k_ => k_ ≠ gb179) u3 x3_1) := ⟨(by rw [hw]; exact (by (with_reducible repeat (first | apply Kd.R_alloc | apply Kd.R_drewN | apply Kd.R_drew)); exact Kd.R_mono (Kd.R_far (p := ⟨gb179, 3, none⟩) (Kd.R_far (p := ⟨gb179, 2, none⟩) (Kd.R_far (p := ⟨gb179, 1, none⟩) (Kd.R_far (p := ⟨gb179, 0, none⟩) (Kd.R_mono HO_3.out (fun k_ hk => (⟨hk, hk.2⟩ : _ ∧ k_ ≠ gb179))) (fun _ hk => hk.2) (.int .i64 z170)) (fun _ hk => hk.2) (.int .i64 z173)) (fun _ hk => hk.2) (.int .i64 z176)) (fun _ hk => hk.2) (.int .i64 z178)) (fun _ hk => hk.1.2)))⟩; have n1_ := fw hw BK168; have n2_ := pw4 hw BK179; have n3_ := bw hw HB; clear hw; clear HO_3; clear BK168; clear BK179; clear HB; have HO_3 := n0_; have BK168 := n1_; have BK179 := n2_; have HB := n3_; clear n0_ n1_ n2_ n3_))
            replace HO_3 := Aside0.mk (Kd.R_drew HO_3.out)
            replace BK168 := bd BK168
            replace BK179 := bd BK179
            replace HB := bdn HB
            refine start_ (n := 5) (S := fun w' => w'.cell? ⟨gb168, 0, none⟩ = some (.int .i64 a0_0) ∧ w'.cell? ⟨gb168, 1, none⟩ = some (.int .i64 a0_1) ∧ w'.cell? ⟨gb168, 2, none⟩ = some (.int .i64 a0_2) ∧ w'.cell? ⟨gb179, 0, none⟩ = some (.int .i64 z170) ∧ w'.cell? ⟨gb179, 1, none⟩ = some (.int .i64 z173) ∧ w'.cell? ⟨gb179, 2, none⟩ = some (.int .i64 z176) ∧ w'.cell? ⟨gb179, 3, none⟩ = some (.int .i64 z178)) (ds := []) #[false, false, false, false, false] (by kernel_rfl) rfl rfl ⟨(blk_cell BK168.out 0).trans rfl, (blk_cell BK168.out 1).trans rfl, (blk_cell BK168.out 2).trans rfl, (blk_cell BK179.out 0).trans rfl, (blk_cell BK179.out 1).trans rfl, (blk_cell BK179.out 2).trans rfl, (blk_cell BK179.out 3).trans rfl⟩ (fun hHeld => ?_)
            generalize w21.drew = w22 at HO_3 BK168 BK179 HB hHeld ⊢
            refine take_ (i := 0) (N := some 24) (v := ?_) (a' := ?_) #[true, false, false, false, false] rfl rfl (by kernel_rfl) (fun _ _ _ h => h) (Or.inl ⟨by rfl, ?_⟩) hHeld ?_ ?_
            rotate_left
            · rintro w' ⟨s0, s1, s2, s3, s4, s5, s6⟩
              go_simp
              with_reducible rfl
            rotate_left
            · simp only [Act.put, List.setIfInBounds_toArray, List.set_cons_zero, List.set_cons_succ, i64_w, i32_w]
              rfl
            refine take_ (i := 1) (N := some 25) (v := ?_) (a' := ?_) #[true, true, false, false, false] rfl rfl (by kernel_rfl) (fun _ _ _ h => h) (Or.inl ⟨by rfl, ?_⟩) hHeld ?_ ?_
            rotate_left
            · rintro w' ⟨s0, s1, s2, s3, s4, s5, s6⟩
              go_simp
              with_reducible rfl
            rotate_left
            · simp only [Act.put, List.setIfInBounds_toArray, List.set_cons_zero, List.set_cons_succ, i64_w, i32_w]
              rfl
            refine take_ (i := 3) (N := some 27) (v := ?_) (a' := ?_) #[true, true, false, true, false] rfl rfl (by kernel_rfl) (fun _ _ _ h => h) (Or.inl ⟨by rfl, ?_⟩) hHeld ?_ ?_
            rotate_left
            · rintro w' ⟨s0, s1, s2, s3, s4, s5, s6⟩
              go_simp
              with_reducible rfl
            rotate_left
            · simp only [Act.put, List.setIfInBounds_toArray, List.set_cons_zero, List.set_cons_succ, i64_w, i32_w]
              rfl
            refine one_ (i := 2) (N := some 26) #[true, true, true, true, false] rfl rfl (by kernel_rfl) (by decide) (fun K hK => ?_)
            refine gs _ Try.func60 (grids_lead.calls a0_0 a0_1 a0_2 z170 z173 z176 z178 t180 t181 t182 _ A14.out) ?_
            rintro e w23 ⟨rfl, hb⟩
            refine ⟨_, rfl, ?_⟩
            have n0_ := Aside0.mk (Kd.R_below (by (with_reducible repeat (first | apply Kd.R_alloc | apply Kd.R_drewN | apply Kd.R_drew)); exact HO_3.out) hb)
            have n1_ := bb BK168 hb
            have n2_ := bb BK179 hb
            have n3_ := bst HB hb
            clear HO_3
            clear BK168
            clear BK179
            clear HB
            have HO_3 := n0_
            have BK168 := n1_
            have BK179 := n2_
            have HB := n3_
            clear n0_ n1_ n2_ n3_
            (try clear hb)
            (try clear hb2)
            (try clear hk)
            (try clear hi)
            refine hK.out _ _ ⟨(blk_cell BK168.out 0).trans rfl, (blk_cell BK168.out 1).trans rfl, (blk_cell BK168.out 2).trans rfl, (blk_cell BK179.out 0).trans rfl, (blk_cell BK179.out 1).trans rfl, (blk_cell BK179.out 2).trans rfl, (blk_cell BK179.out 3).trans rfl⟩ (fun hHeld => ?_)
            clear hK K
            refine norm_ (a' := ?_) ?_ ?_
            rotate_left
            · show Act.put _ (some 26) _ = _
              simp only [Act.put, List.setIfInBounds_toArray, List.set_cons_zero, List.set_cons_succ, i64_w, i32_w]
              rfl
            refine pure_ (i := 4) (N := some 28) (v := ?_) (a' := ?_) #[true, true, true, true, true] rfl rfl (by kernel_rfl) (fun _ _ _ h => h) (Or.inl ⟨by rfl, ?_⟩) ?_ ?_
            rotate_left
            · intro w'
              go_simp
              with_reducible rfl
            rotate_left
            · simp only [Act.put, List.setIfInBounds_toArray, List.set_cons_zero, List.set_cons_succ, i64_w, i32_w]
              rfl
            refine done_ (by kernel_rfl) ?_
            have ⟨hcz24_0, hcz24_1, hcz24_2, hcz24_3, hfz24_0, hfz24_1, hfz24_2, hfz24_3⟩ := cf4 BK179
            try go_wp2_with (first | ((with_reducible refine gate_builtin (b := .append) (xs := #[.tmp 29, .tmp 31]) rfl ?_); at_builtin; refine Kd.R_append k25 (w0 := w) w.heap.size rfl (.tmp 29) (.tmp 31) 48 25 (.agg #[(.int .i64 0), (.int .i64 0), (.int .i64 0), (.int .i64 0)]) 32 rfl Try.underlying48 info25 rfl (by decide) (by omega) u3 x3_1 (⟨z170, z173, z176, z178⟩ : S25) [.int .i64 z170, .int .i64 z173, .int .i64 z176, .int .i64 z178] (fun k_ => k_ ≠ gb179) (fun _ => False) rfl rfl ?aP (fun _ hk => hk.elim) ?aF ?aO ?aB ?aS ?aL ?_; (case aP => exact k25_mkM _ _ _ (⟨z170, z173, z176, z178⟩ : S25)); (case aB => exact (bnow HB)); (case aF => exact (fun k_ hk => Kd.freshB (g := gb179) (o := .cells #[.int .i64 z170, .int .i64 z173, .int .i64 z176, .int .i64 z178] 25 (0, 0)) (pk BK179) k_ hk)); (case aO => exact (by (with_reducible repeat (first | apply Kd.R_alloc | apply Kd.R_drewN | apply Kd.R_drew)); exact HO_3.out)); (case aS => exact (below_size (bnow HB))); (case aL => have := LMc16.out; omega); intro v184 w25 ho hb hg hat; rw [← Ny183.out] at ho; have n0_ := Aside0.mk (blk_grown (g := gb168) (o := .cells #[.int .i64 a0_0, .int .i64 a0_1, .int .i64 a0_2] 23 (0, 0)) (pk BK168) hg (Kd.R_ne HO_3.out BK168.out (by decide))); have n1_ := Aside0.mk (blk_grown (g := gb179) (o := .cells #[.int .i64 z170, .int .i64 z173, .int .i64 z176, .int .i64 z178] 25 (0, 0)) (pk BK179) hg (Kd.R_away HO_3.out (fun _ hk => hk))); have n2_ := Aside0.mk (hb); have n3_ := Aside0.mk (ho); clear BK168; clear BK179; clear HB; clear HO_3; have BK168 := n0_; have BK179 := n1_; have HB := n2_; have HO185 := n3_; clear n0_ n1_ n2_ n3_; clear ho hb hg hat))
            go_roundg k1
            case measure => have := HK1.out; omega
            case rel => exact ⟨(y183), (z186), (by first | rfl | (simp; done) | (simp [*]; done)), H', ⟨by have := HK1.out; omega⟩, ⟨by (with_reducible repeat (first | apply Kd.R_alloc | apply Kd.R_drewN | apply Kd.R_drew)); exact Kd.R_mono HO185.out (fun _ hk => trivial)⟩, ⟨pk BK168⟩, ⟨bnow HB⟩⟩
          · rw [if_neg c16] at H
            exact absurd H (by simp)
        · rw [if_neg c15] at H
          have c15b0 : (t180 == a0_0 && (t181 == a0_1 && (t182 == a0_2))) = false := by simpa using c15
          (try (have c15b1 : decide (t180 = a0_0 && (t181 == a0_1 && (t182 == a0_2))) = false := by simpa using c15))
          (try (have c15b2 : (t180 == a0_0 && (t181 == a0_1 && (t182 == a0_2))) = false := by simpa using c15))
          (try (have c15b3 : ¬ (t180 = a0_0 && (t181 == a0_1 && (t182 == a0_2))) := by simpa using c15))
          clear c15
          obtain ⟨z187, E260, H⟩ := oc H
          have E26w : (IntKind.i64.wrap (x6_1 + 1)) = z187 := (i64_w _).trans E260
          have H' := Aside0.mk H
          clear H
          try go_wp2_with (first | ((with_reducible refine gate_dst (N := 5) rfl ?_); refine box_event ?hg (N := 5) ?hd (cs := #[.int .i64 0, .int .i64 0, .int .i64 0, .int .i64 0]) (t := 25) ?hr ?_; (case hd => rfl); (case hg => rfl); (case hr => first | (go_simp; done) | (go_simp; rfl)); intro gb179 hg w27 hbox hb; have BK179 := Aside0.mk (hbox); have GW179 := gw hg HB; have GE179 := gw hg HB; have NB168_179 := nlt hg BK168; have NB179_168 := ngt hg BK168; replace HO_3 := Aside0.mk (Kd.R_below (Kd.R_elderB (by (with_reducible repeat (first | apply Kd.R_alloc | apply Kd.R_drewN | apply Kd.R_drew)); exact HO_3.out) gb179 (Nat.le_of_eq hg.symm)) hb); replace BK168 := bb BK168 hb; replace HB := bst HB hb; clear hb hg; have hnb28 := NB179_168.out; have hnc28 := NB168_179.out; have ⟨hcz29_0, hcz29_1, hcz29_2, hcz29_3, hfz29_0, hfz29_1, hfz29_2, hfz29_3⟩ := cf4 BK179) | ((with_reducible refine gate_store (t := 25) (p := 5) rfl ?_); refine sx 25 5 (((((w27.setCell ⟨gb179, 0, none⟩ (.int .i64 z170)).setCell ⟨gb179, 1, none⟩ (.int .i64 z173)).setCell ⟨gb179, 2, none⟩ (.int .i64 z176)).setCell ⟨gb179, 3, none⟩ (.int .i64 z178))) fun w30 hw => ?_; have n0_ : Aside0 (Kd.R k25 25 w30 w.heap.size (fun k_ => k_ ≠ gb179) u3 x3_1) := ⟨(by rw [hw]; exact (by (with_reducible repeat (first | apply Kd.R_alloc | apply Kd.R_drewN | apply Kd.R_drew)); exact Kd.R_mono (Kd.R_far (p := ⟨gb179, 3, none⟩) (Kd.R_far (p := ⟨gb179, 2, none⟩) (Kd.R_far (p := ⟨gb179, 1, none⟩) (Kd.R_far (p := ⟨gb179, 0, none⟩) (Kd.R_mono HO_3.out (fun k_ hk => (⟨hk, hk.2⟩ : _ ∧ k_ ≠ gb179))) (fun _ hk => hk.2) (.int .i64 z170)) (fun _ hk => hk.2) (.int .i64 z173)) (fun _ hk => hk.2) (.int .i64 z176)) (fun _ hk => hk.2) (.int .i64 z178)) (fun _ hk => hk.1.2)))⟩; have n1_ := fw hw BK168; have n2_ := pw4 hw BK179; have n3_ := bw hw HB; clear hw; clear HO_3; clear BK168; clear BK179; clear HB; have HO_3 := n0_; have BK168 := n1_; have BK179 := n2_; have HB := n3_; clear n0_ n1_ n2_ n3_))
          replace HO_3 := Aside0.mk (Kd.R_drew HO_3.out)
          replace BK168 := bd BK168
          replace BK179 := bd BK179
          replace HB := bdn HB
          refine start_ (n := 5) (S := fun w' => w'.cell? ⟨gb168, 0, none⟩ = some (.int .i64 a0_0) ∧ w'.cell? ⟨gb168, 1, none⟩ = some (.int .i64 a0_1) ∧ w'.cell? ⟨gb168, 2, none⟩ = some (.int .i64 a0_2) ∧ w'.cell? ⟨gb179, 0, none⟩ = some (.int .i64 z170) ∧ w'.cell? ⟨gb179, 1, none⟩ = some (.int .i64 z173) ∧ w'.cell? ⟨gb179, 2, none⟩ = some (.int .i64 z176) ∧ w'.cell? ⟨gb179, 3, none⟩ = some (.int .i64 z178)) (ds := []) #[false, false, false, false, false] (by kernel_rfl) rfl rfl ⟨(blk_cell BK168.out 0).trans rfl, (blk_cell BK168.out 1).trans rfl, (blk_cell BK168.out 2).trans rfl, (blk_cell BK179.out 0).trans rfl, (blk_cell BK179.out 1).trans rfl, (blk_cell BK179.out 2).trans rfl, (blk_cell BK179.out 3).trans rfl⟩ (fun hHeld => ?_)
          generalize w30.drew = w31 at HO_3 BK168 BK179 HB hHeld ⊢
          refine take_ (i := 0) (N := some 24) (v := ?_) (a' := ?_) #[true, false, false, false, false] rfl rfl (by kernel_rfl) (fun _ _ _ h => h) (Or.inl ⟨by rfl, ?_⟩) hHeld ?_ ?_
          rotate_left
          · rintro w' ⟨s0, s1, s2, s3, s4, s5, s6⟩
            go_simp
            with_reducible rfl
          rotate_left
          · simp only [Act.put, List.setIfInBounds_toArray, List.set_cons_zero, List.set_cons_succ, i64_w, i32_w]
            rfl
          refine take_ (i := 1) (N := some 25) (v := ?_) (a' := ?_) #[true, true, false, false, false] rfl rfl (by kernel_rfl) (fun _ _ _ h => h) (Or.inl ⟨by rfl, ?_⟩) hHeld ?_ ?_
          rotate_left
          · rintro w' ⟨s0, s1, s2, s3, s4, s5, s6⟩
            go_simp
            with_reducible rfl
          rotate_left
          · simp only [Act.put, List.setIfInBounds_toArray, List.set_cons_zero, List.set_cons_succ, i64_w, i32_w]
            rfl
          refine take_ (i := 3) (N := some 27) (v := ?_) (a' := ?_) #[true, true, false, true, false] rfl rfl (by kernel_rfl) (fun _ _ _ h => h) (Or.inl ⟨by rfl, ?_⟩) hHeld ?_ ?_
          rotate_left
          · rintro w' ⟨s0, s1, s2, s3, s4, s5, s6⟩
            go_simp
            with_reducible rfl
          rotate_left
          · simp only [Act.put, List.setIfInBounds_toArray, List.set_cons_zero, List.set_cons_succ, i64_w, i32_w]
            rfl
          refine one_ (i := 2) (N := some 26) #[true, true, true, true, false] rfl rfl (by kernel_rfl) (by decide) (fun K hK => ?_)
          refine gs _ Try.func60 (grids_lead.calls a0_0 a0_1 a0_2 z170 z173 z176 z178 t180 t181 t182 _ A14.out) ?_
          rintro e w32 ⟨rfl, hb⟩
          refine ⟨_, rfl, ?_⟩
          have n0_ := Aside0.mk (Kd.R_below (by (with_reducible repeat (first | apply Kd.R_alloc | apply Kd.R_drewN | apply Kd.R_drew)); exact HO_3.out) hb)
          have n1_ := bb BK168 hb
          have n2_ := bb BK179 hb
          have n3_ := bst HB hb
          clear HO_3
          clear BK168
          clear BK179
          clear HB
          have HO_3 := n0_
          have BK168 := n1_
          have BK179 := n2_
          have HB := n3_
          clear n0_ n1_ n2_ n3_
          (try clear hb)
          (try clear hb2)
          (try clear hk)
          (try clear hi)
          refine hK.out _ _ ⟨(blk_cell BK168.out 0).trans rfl, (blk_cell BK168.out 1).trans rfl, (blk_cell BK168.out 2).trans rfl, (blk_cell BK179.out 0).trans rfl, (blk_cell BK179.out 1).trans rfl, (blk_cell BK179.out 2).trans rfl, (blk_cell BK179.out 3).trans rfl⟩ (fun hHeld => ?_)
          clear hK K
          refine norm_ (a' := ?_) ?_ ?_
          rotate_left
          · show Act.put _ (some 26) _ = _
            simp only [Act.put, List.setIfInBounds_toArray, List.set_cons_zero, List.set_cons_succ, i64_w, i32_w]
            rfl
          refine pure_ (i := 4) (N := some 28) (v := ?_) (a' := ?_) #[true, true, true, true, true] rfl rfl (by kernel_rfl) (fun _ _ _ h => h) (Or.inl ⟨by rfl, ?_⟩) ?_ ?_
          rotate_left
          · intro w'
            go_simp
            with_reducible rfl
          rotate_left
          · simp only [Act.put, List.setIfInBounds_toArray, List.set_cons_zero, List.set_cons_succ, i64_w, i32_w]
            rfl
          refine done_ (by kernel_rfl) ?_
          try go_wp2
          go_roundg k1
          case measure => have := HK1.out; omega
          case rel => exact ⟨(x3_1), (z187), (by first | rfl | (simp; done) | (simp [*]; done)), H', ⟨by have := HK1.out; omega⟩, ⟨by (with_reducible repeat (first | apply Kd.R_alloc | apply Kd.R_drewN | apply Kd.R_drew)); exact Kd.R_mono HO_3.out (fun _ hk => trivial)⟩, ⟨pk BK168⟩, ⟨bnow HB⟩⟩
      · rw [if_neg c3] at H
        have c3b0 : decide (x6_1 < 81) = false := decide_eq_false c3
        clear c3
        obtain rfl := Option.some.inj H
        go_wp2
        go_ret
        exact ⟨_, by first | rfl | (simp [errW_none, errW_some] <;> rfl) | (simp [*, errW_none, errW_some] <;> rfl), by (with_reducible repeat (first | apply Kd.R_alloc | apply Kd.R_drewN | apply Kd.R_drew)); exact HO_3.out, by repeat (first | (with_reducible first | exact HB.out | apply below_alloc | apply pw_below_drewN | apply below_drew1 | refine below_set ?_ GE168.out) | exact HB.out)⟩
end
section
/-! ### cmp_Or_int: function 51 -/
def cmp_Or_int.l0 : Nat → Int → List Int → Int → Int → Option (Int)
  | 0, _, _, _, _ => none
  | k + 1, x3, x6, x7, x8 => if x8 < x7 then (if 0 ≤ x8 then (if x8 < (x6.length : Int) then (if (rd x6 x8) = x3 then ((some (wrap64 (x8 + 1))).bind fun z189 => (cmp_Or_int.l0 k x3 x6 x7 z189)) else (some (rd x6 x8))) else (none)) else (none)) else (some x3)
def cmp_Or_int.f (k : Nat) (l0 : List Int) : Option (Int) := cmp_Or_int.l0 k 0 l0 (l0.length : Int) 0
theorem cmp_Or_int.mono_l : ∀ k, (∀ y0 y1 y2 y3, LeO (cmp_Or_int.l0 k y0 y1 y2 y3) (cmp_Or_int.l0 (k + 1) y0 y1 y2 y3))
  | 0 => fun _ _ _ _ r h => by simp [cmp_Or_int.l0] at h
  | k + 1 => by
    have ih0 := cmp_Or_int.mono_l k
    · intro y0 y1 y2 y3
      unfold cmp_Or_int.l0
      repeat' first
      | (with_reducible exact ih0 _ _ _ _)
      | (with_reducible exact LeO.refl _)
      | (with_reducible exact LeO.none _)
      | (with_reducible refine LeO.ite ?_ ?_)
      | (with_reducible refine LeO.bind ?_ (fun _ => ?_))
      | exact ih0 _ _ _ _
      | exact LeO.none _
      | refine LeO.ite ?_ ?_
      | refine LeO.bind ?_ (fun _ => ?_)
theorem cmp_Or_int.mono : ∀ a0 k, LeO (cmp_Or_int.f k a0) (cmp_Or_int.f (k + 1) a0) := by
  intro a0 k
  have ih0 := cmp_Or_int.mono_l k
  unfold cmp_Or_int.f
  repeat' first
      | (with_reducible exact ih0 _ _ _ _)
      | (with_reducible exact LeO.refl _)
      | (with_reducible exact LeO.none _)
      | (with_reducible refine LeO.ite ?_ ?_)
      | (with_reducible refine LeO.bind ?_ (fun _ => ?_))
      | exact ih0 _ _ _ _
      | exact LeO.none _
      | refine LeO.ite ?_ ?_
      | refine LeO.bind ?_ (fun _ => ?_)
set_option maxHeartbeats 8000000 in
set_option maxRecDepth 100000 in
theorem cmp_Or_int.calls (k : Nat) (A0 : Option Addr) (c0 : Nat) (l0 : List Int) (r : Int) (w : World) (hr0 : Kd.C (Kd.int .i64) w A0 l0.length l0) (hc0 : l0.length ≤ c0) (h : cmp_Or_int.f k l0 = some r) :
    Calls Try.prog 51 #[.slice A0 l0.length c0] w fun e w' => e = .returned (.int .i64 r) ∧ Drawn0 w w' := by
  have HR0 := Aside0.mk hr0
  have HC0 := Aside0.mk hc0
  clear hr0 hc0
  have H : (cmp_Or_int.l0 k 0 l0 (l0.length : Int) 0) = some r := h
  clear h
  have H' := Aside0.mk H
  clear H
  go_enter Try.func51, Try.ntmps51
  go_wp2
  go_loopg [8] k (fun kq v8 w' => ∃ (x8_1 : Int), v8 = .int .i64 x8_1 ∧ Aside0 (cmp_Or_int.l0 kq 0 l0 (l0.length : Int) x8_1 = some r) ∧ Aside0 (kq ≤ k) ∧ Drawn0 w w')
  case atStart => exact ⟨(0), (by first | rfl | (simp; done) | (simp [*]; done)), H', ⟨Nat.le_refl _⟩, by repeat (first | exact Drawn0.refl _ | apply Drawn0.step)⟩
  case round =>
    clear H'
    obtain ⟨x8_1, rfl, HA, HK1, ⟨m1, rfl⟩⟩ := hrel
    cases gk with
    | zero => exact absurd HA.out (by simp [cmp_Or_int.l0])
    | succ k1 =>
      have H := HA.out
      clear HA
      simp only [cmp_Or_int.l0] at H
      by_cases c2 : x8_1 < (l0.length : Int)
      · rw [if_pos c2] at H
        have c2b0 : decide (x8_1 < (l0.length : Int)) = true := decide_eq_true c2
        clear c2
        by_cases c3 : 0 ≤ x8_1
        · rw [if_pos c3] at H
          have c3b0 : decide (0 ≤ x8_1) = true := decide_eq_true c3
          clear c3
          by_cases c4 : x8_1 < (l0.length : Int)
          · rw [if_pos c4] at H
            have c4b0 : decide (x8_1 < (l0.length : Int)) = true := decide_eq_true c4
            clear c4
            by_cases c5 : (rd l0 x8_1) = 0
            · rw [if_pos c5] at H
              have c5b0 : ((rd l0 x8_1) == 0) = true := beq_iff_eq.mpr c5
              have c5b1 : ((rd l0 x8_1) != 0) = false := bne_eq_false_iff_eq.mpr c5
              clear c5
              obtain ⟨z189, E60, H⟩ := oc H
              have E6w : (IntKind.i64.wrap (x8_1 + 1)) = z189 := (i64_w _).trans E60
              have H' := Aside0.mk H
              clear H
              have p188 : 0 ≤ (x8_1 : Int) := of_decide_eq_true (by first | (with_reducible assumption) | assumption)
              have q188 : x8_1 < (l0.length : Int) := of_decide_eq_true (by first | (with_reducible assumption) | assumption)
              obtain ⟨ad188, e188, hx188_0⟩ := Kd.at_int HR0.out x8_1 p188 q188
              cases e188
              replace p188 := eq_true p188
              replace q188 := eq_true q188
              go_wp2
              go_roundg k1
              case measure => have := HK1.out; omega
              case rel => exact ⟨(z189), (by first | rfl | (simp; done) | (simp [*]; done)), H', ⟨by have := HK1.out; omega⟩, by repeat (first | exact Drawn0.refl _ | apply Drawn0.step)⟩
            · rw [if_neg c5] at H
              have c5b0 : ((rd l0 x8_1) == 0) = false := beq_eq_false_iff_ne.mpr c5
              have c5b1 : ((rd l0 x8_1) != 0) = true := bne_iff_ne.mpr c5
              obtain rfl := Option.some.inj H
              have p188 : 0 ≤ (x8_1 : Int) := of_decide_eq_true (by first | (with_reducible assumption) | assumption)
              have q188 : x8_1 < (l0.length : Int) := of_decide_eq_true (by first | (with_reducible assumption) | assumption)
              obtain ⟨ad188, e188, hx188_0⟩ := Kd.at_int HR0.out x8_1 p188 q188
              cases e188
              replace p188 := eq_true p188
              replace q188 := eq_true q188
              go_wp2
              go_ret
              exact ⟨by first | rfl | (simp; done) | (simp [*]; done), by repeat (first | exact Drawn0.refl _ | apply Drawn0.step)⟩
          · rw [if_neg c4] at H
            exact absurd H (by simp)
        · rw [if_neg c3] at H
          exact absurd H (by simp)
      · rw [if_neg c2] at H
        have c2b0 : decide (x8_1 < (l0.length : Int)) = false := decide_eq_false c2
        clear c2
        obtain rfl := Option.some.inj H
        go_wp2
        go_ret
        exact ⟨by first | rfl | (simp; done) | (simp [*]; done), by repeat (first | exact Drawn0.refl _ | apply Drawn0.step)⟩
end
section
/-! ### cmp_isNaN_int64: function 79 -/
def cmp_isNaN_int64.f (a0 : Int) : Option (Bool) := some (a0 != a0)
set_option maxHeartbeats 8000000 in
set_option maxRecDepth 100000 in
theorem cmp_isNaN_int64.calls (a0 : Int) (r : Bool) (w : World) (h : cmp_isNaN_int64.f a0 = some r) :
    Calls Try.prog 79 #[.int .i64 a0] w fun e w' => e = .returned (.bool r) ∧ Drawn0 w w' := by
  have H : (some (a0 != a0)) = some r := h
  clear h
  obtain rfl := Option.some.inj H
  go_enter Try.func79, Try.ntmps79
  go_wp2
  go_ret
  exact ⟨by first | rfl | (simp; done) | (simp [*]; done), by repeat (first | exact Drawn0.refl _ | apply Drawn0.step)⟩
end
section
/-! ### cmp_Compare_int64: function 54 -/
def cmp_Compare_int64.f (a0 : Int) (a1 : Int) : Option (Int) := (cmp_isNaN_int64.f a0).bind fun t190 => ((cmp_isNaN_int64.f a1).bind fun t191 => (if t190 = true then (if t191 = true then (some 0) else (some (-1))) else (if t191 = true then (some 1) else (if a0 < a1 then (some (-1)) else (if a0 > a1 then (some 1) else (some 0))))))
set_option maxHeartbeats 8000000 in
set_option maxRecDepth 100000 in
theorem cmp_Compare_int64.calls (a0 : Int) (a1 : Int) (r : Int) (w : World) (h : cmp_Compare_int64.f a0 a1 = some r) :
    Calls Try.prog 54 #[.int .i64 a0, .int .i64 a1] w fun e w' => e = .returned (.int .i64 r) ∧ Drawn0 w w' := by
  have H : ((cmp_isNaN_int64.f a0).bind fun t190 => ((cmp_isNaN_int64.f a1).bind fun t191 => (if t190 = true then (if t191 = true then (some 0) else (some (-1))) else (if t191 = true then (some 1) else (if a0 < a1 then (some (-1)) else (if a0 > a1 then (some 1) else (some 0))))))) = some r := h
  clear h
  obtain ⟨t190, A3, H⟩ := ob H
  obtain ⟨t191, A4, H⟩ := ob H
  by_cases c5 : t190 = true
  · subst c5
    have H1 : (if t191 = true then (some 0) else (some (-1))) = some r := by rw [if_pos rfl] at H; exact H
    clear H
    have H := H1
    clear H1
    by_cases c6 : t191 = true
    · subst c6
      have H1 : (some 0) = some r := by rw [if_pos rfl] at H; exact H
      clear H
      have H := H1
      clear H1
      obtain rfl := Option.some.inj H
      go_enter Try.func54, Try.ntmps54
      go_wp2_with (first | ((with_reducible refine gate_callee (f := 79) rfl ?_); refine goesL_ (some 8) rfl rfl Try.func79 (by kernel_rfl) rfl #[.int .i64 a0] rfl am ?_; (with_reducible refine (cmp_isNaN_int64.calls a0 true _ A3.out).mono ?_); rintro e w' ⟨rfl, ⟨nd, rfl⟩⟩; refine ⟨_, rfl, ?_⟩) | ((with_reducible refine gate_callee (f := 79) rfl ?_); refine goesL_ (some 10) rfl rfl Try.func79 (by kernel_rfl) rfl #[.int .i64 a1] rfl am ?_; (with_reducible refine (cmp_isNaN_int64.calls a1 true _ A4.out).mono ?_); rintro e w' ⟨rfl, ⟨nd, rfl⟩⟩; refine ⟨_, rfl, ?_⟩))
      go_ret
      exact ⟨by first | rfl | (simp; done) | (simp [*]; done), by repeat (first | exact Drawn0.refl _ | apply Drawn0.step)⟩
    · replace c6 := Bool.eq_false_iff.mpr c6
      subst c6
      have H1 : (some (-1)) = some r := by rw [if_neg (show ¬ (false = true) by decide)] at H; exact H
      clear H
      have H := H1
      clear H1
      obtain rfl := Option.some.inj H
      go_enter Try.func54, Try.ntmps54
      go_wp2_with (first | ((with_reducible refine gate_callee (f := 79) rfl ?_); refine goesL_ (some 8) rfl rfl Try.func79 (by kernel_rfl) rfl #[.int .i64 a0] rfl am ?_; (with_reducible refine (cmp_isNaN_int64.calls a0 true _ A3.out).mono ?_); rintro e w' ⟨rfl, ⟨nd, rfl⟩⟩; refine ⟨_, rfl, ?_⟩) | ((with_reducible refine gate_callee (f := 79) rfl ?_); refine goesL_ (some 10) rfl rfl Try.func79 (by kernel_rfl) rfl #[.int .i64 a1] rfl am ?_; (with_reducible refine (cmp_isNaN_int64.calls a1 false _ A4.out).mono ?_); rintro e w' ⟨rfl, ⟨nd, rfl⟩⟩; refine ⟨_, rfl, ?_⟩))
      go_ret
      exact ⟨by first | rfl | (simp; done) | (simp [*]; done), by repeat (first | exact Drawn0.refl _ | apply Drawn0.step)⟩
  · replace c5 := Bool.eq_false_iff.mpr c5
    subst c5
    have H1 : (if t191 = true then (some 1) else (if a0 < a1 then (some (-1)) else (if a0 > a1 then (some 1) else (some 0)))) = some r := by rw [if_neg (show ¬ (false = true) by decide)] at H; exact H
    clear H
    have H := H1
    clear H1
    by_cases c7 : t191 = true
    · subst c7
      have H1 : (some 1) = some r := by rw [if_pos rfl] at H; exact H
      clear H
      have H := H1
      clear H1
      obtain rfl := Option.some.inj H
      go_enter Try.func54, Try.ntmps54
      go_wp2_with (first | ((with_reducible refine gate_callee (f := 79) rfl ?_); refine goesL_ (some 8) rfl rfl Try.func79 (by kernel_rfl) rfl #[.int .i64 a0] rfl am ?_; (with_reducible refine (cmp_isNaN_int64.calls a0 false _ A3.out).mono ?_); rintro e w' ⟨rfl, ⟨nd, rfl⟩⟩; refine ⟨_, rfl, ?_⟩) | ((with_reducible refine gate_callee (f := 79) rfl ?_); refine goesL_ (some 10) rfl rfl Try.func79 (by kernel_rfl) rfl #[.int .i64 a1] rfl am ?_; (with_reducible refine (cmp_isNaN_int64.calls a1 true _ A4.out).mono ?_); rintro e w' ⟨rfl, ⟨nd, rfl⟩⟩; refine ⟨_, rfl, ?_⟩))
      go_ret
      exact ⟨by first | rfl | (simp; done) | (simp [*]; done), by repeat (first | exact Drawn0.refl _ | apply Drawn0.step)⟩
    · replace c7 := Bool.eq_false_iff.mpr c7
      subst c7
      have H1 : (if a0 < a1 then (some (-1)) else (if a0 > a1 then (some 1) else (some 0))) = some r := by rw [if_neg (show ¬ (false = true) by decide)] at H; exact H
      clear H
      have H := H1
      clear H1
      by_cases c8 : a0 < a1
      · rw [if_pos c8] at H
        have c8b0 : decide (a0 < a1) = true := decide_eq_true c8
        clear c8
        obtain rfl := Option.some.inj H
        go_enter Try.func54, Try.ntmps54
        go_wp2_with (first | ((with_reducible refine gate_callee (f := 79) rfl ?_); refine goesL_ (some 8) rfl rfl Try.func79 (by kernel_rfl) rfl #[.int .i64 a0] rfl am ?_; (with_reducible refine (cmp_isNaN_int64.calls a0 false _ A3.out).mono ?_); rintro e w' ⟨rfl, ⟨nd, rfl⟩⟩; refine ⟨_, rfl, ?_⟩) | ((with_reducible refine gate_callee (f := 79) rfl ?_); refine goesL_ (some 10) rfl rfl Try.func79 (by kernel_rfl) rfl #[.int .i64 a1] rfl am ?_; (with_reducible refine (cmp_isNaN_int64.calls a1 false _ A4.out).mono ?_); rintro e w' ⟨rfl, ⟨nd, rfl⟩⟩; refine ⟨_, rfl, ?_⟩))
        go_ret
        exact ⟨by first | rfl | (simp; done) | (simp [*]; done), by repeat (first | exact Drawn0.refl _ | apply Drawn0.step)⟩
      · rw [if_neg c8] at H
        have c8b0 : decide (a0 < a1) = false := decide_eq_false c8
        clear c8
        by_cases c9 : a0 > a1
        · rw [if_pos c9] at H
          have c9b0 : decide (a1 < a0) = true := decide_eq_true c9
          clear c9
          obtain rfl := Option.some.inj H
          go_enter Try.func54, Try.ntmps54
          go_wp2_with (first | ((with_reducible refine gate_callee (f := 79) rfl ?_); refine goesL_ (some 8) rfl rfl Try.func79 (by kernel_rfl) rfl #[.int .i64 a0] rfl am ?_; (with_reducible refine (cmp_isNaN_int64.calls a0 false _ A3.out).mono ?_); rintro e w' ⟨rfl, ⟨nd, rfl⟩⟩; refine ⟨_, rfl, ?_⟩) | ((with_reducible refine gate_callee (f := 79) rfl ?_); refine goesL_ (some 10) rfl rfl Try.func79 (by kernel_rfl) rfl #[.int .i64 a1] rfl am ?_; (with_reducible refine (cmp_isNaN_int64.calls a1 false _ A4.out).mono ?_); rintro e w' ⟨rfl, ⟨nd, rfl⟩⟩; refine ⟨_, rfl, ?_⟩))
          go_ret
          exact ⟨by first | rfl | (simp; done) | (simp [*]; done), by repeat (first | exact Drawn0.refl _ | apply Drawn0.step)⟩
        · rw [if_neg c9] at H
          have c9b0 : decide (a1 < a0) = false := decide_eq_false c9
          clear c9
          obtain rfl := Option.some.inj H
          go_enter Try.func54, Try.ntmps54
          go_wp2_with (first | ((with_reducible refine gate_callee (f := 79) rfl ?_); refine goesL_ (some 8) rfl rfl Try.func79 (by kernel_rfl) rfl #[.int .i64 a0] rfl am ?_; (with_reducible refine (cmp_isNaN_int64.calls a0 false _ A3.out).mono ?_); rintro e w' ⟨rfl, ⟨nd, rfl⟩⟩; refine ⟨_, rfl, ?_⟩) | ((with_reducible refine gate_callee (f := 79) rfl ?_); refine goesL_ (some 10) rfl rfl Try.func79 (by kernel_rfl) rfl #[.int .i64 a1] rfl am ?_; (with_reducible refine (cmp_isNaN_int64.calls a1 false _ A4.out).mono ?_); rintro e w' ⟨rfl, ⟨nd, rfl⟩⟩; refine ⟨_, rfl, ?_⟩))
          go_ret
          exact ⟨by first | rfl | (simp; done) | (simp [*]; done), by repeat (first | exact Drawn0.refl _ | apply Drawn0.step)⟩
end
section
/-! ### grids_order: function 42 -/
def grids_order.f (k : Nat) (a0_0 : Int) (a0_1 : Int) (a0_2 : Int) (a0_3 : Int) (a1_0 : Int) (a1_1 : Int) (a1_2 : Int) (a1_3 : Int) : Option (Int) := (cmp_Compare_int64.f a0_0 a1_0).bind fun t194 => ((cmp_Compare_int64.f a0_1 a1_1).bind fun t195 => ((cmp_Compare_int64.f a0_2 a1_2).bind fun t196 => ((cmp_Compare_int64.f a0_3 a1_3).bind fun t197 => ((cmp_Or_int.f k (([t194, t195, t196, t197] : List Int))).bind fun t201 => (some t201)))))
theorem grids_order.mono : ∀ a0 a1 a2 a3 a4 a5 a6 a7 k, LeO (grids_order.f k a0 a1 a2 a3 a4 a5 a6 a7) (grids_order.f (k + 1) a0 a1 a2 a3 a4 a5 a6 a7) := by
  intro a0 a1 a2 a3 a4 a5 a6 a7 k
  unfold grids_order.f
  repeat' first
      | (with_reducible exact cmp_Or_int.mono _ _)
      | (with_reducible exact LeO.refl _)
      | (with_reducible exact LeO.none _)
      | (with_reducible refine LeO.ite ?_ ?_)
      | (with_reducible refine LeO.bind ?_ (fun _ => ?_))
      | exact cmp_Or_int.mono _ _
      | exact LeO.none _
      | refine LeO.ite ?_ ?_
      | refine LeO.bind ?_ (fun _ => ?_)
def grids_order.T1 : Bool × List (List Nat × List Nat) := (true, [([], []), ([0], [0]), ([], []), ([2], [2]), ([1, 3], [1, 3]), ([], []), ([5], [5]), ([], []), ([7], [7]), ([6, 8, 4], [6, 8]), ([], []), ([10], [10]), ([], []), ([12], [12]), ([11, 13, 9], [11, 13]), ([], []), ([15], [15]), ([], []), ([17], [17]), ([16, 18, 14], [16, 18]), ([4, 9, 14, 19], [4, 9, 14, 19]), ([20, 19], [20]), ([21, 21, 0, 1, 2, 3, 4, 5, 6, 7, 8, 9, 10, 11, 12, 13, 14, 15, 16, 17, 18, 19, 20, 21], [21])])
def grids_order.B1 : List Nat := [0, 1, 0, 4, 15, 0, 32, 0, 128, 511, 0, 1024, 0, 4096, 16383, 0, 32768, 0, 131072, 524287, 1048575, 2097151, 4194303]
theorem grids_order.tab1 : rtab .any (opsOf Try.f42 1) = grids_order.T1 := by kernel_rfl
theorem grids_order.bits1 : waitsOk grids_order.T1.2 grids_order.B1 = true := by kernel_rfl
set_option maxHeartbeats 8000000 in
set_option maxRecDepth 100000 in
theorem grids_order.calls (k : Nat) (a0_0 : Int) (a0_1 : Int) (a0_2 : Int) (a0_3 : Int) (a1_0 : Int) (a1_1 : Int) (a1_2 : Int) (a1_3 : Int) (r : Int) (w : World) (h : grids_order.f k a0_0 a0_1 a0_2 a0_3 a1_0 a1_1 a1_2 a1_3 = some r) :
    Calls Try.prog 42 #[.agg #[.int .i64 a0_0, .int .i64 a0_1, .int .i64 a0_2, .int .i64 a0_3], .agg #[.int .i64 a1_0, .int .i64 a1_1, .int .i64 a1_2, .int .i64 a1_3]] w fun e w' => e = .returned (.int .i64 r) ∧ Below w.heap.size w w' := by
  have hu25 := Try.underlying25
  have HB := Aside0.mk (Below.refl w.heap.size w)
  have H : ((cmp_Compare_int64.f a0_0 a1_0).bind fun t194 => ((cmp_Compare_int64.f a0_1 a1_1).bind fun t195 => ((cmp_Compare_int64.f a0_2 a1_2).bind fun t196 => ((cmp_Compare_int64.f a0_3 a1_3).bind fun t197 => ((cmp_Or_int.f k (([t194, t195, t196, t197] : List Int))).bind fun t201 => (some t201)))))) = some r := h
  clear h
  obtain ⟨t194, A3, H⟩ := ob H
  obtain ⟨t195, A4, H⟩ := ob H
  obtain ⟨t196, A5, H⟩ := ob H
  obtain ⟨t197, A6, H⟩ := ob H
  obtain ⟨y198, hy198⟩ : ∃ y_ : List Int, y_ = (([t194, t195, t196, t197] : List Int)) := ⟨_, rfl⟩
  replace H : ((cmp_Or_int.f k y198).bind fun t201 => (some t201)) = some r := by first | (rw [hy198]; with_reducible exact H) | (have H2_ := (Option.bind_some _ _).symm.trans H; rw [hy198]; with_reducible exact H2_) | (have H2_ := (Option.bind_some _ _).symm.trans H; with_reducible exact H2_) | with_reducible exact H | (rw [hy198]; exact H) | exact H
  have Ny198 := Aside0.mk hy198
  clear hy198
  obtain ⟨t201, A7, H⟩ := ob H
  obtain rfl := Option.some.inj H
  go_enter Try.func42, Try.ntmps42
  try go_wp2_with (first | ((with_reducible refine gate_dst (N := 2) rfl ?_); refine bx 2 #[.int .i64 a0_0, .int .i64 a0_1, .int .i64 a0_2, .int .i64 a0_3] 25 fun gb192 hg w8 BK192 hb => ?_; have GW192 := gw hg HB; have GE192 := gw hg HB; replace HB := bst HB hb; clear hb hg) | ((with_reducible refine gate_dst (N := 3) rfl ?_); refine bx 3 #[.int .i64 a1_0, .int .i64 a1_1, .int .i64 a1_2, .int .i64 a1_3] 25 fun gb193 hg w9 BK193 hb => ?_; have GW193 := gw hg HB; have GE193 := gw hg HB; have NB192_193 := nlt hg BK192; have NB193_192 := ngt hg BK192; replace BK192 := bb BK192 hb; replace HB := bst HB hb; clear hb hg))
  replace BK192 := bd BK192
  replace BK193 := bd BK193
  replace HB := bdn HB
  refine start_ (n := 23) (S := fun w' => w'.cell? ⟨gb192, 0, none⟩ = some (.int .i64 a0_0) ∧ w'.cell? ⟨gb192, 1, none⟩ = some (.int .i64 a0_1) ∧ w'.cell? ⟨gb192, 2, none⟩ = some (.int .i64 a0_2) ∧ w'.cell? ⟨gb192, 3, none⟩ = some (.int .i64 a0_3) ∧ w'.cell? ⟨gb193, 0, none⟩ = some (.int .i64 a1_0) ∧ w'.cell? ⟨gb193, 1, none⟩ = some (.int .i64 a1_1) ∧ w'.cell? ⟨gb193, 2, none⟩ = some (.int .i64 a1_2) ∧ w'.cell? ⟨gb193, 3, none⟩ = some (.int .i64 a1_3)) (ds := []) #[false, false, false, false, false, false, false, false, false, false, false, false, false, false, false, false, false, false, false, false, false, false, false] (by kernel_rfl) rfl rfl ⟨(blk_cell BK192.out 0).trans rfl, (blk_cell BK192.out 1).trans rfl, (blk_cell BK192.out 2).trans rfl, (blk_cell BK192.out 3).trans rfl, (blk_cell BK193.out 0).trans rfl, (blk_cell BK193.out 1).trans rfl, (blk_cell BK193.out 2).trans rfl, (blk_cell BK193.out 3).trans rfl⟩ (fun hHeld => ?_); refine with_tabW grids_order.tab1 grids_order.bits1 (fun HT_ HW_ => ?_)
  generalize w9.drew = w10 at BK192 BK193 HB hHeld ⊢
  refine pz 0 5 HT_ ?_
  refine pz 2 7 HT_ ?_
  refine pz 5 10 HT_ ?_
  refine pz 7 12 HT_ ?_
  refine pz 10 15 HT_ ?_
  refine pz 12 17 HT_ ?_
  refine pz 15 20 HT_ ?_
  refine pz 17 22 HT_ ?_
  refine tz 1 6 HT_ HW_ hHeld ?_
  refine tz 3 8 HT_ HW_ hHeld ?_
  refine tz 6 11 HT_ HW_ hHeld ?_
  refine tz 8 13 HT_ HW_ hHeld ?_
  refine tz 11 16 HT_ HW_ hHeld ?_
  refine tz 13 18 HT_ HW_ hHeld ?_
  refine tz 16 21 HT_ HW_ hHeld ?_
  refine tz 18 23 HT_ HW_ hHeld ?_
  refine one_ (i := 4) (N := some 9) #[true, true, true, true, true, true, true, true, true, false, true, true, true, true, false, true, true, true, true, false, false, false, false] rfl rfl (one_of HT_.out (by kernel_rfl)) (by decide) (fun K hK => ?_)
  refine gs _ Try.func54 (cmp_Compare_int64.calls a0_0 a1_0 t194 _ A3.out) ?_
  rintro e w' ⟨rfl, ⟨nd, rfl⟩⟩
  refine ⟨_, rfl, ?_⟩
  refine hK.out _ _ ⟨(blk_cell BK192.out 0).trans rfl, (blk_cell BK192.out 1).trans rfl, (blk_cell BK192.out 2).trans rfl, (blk_cell BK192.out 3).trans rfl, (blk_cell BK193.out 0).trans rfl, (blk_cell BK193.out 1).trans rfl, (blk_cell BK193.out 2).trans rfl, (blk_cell BK193.out 3).trans rfl⟩ (fun hHeld => ?_)
  clear hK K
  refine norm_ (a' := ?_) ?_ ?_
  rotate_left
  · show Act.put _ (some 9) _ = _
    simp only [Act.put, List.setIfInBounds_toArray, List.set_cons_zero, List.set_cons_succ, i64_w, i32_w]
    rfl
  refine one_ (i := 9) (N := some 14) #[true, true, true, true, true, true, true, true, true, true, true, true, true, true, false, true, true, true, true, false, false, false, false] rfl rfl (one_of HT_.out (by kernel_rfl)) (by decide) (fun K hK => ?_)
  refine gs _ Try.func54 (cmp_Compare_int64.calls a0_1 a1_1 t195 _ A4.out) ?_
  rintro e w' ⟨rfl, ⟨nd, rfl⟩⟩
  refine ⟨_, rfl, ?_⟩
  refine hK.out _ _ ⟨(blk_cell BK192.out 0).trans rfl, (blk_cell BK192.out 1).trans rfl, (blk_cell BK192.out 2).trans rfl, (blk_cell BK192.out 3).trans rfl, (blk_cell BK193.out 0).trans rfl, (blk_cell BK193.out 1).trans rfl, (blk_cell BK193.out 2).trans rfl, (blk_cell BK193.out 3).trans rfl⟩ (fun hHeld => ?_)
  clear hK K
  refine norm_ (a' := ?_) ?_ ?_
  rotate_left
  · show Act.put _ (some 14) _ = _
    simp only [Act.put, List.setIfInBounds_toArray, List.set_cons_zero, List.set_cons_succ, i64_w, i32_w]
    rfl
  refine one_ (i := 14) (N := some 19) #[true, true, true, true, true, true, true, true, true, true, true, true, true, true, true, true, true, true, true, false, false, false, false] rfl rfl (one_of HT_.out (by kernel_rfl)) (by decide) (fun K hK => ?_)
  refine gs _ Try.func54 (cmp_Compare_int64.calls a0_2 a1_2 t196 _ A5.out) ?_
  rintro e w' ⟨rfl, ⟨nd, rfl⟩⟩
  refine ⟨_, rfl, ?_⟩
  refine hK.out _ _ ⟨(blk_cell BK192.out 0).trans rfl, (blk_cell BK192.out 1).trans rfl, (blk_cell BK192.out 2).trans rfl, (blk_cell BK192.out 3).trans rfl, (blk_cell BK193.out 0).trans rfl, (blk_cell BK193.out 1).trans rfl, (blk_cell BK193.out 2).trans rfl, (blk_cell BK193.out 3).trans rfl⟩ (fun hHeld => ?_)
  clear hK K
  refine norm_ (a' := ?_) ?_ ?_
  rotate_left
  · show Act.put _ (some 19) _ = _
    simp only [Act.put, List.setIfInBounds_toArray, List.set_cons_zero, List.set_cons_succ, i64_w, i32_w]
    rfl
  refine one_ (i := 19) (N := some 24) #[true, true, true, true, true, true, true, true, true, true, true, true, true, true, true, true, true, true, true, true, false, false, false] rfl rfl (one_of HT_.out (by kernel_rfl)) (by decide) (fun K hK => ?_)
  refine gs _ Try.func54 (cmp_Compare_int64.calls a0_3 a1_3 t197 _ A6.out) ?_
  rintro e w' ⟨rfl, ⟨nd, rfl⟩⟩
  refine ⟨_, rfl, ?_⟩
  refine hK.out _ _ ⟨(blk_cell BK192.out 0).trans rfl, (blk_cell BK192.out 1).trans rfl, (blk_cell BK192.out 2).trans rfl, (blk_cell BK192.out 3).trans rfl, (blk_cell BK193.out 0).trans rfl, (blk_cell BK193.out 1).trans rfl, (blk_cell BK193.out 2).trans rfl, (blk_cell BK193.out 3).trans rfl⟩ (fun hHeld => ?_)
  clear hK K
  refine norm_ (a' := ?_) ?_ ?_
  rotate_left
  · show Act.put _ (some 24) _ = _
    simp only [Act.put, List.setIfInBounds_toArray, List.set_cons_zero, List.set_cons_succ, i64_w, i32_w]
    rfl
  refine one_ (i := 20) (N := some 25) #[true, true, true, true, true, true, true, true, true, true, true, true, true, true, true, true, true, true, true, true, true, false, false] rfl rfl (one_of HT_.out (by kernel_rfl)) (by decide) (fun K hK => ?_)
  refine Kd.R_lit_step (Kd.int .i64) _ 3 ?hg (N := 25) ?hd (xs := ([t194, t195, t196, t197] : List Int)) (inner := [.int .i64 t194, .int .i64 t195, .int .i64 t196, .int .i64 t197]) (ok := fun _ => True) (okp := fun _ => True) ?hr ?hp (fun _ hk => hk) trivial (Below.refl _ _) (Nat.le_refl _) (by simp) ?_; (case hd => rfl); (case hg => rfl); (case hr => first | (go_simp; done) | (go_simp; rfl)); (case hp => exact (Reps.one (show Kd.M (Kd.int .i64) _ _ _ t194 [.int .i64 t194] from rfl) (Reps.one (show Kd.M (Kd.int .i64) _ _ _ t195 [.int .i64 t195] from rfl) (Reps.one (show Kd.M (Kd.int .i64) _ _ _ t196 [.int .i64 t196] from rfl) (Reps.one (show Kd.M (Kd.int .i64) _ _ _ t197 [.int .i64 t197] from rfl) (Reps.none _ _))))))
  intro v199 w11 ho12 hb hg_ hnew_
  clear hg_ hnew_
  (first | rw [← Ny198.out] at ho12 | (simp only [Int.reduceToNat] at ho12; rw [← Ny198.out] at ho12))
  have HO200 := Aside0.mk (Kd.R_lower ho12 (below_size (bnow HB)))
  replace BK192 := bb BK192 hb
  replace BK193 := bb BK193 hb
  replace HB := bst HB hb
  clear hb ho12
  obtain ⟨Ao13, co13, eo13⟩ := Kd.R_slice HO200.out
  (first | subst eo13 | (injection eo13 with f1_ f2_ f3_; have f4_ := f1_.symm; have f5_ := f3_.symm; clear f1_ f2_ f3_; subst f4_; subst f5_))
  refine hK.out _ _ ⟨(blk_cell BK192.out 0).trans rfl, (blk_cell BK192.out 1).trans rfl, (blk_cell BK192.out 2).trans rfl, (blk_cell BK192.out 3).trans rfl, (blk_cell BK193.out 0).trans rfl, (blk_cell BK193.out 1).trans rfl, (blk_cell BK193.out 2).trans rfl, (blk_cell BK193.out 3).trans rfl⟩ (fun hHeld => ?_)
  clear hK K
  refine norm_ (a' := ?_) ?_ ?_
  rotate_left
  · show Act.put _ (some 25) _ = _
    simp only [Act.put, List.setIfInBounds_toArray, List.set_cons_zero, List.set_cons_succ, i64_w, i32_w]
    rfl
  refine one_ (i := 21) (N := some 26) #[true, true, true, true, true, true, true, true, true, true, true, true, true, true, true, true, true, true, true, true, true, true, false] rfl rfl (one_of HT_.out (by kernel_rfl)) (by decide) (fun K hK => ?_)
  refine gs _ Try.func51 (cmp_Or_int.calls k _ _ y198 t201 _ ?side1 ?side2 A7.out) ?_
  (case side1 => repeat (first | exact (Kd.R_reads' HO200.out).2.2 | (with_reducible refine Kd.C_alloc ?_ _) | (with_reducible refine Kd.C_drewN ?_ _) | (with_reducible refine Kd.C_drew ?_)))
  (case side2 => exact (Kd.R_reads' HO200.out).2.1)
  rintro e w' ⟨rfl, ⟨nd, rfl⟩⟩
  refine ⟨_, rfl, ?_⟩
  refine hK.out _ _ ⟨(blk_cell BK192.out 0).trans rfl, (blk_cell BK192.out 1).trans rfl, (blk_cell BK192.out 2).trans rfl, (blk_cell BK192.out 3).trans rfl, (blk_cell BK193.out 0).trans rfl, (blk_cell BK193.out 1).trans rfl, (blk_cell BK193.out 2).trans rfl, (blk_cell BK193.out 3).trans rfl⟩ (fun hHeld => ?_)
  clear hK K
  refine norm_ (a' := ?_) ?_ ?_
  rotate_left
  · show Act.put _ (some 26) _ = _
    simp only [Act.put, List.setIfInBounds_toArray, List.set_cons_zero, List.set_cons_succ, i64_w, i32_w]
    rfl
  refine pz 22 4 HT_ ?_
  refine done_ (done_of HT_.out (by kernel_rfl)) ?_
  try go_wp2
  go_ret
  exact rt HB
end
end Go.Proofs.Ytmcajdepoohlhaa.G
