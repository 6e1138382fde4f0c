/- Functions of the program as plain Lean functions, and their contracts (printed by a program of this session). No condition beyond what each states. -/
import Derived.Test.YtmcajdepoohlhaaProg
import Derived.Below
import Derived.Deep.Draws
import Derived.Deep.AppendLies
import Derived.Maps.AppendAt
import Derived.OwnWalk
import Derived.Laws.BytesArg
import Derived.Laws.MakeOwn
import Derived.Laws.OwnMore
import Derived.Deep.OwnRows
import Derived.Tactics
import Derived.Lib.ConvBytes
import Derived.Laws.Slices
import Derived.WalkKit
import Derived.KernelRfl
import Derived.RowKit3
import Derived.Deep.LoopGhost
import Derived.Deep.QuietTactic
import Derived.BigQuiet
import Derived.WideLaws
import Derived.Deep.DeepCutAuto
import Derived.Deep.CutBlock
import Derived.Deep.RegionHeld3
import Derived.Laws.Rows
import Derived.Lib.AppendStr
import Derived.ArgAppend
import Derived.Laws.IdiomCopy
import Derived.OrdersHeld
import Derived.Laws.BitsLemmas
import Derived.RowKit
import Derived.Test.YtmcajdepoohlhaaCRdcFn
import Derived.Test.YtmcajdepoohlhaaCRdcZ
import Derived.Test.YtmcajdepoohlhaaCRdcWWords
import Derived.Test.YtmcajdepoohlhaaCRdcWLast
import Derived.Test.YtmcajdepoohlhaaCRdcWTab
import Derived.Test.YtmcajdepoohlhaaCRdcWFour
import Derived.Test.YtmcajdepoohlhaaCRdcWQPut
import Derived.Test.YtmcajdepoohlhaaCRdcWApart
import Derived.Test.YtmcajdepoohlhaaCRdcWArr
import Derived.Test.YtmcajdepoohlhaaCRdcWZeros
import Derived.Test.YtmcajdepoohlhaaCRdcWFoot
import Derived.Test.YtmcajdepoohlhaaCRdcWKept
import Derived.Test.YtmcajdepoohlhaaCRdcWShare
import Derived.Test.YtmcajdepoohlhaaCRdcWN
import Derived.Test.YtmcajdepoohlhaaCRdcWFootNe
import Derived.Test.YtmcajdepoohlhaaCRdcWAt
import Derived.Test.YtmcajdepoohlhaaCRdcWEqStruct
import Derived.Test.YtmcajdepoohlhaaCRdcWRepsOne
import Derived.Test.YtmcajdepoohlhaaCRdcWInv
import Derived.Test.YtmcajdepoohlhaaCRdcWInvWords
import Derived.Test.YtmcajdepoohlhaaCRdcWGuard
import Derived.Test.YtmcajdepoohlhaaCRdcWNEv
import Derived.Test.YtmcajdepoohlhaaCRdcWMore
import Derived.Test.YtmcajdepoohlhaaCRdcY
namespace Go.Proofs.Ytmcajdepoohlhaa.G
open Go.RowKit Go.Proofs.YtmcajdepoohlhaaW.PrintWords Go.Proofs.YtmcajdepoohlhaaW.PrintLast Go.Proofs.YtmcajdepoohlhaaW.PrintMore
attribute [local go_sem] max2_int min2_int max_two min_two max_three min_three max_four min_four
set_option linter.unusedVariables false
set_option linter.unusedSimpArgs false
section
def errW : Option Int → Value
  | none => .nilIface
  | some c => .iface 0 (.int .i64 c)
theorem errW_none : errW none = .nilIface := rfl
theorem errW_some (c : Int) : errW (some c) = .iface 0 (.int .i64 c) := rfl
theorem info3 : (Try.prog.info? 3).map (fun i => (i.zero, i.size, i.bytes)) = some (some (.int .i64 0), 1, 8) := by kernel_rfl
theorem info25 : (Try.prog.info? 25).map (fun i => (i.zero, i.size, i.bytes)) = some (some (.agg #[(.int .i64 0), (.int .i64 0), (.int .i64 0), (.int .i64 0)]), 4, 32) := by kernel_rfl
theorem info37 : (Try.prog.info? 37).map (fun i => (i.zero, i.size, i.bytes)) = some (some (.agg #[(.int .i64 0), (.int .i64 0)]), 2, 16) := by kernel_rfl
-- the values' own types
/-! #### struct type 25 -/
structure S25 where
  f0 : Int
  f1 : Int
  f2 : Int
  f3 : Int
def z25 : S25 := ⟨(0 : Int), (0 : Int), (0 : Int), (0 : Int)⟩
def k25 : Kd S25 := Kd.iso (Kd.pair (Kd.int .i64) (Kd.pair (Kd.int .i64) (Kd.pair (Kd.int .i64) (Kd.int .i64)))) (fun x : S25 => (x.f0, x.f1, x.f2, x.f3))
theorem k25_open {w : World} {x : S25} {cs : List Value} (h : k25.K w x cs) : cs = [.int .i64 x.f0, .int .i64 x.f1, .int .i64 x.f2, .int .i64 x.f3] := by
  obtain ⟨_, _, rfl, rfl, ⟨_, _, rfl, rfl, ⟨_, _, rfl, rfl, rfl⟩⟩⟩ := h
  exact rfl
theorem k25_openM {w : World} {base : Nat} {ok : Nat → Prop} {x : S25} {cs : List Value} (h : k25.M w base ok x cs) : cs = [.int .i64 x.f0, .int .i64 x.f1, .int .i64 x.f2, .int .i64 x.f3] := by
  obtain ⟨_, _, rfl, rfl, ⟨_, _, rfl, rfl, ⟨_, _, rfl, rfl, rfl⟩⟩⟩ := h
  exact rfl
theorem k25_mk (w : World) (x : S25)  : k25.K w x [.int .i64 x.f0, .int .i64 x.f1, .int .i64 x.f2, .int .i64 x.f3] := ⟨[.int .i64 x.f0], [.int .i64 x.f1, .int .i64 x.f2, .int .i64 x.f3], rfl, rfl, ⟨[.int .i64 x.f1], [.int .i64 x.f2, .int .i64 x.f3], rfl, rfl, ⟨[.int .i64 x.f2], [.int .i64 x.f3], rfl, rfl, rfl⟩⟩⟩
theorem k25_mkM (w : World) (base : Nat) (ok : Nat → Prop) (x : S25)  : k25.M w base ok x [.int .i64 x.f0, .int .i64 x.f1, .int .i64 x.f2, .int .i64 x.f3] := ⟨[.int .i64 x.f0], [.int .i64 x.f1, .int .i64 x.f2, .int .i64 x.f3], rfl, rfl, ⟨[.int .i64 x.f1], [.int .i64 x.f2, .int .i64 x.f3], rfl, rfl, ⟨[.int .i64 x.f2], [.int .i64 x.f3], rfl, rfl, rfl⟩⟩⟩
def rd_T25 (xs : List S25) (i : Int) : S25 := xs.getD i.toNat z25
theorem at_T25 {w : World} {A : Option Addr} {n : Nat} {xs : List S25} (h : Kd.C k25 w A n xs) (i : Int) (h0 : 0 ≤ i) (h1 : i < n) : ∃ ad , A = some ad ∧ w.cell? (ad.add (i.toNat * 4)) = some (.int .i64 (rd_T25 xs i).f0) ∧ w.cell? ⟨(ad.add (i.toNat * 4)).block, (ad.add (i.toNat * 4)).off + 1, none⟩ = some (.int .i64 (rd_T25 xs i).f1) ∧ w.cell? ⟨(ad.add (i.toNat * 4)).block, (ad.add (i.toNat * 4)).off + 2, none⟩ = some (.int .i64 (rd_T25 xs i).f2) ∧ w.cell? ⟨(ad.add (i.toNat * 4)).block, (ad.add (i.toNat * 4)).off + 3, none⟩ = some (.int .i64 (rd_T25 xs i).f3) := by
  obtain ⟨ad, c, e, _, hK, hc0⟩ := Kd.C_get h z25 i h0 h1
  have hc : ∀ j u, c[j]? = some u → w.cell? (ad.add (i.toNat * 4 + j)) = some u := hc0
  obtain rfl := k25_open hK
  exact ⟨ad, e, hc 0 _ rfl, by rw [← add_field _ _ 1 (by omega)]; exact hc 1 _ rfl, by rw [← add_field _ _ 2 (by omega)]; exact hc 2 _ rfl, by rw [← add_field _ _ 3 (by omega)]; exact hc 3 _ rfl⟩
/-! #### struct type 37 -/
structure S37 where
  f0 : Int
  f1 : Int
def z37 : S37 := ⟨(0 : Int), (0 : Int)⟩
def k37 : Kd S37 := Kd.iso (Kd.pair (Kd.int .i64) (Kd.int .i64)) (fun x : S37 => (x.f0, x.f1))
theorem k37_open {w : World} {x : S37} {cs : List Value} (h : k37.K w x cs) : cs = [.int .i64 x.f0, .int .i64 x.f1] := by
  obtain ⟨_, _, rfl, rfl, rfl⟩ := h
  exact rfl
theorem k37_openM {w : World} {base : Nat} {ok : Nat → Prop} {x : S37} {cs : List Value} (h : k37.M w base ok x cs) : cs = [.int .i64 x.f0, .int .i64 x.f1] := by
  obtain ⟨_, _, rfl, rfl, rfl⟩ := h
  exact rfl
theorem k37_mk (w : World) (x : S37)  : k37.K w x [.int .i64 x.f0, .int .i64 x.f1] := ⟨[.int .i64 x.f0], [.int .i64 x.f1], rfl, rfl, rfl⟩
theorem k37_mkM (w : World) (base : Nat) (ok : Nat → Prop) (x : S37)  : k37.M w base ok x [.int .i64 x.f0, .int .i64 x.f1] := ⟨[.int .i64 x.f0], [.int .i64 x.f1], rfl, rfl, rfl⟩
def rd_T37 (xs : List S37) (i : Int) : S37 := xs.getD i.toNat z37
theorem at_T37 {w : World} {A : Option Addr} {n : Nat} {xs : List S37} (h : Kd.C k37 w A n xs) (i : Int) (h0 : 0 ≤ i) (h1 : i < n) : ∃ ad , A = some ad ∧ w.cell? (ad.add (i.toNat * 2)) = some (.int .i64 (rd_T37 xs i).f0) ∧ w.cell? ⟨(ad.add (i.toNat * 2)).block, (ad.add (i.toNat * 2)).off + 1, none⟩ = some (.int .i64 (rd_T37 xs i).f1) := by
  obtain ⟨ad, c, e, _, hK, hc0⟩ := Kd.C_get h z37 i h0 h1
  have hc : ∀ j u, c[j]? = some u → w.cell? (ad.add (i.toNat * 2 + j)) = some u := hc0
  obtain rfl := k37_open hK
  exact ⟨ad, e, hc 0 _ rfl, by rw [← add_field _ _ 1 (by omega)]; exact hc 1 _ rfl⟩
end
section
theorem eqA23 (d : Nat) (w : World) (x0 y0 : Int) (x1 y1 : Int) (x2 y2 : Int) :
    (Op.equalIn (d + 2) 23 (.agg #[.int .i64 x0, .int .i64 x1, .int .i64 x2]) (.agg #[.int .i64 y0, .int .i64 y1, .int .i64 y2])).run Try.prog w = .ok (x0 == y0 && (x1 == y1 && (x2 == y2))) w := by
  refine eqA_of Try.underlying23 (by kernel_rfl) ?_
  refine eqf_cons (by rfl) (by go_simp; rfl) (by go_simp; rfl) (by go_simp) ?_
  refine eqf_cons (by rfl) (by go_simp; rfl) (by go_simp; rfl) (by go_simp) ?_
  exact eqf_last (by rfl) (by go_simp; rfl) (by go_simp; rfl) (by go_simp)
end
section
theorem eqA25 (d : Nat) (w : World) (x0 y0 : Int) (x1 y1 : Int) (x2 y2 : Int) (x3 y3 : Int) :
    (Op.equalIn (d + 2) 25 (.agg #[.int .i64 x0, .int .i64 x1, .int .i64 x2, .int .i64 x3]) (.agg #[.int .i64 y0, .int .i64 y1, .int .i64 y2, .int .i64 y3])).run Try.prog w = .ok (x0 == y0 && (x1 == y1 && (x2 == y2 && (x3 == y3)))) w := by
  refine eqA_of Try.underlying25 (by kernel_rfl) ?_
  refine eqf_cons (by rfl) (by go_simp; rfl) (by go_simp; rfl) (by go_simp) ?_
  refine eqf_cons (by rfl) (by go_simp; rfl) (by go_simp; rfl) (by go_simp) ?_
  refine eqf_cons (by rfl) (by go_simp; rfl) (by go_simp; rfl) (by go_simp) ?_
  exact eqf_last (by rfl) (by go_simp; rfl) (by go_simp; rfl) (by go_simp)
end
section
/-! ### grids_outside: function 46 -/
def grids_outside.f (a0 : Int) (a1 : Int) : Option (Bool) := (some (wrap64 (-a1))).bind fun z101 => (if a0 < z101 then (some true) else (some (decide (a0 > a1))))
set_option maxHeartbeats 8000000 in
set_option maxRecDepth 100000 in
theorem grids_outside.calls (a0 : Int) (a1 : Int) (r : Bool) (w : World) (h : grids_outside.f a0 a1 = some r) :
    Calls Try.prog 46 #[.int .i64 a0, .int .i64 a1] w fun e w' => e = .returned (.bool r) ∧ Drawn0 w w' := by
  have H : ((some (wrap64 (-a1))).bind fun z101 => (if a0 < z101 then (some true) else (some (decide (a0 > a1))))) = some r := h
  clear h
  obtain ⟨z101, E30, H⟩ := oc H
  have E3w : (IntKind.i64.wrap (-a1)) = z101 := (i64_w _).trans E30
  by_cases c4 : a0 < z101
  · rw [if_pos c4] at H
    have c4b0 : decide (a0 < z101) = true := decide_eq_true c4
    clear c4
    obtain rfl := Option.some.inj H
    go_enter Try.func46, Try.ntmps46
    go_wp2
    go_ret
    exact ⟨by first | rfl | (simp; done) | (simp [*]; done), by repeat (first | exact Drawn0.refl _ | apply Drawn0.step)⟩
  · rw [if_neg c4] at H
    have c4b0 : decide (a0 < z101) = false := decide_eq_false c4
    clear c4
    obtain rfl := Option.some.inj H
    go_enter Try.func46, Try.ntmps46
    go_wp2
    go_ret
    exact ⟨by first | rfl | (simp; done) | (simp [*]; done), by repeat (first | exact Drawn0.refl _ | apply Drawn0.step)⟩
end
section
/-! ### grids_Check: function 14 -/
def grids_Check.j0 : Nat → Bool → Option (Int)
  | 0, _ => none
  | k + 1, x38 => if x38 = true then (some 2) else (some 0)
def grids_Check.f (k : Nat) (a0_0 : Int) (a0_1 : Int) (a0_2 : Int) : Option (Int) := if a0_0 < 1 then (grids_Check.j0 k true) else (if a0_2 < 1 then (grids_Check.j0 k true) else (if a0_0 > 10000 then (grids_Check.j0 k true) else (if a0_2 > 10000 then (grids_Check.j0 k true) else ((grids_outside.f a0_1 10000).bind fun t103 => (if t103 = true then (grids_Check.j0 k true) else ((some (wrap64 (a0_0 * a0_2))).bind fun z104 => ((some (wrap64 (a0_1 * a0_1))).bind fun z105 => (grids_Check.j0 k (decide (z104 ≤ z105))))))))))
theorem grids_Check.mono_l : ∀ k, (∀ y0, LeO (grids_Check.j0 k y0) (grids_Check.j0 (k + 1) y0))
  | 0 => fun _ r h => by simp [grids_Check.j0] at h
  | k + 1 => by
    have ih0 := grids_Check.mono_l k
    · intro y0
      unfold grids_Check.j0
      repeat' first
      | (with_reducible exact ih0 _)
      | (with_reducible exact LeO.refl _)
      | (with_reducible exact LeO.none _)
      | (with_reducible refine LeO.ite ?_ ?_)
      | (with_reducible refine LeO.bind ?_ (fun _ => ?_))
      | exact ih0 _
      | exact LeO.none _
      | refine LeO.ite ?_ ?_
      | refine LeO.bind ?_ (fun _ => ?_)
theorem grids_Check.mono : ∀ a0 a1 a2 k, LeO (grids_Check.f k a0 a1 a2) (grids_Check.f (k + 1) a0 a1 a2) := by
  intro a0 a1 a2 k
  have ih0 := grids_Check.mono_l k
  unfold grids_Check.f
  repeat' first
      | (with_reducible exact ih0 _)
      | (with_reducible exact LeO.refl _)
      | (with_reducible exact LeO.none _)
      | (with_reducible refine LeO.ite ?_ ?_)
      | (with_reducible refine LeO.bind ?_ (fun _ => ?_))
      | exact ih0 _
      | exact LeO.none _
      | refine LeO.ite ?_ ?_
      | refine LeO.bind ?_ (fun _ => ?_)
set_option maxHeartbeats 8000000 in
set_option maxRecDepth 100000 in
theorem grids_Check.calls (k : Nat) (a0_0 : Int) (a0_1 : Int) (a0_2 : Int) (r : Int) (w : World) (h : grids_Check.f k a0_0 a0_1 a0_2 = some r) :
    Calls Try.prog 14 #[.agg #[.int .i64 a0_0, .int .i64 a0_1, .int .i64 a0_2]] w fun e w' => e = .returned (.int .i64 r) ∧ Below w.heap.size w w' := by
  have hu23 := Try.underlying23
  have HB := Aside0.mk (Below.refl w.heap.size w)
  have H : (if a0_0 < 1 then (grids_Check.j0 k true) else (if a0_2 < 1 then (grids_Check.j0 k true) else (if a0_0 > 10000 then (grids_Check.j0 k true) else (if a0_2 > 10000 then (grids_Check.j0 k true) else ((grids_outside.f a0_1 10000).bind fun t103 => (if t103 = true then (grids_Check.j0 k true) else ((some (wrap64 (a0_0 * a0_2))).bind fun z104 => ((some (wrap64 (a0_1 * a0_1))).bind fun z105 => (grids_Check.j0 k (decide (z104 ≤ z105))))))))))) = some r := h
  clear h
  have HC2 := Aside0.mk H
  clear H
  go_enter Try.func14, Try.ntmps14
  go_upto_region 1 with (first | ((with_reducible refine gate_dst (N := 1) rfl ?_); refine bx 1 #[.int .i64 a0_0, .int .i64 a0_1, .int .i64 a0_2] 23 fun gb102 hg w3 BK102 hb => ?_; have GW102 := gw hg HB; have GE102 := gw hg HB; replace HB := bst HB hb; clear hb hg))
  (try simp only [Act.put, List.setIfInBounds_toArray, List.set_cons_zero, List.set_cons_succ])
  go_cut [38] (fun v38 wc => ∃ (kq : Nat) (x38_1 : Bool), v38 = .bool x38_1 ∧ Aside0 (grids_Check.j0 kq x38_1 = some r) ∧ Aside0 (kq ≤ k) ∧ Aside0 (wc.heap[gb102]? = some (.cells #[.int .i64 a0_0, .int .i64 a0_1, .int .i64 a0_2] 23 (0, 0))) ∧ Aside0 (Below w.heap.size w wc))
  case first =>
    have H := HC2.out
    clear HC2
    by_cases c4 : a0_0 < 1
    · rw [if_pos c4] at H
      have c4b0 : decide (a0_0 < 1) = true := decide_eq_true c4
      clear c4
      (first | rw [c4b0] | (simp only [i64_w, i32_w]; rw [c4b0]) | skip)
      have H' := Aside0.mk H
      clear H
      have ⟨hcz5_0, hcz5_1, hcz5_2, hfz5_0, hfz5_1, hfz5_2⟩ := cf3 BK102
      go_wp2
      go_meet
      case rel => exact ⟨_, (true), (by first | rfl | (simp; done) | (simp [*]; done)), H', ⟨by first | omega | exact Nat.le_refl _⟩, ⟨pk BK102⟩, ⟨bnow HB⟩⟩
    · rw [if_neg c4] at H
      have c4b0 : decide (a0_0 < 1) = false := decide_eq_false c4
      clear c4
      (first | rw [c4b0] | (simp only [i64_w, i32_w]; rw [c4b0]) | skip)
      by_cases c6 : a0_2 < 1
      · rw [if_pos c6] at H
        have c6b0 : decide (a0_2 < 1) = true := decide_eq_true c6
        clear c6
        have H' := Aside0.mk H
        clear H
        have ⟨hcz7_0, hcz7_1, hcz7_2, hfz7_0, hfz7_1, hfz7_2⟩ := cf3 BK102
        go_wp2
        go_meet
        case rel => exact ⟨_, (true), (by first | rfl | (simp; done) | (simp [*]; done)), H', ⟨by first | omega | exact Nat.le_refl _⟩, ⟨pk BK102⟩, ⟨bnow HB⟩⟩
      · rw [if_neg c6] at H
        have c6b0 : decide (a0_2 < 1) = false := decide_eq_false c6
        clear c6
        by_cases c8 : a0_0 > 10000
        · rw [if_pos c8] at H
          have c8b0 : decide (10000 < a0_0) = true := decide_eq_true c8
          clear c8
          have H' := Aside0.mk H
          clear H
          have ⟨hcz9_0, hcz9_1, hcz9_2, hfz9_0, hfz9_1, hfz9_2⟩ := cf3 BK102
          go_wp2
          go_meet
          case rel => exact ⟨_, (true), (by first | rfl | (simp; done) | (simp [*]; done)), H', ⟨by first | omega | exact Nat.le_refl _⟩, ⟨pk BK102⟩, ⟨bnow HB⟩⟩
        · rw [if_neg c8] at H
          have c8b0 : decide (10000 < a0_0) = false := decide_eq_false c8
          clear c8
          by_cases c10 : a0_2 > 10000
          · rw [if_pos c10] at H
            have c10b0 : decide (10000 < a0_2) = true := decide_eq_true c10
            clear c10
            have H' := Aside0.mk H
            clear H
            have ⟨hcz11_0, hcz11_1, hcz11_2, hfz11_0, hfz11_1, hfz11_2⟩ := cf3 BK102
            go_wp2
            go_meet
            case rel => exact ⟨_, (true), (by first | rfl | (simp; done) | (simp [*]; done)), H', ⟨by first | omega | exact Nat.le_refl _⟩, ⟨pk BK102⟩, ⟨bnow HB⟩⟩
          · rw [if_neg c10] at H
            have c10b0 : decide (10000 < a0_2) = false := decide_eq_false c10
            clear c10
            obtain ⟨t103, A12, H⟩ := ob H
            by_cases c13 : t103 = true
            · subst c13
              have H1 : (grids_Check.j0 k true) = some r := by rw [if_pos rfl] at H; exact H
              clear H
              have H := H1
              clear H1
              have H' := Aside0.mk H
              clear H
              have ⟨hcz14_0, hcz14_1, hcz14_2, hfz14_0, hfz14_1, hfz14_2⟩ := cf3 BK102
              go_wp2_with (first | (go_at_call 46; (with_reducible refine (grids_outside.calls a0_1 10000 true _ A12.out).mono ?_); rintro e w' ⟨rfl, ⟨nd, rfl⟩⟩))
              go_meet
              case rel => exact ⟨_, (true), (by first | rfl | (simp; done) | (simp [*]; done)), H', ⟨by first | omega | exact Nat.le_refl _⟩, ⟨pk BK102⟩, ⟨bnow HB⟩⟩
            · replace c13 := Bool.eq_false_iff.mpr c13
              subst c13
              have H1 : ((some (wrap64 (a0_0 * a0_2))).bind fun z104 => ((some (wrap64 (a0_1 * a0_1))).bind fun z105 => (grids_Check.j0 k (decide (z104 ≤ z105))))) = some r := by rw [if_neg (show ¬ (false = true) by decide)] at H; exact H
              clear H
              have H := H1
              clear H1
              obtain ⟨z104, E150, H⟩ := oc H
              have E15w : (IntKind.i64.wrap (a0_0 * a0_2)) = z104 := (i64_w _).trans E150
              obtain ⟨z105, E160, H⟩ := oc H
              have E16w : (IntKind.i64.wrap (a0_1 * a0_1)) = z105 := (i64_w _).trans E160
              have H' := Aside0.mk H
              clear H
              have ⟨hcz17_0, hcz17_1, hcz17_2, hfz17_0, hfz17_1, hfz17_2⟩ := cf3 BK102
              go_wp2_with (first | (go_at_call 46; (with_reducible refine (grids_outside.calls a0_1 10000 false _ A12.out).mono ?_); rintro e w' ⟨rfl, ⟨nd, rfl⟩⟩))
              go_meet
              case rel => exact ⟨_, (decide (z104 ≤ z105)), (by first | rfl | (simp; done) | (simp [*]; done)), H', ⟨by first | omega | exact Nat.le_refl _⟩, ⟨pk BK102⟩, ⟨bnow HB⟩⟩
  case rest =>
    clear HC2
    try clear c1; try clear p2; try clear c4; try clear c4b0; try clear c6; try clear c6b0; try clear p6; try clear c8; try clear c8b0; try clear c10; try clear c10b0; try clear c13; try clear c14; try clear hcz11_0; try clear hcz11_1; try clear hcz11_2; try clear hcz14_0; try clear hcz14_1; try clear hcz14_2; try clear hcz17_0; try clear hcz17_1; try clear hcz17_2; try clear hcz5_0; try clear hcz5_1; try clear hcz5_2; try clear hcz7_0; try clear hcz7_1; try clear hcz7_2; try clear hcz9_0; try clear hcz9_1; try clear hcz9_2; try clear hfz11_0; try clear hfz11_1; try clear hfz11_2; try clear hfz14_0; try clear hfz14_1; try clear hfz14_2; try clear hfz17_0; try clear hfz17_1; try clear hfz17_2; try clear hfz5_0; try clear hfz5_1; try clear hfz5_2; try clear hfz7_0; try clear hfz7_1; try clear hfz7_2; try clear hfz9_0; try clear hfz9_1; try clear hfz9_2
    obtain ⟨kq, x38_1, rfl, HA, HJ1, BK102, HB⟩ := hcut
    cases kq with
    | zero => exact absurd HA.out (by simp [grids_Check.j0])
    | succ kj1 =>
      have H := HA.out
      clear HA
      simp only [grids_Check.j0] at H
      by_cases c18 : x38_1 = true
      · subst c18
        have H1 : (some 2) = some r := by rw [if_pos rfl] at H; exact H
        clear H
        have H := H1
        clear H1
        obtain rfl := Option.some.inj H
        go_wp2
        go_ret
        exact rt HB
      · replace c18 := Bool.eq_false_iff.mpr c18
        subst c18
        have H1 : (some 0) = some r := by rw [if_neg (show ¬ (false = true) by decide)] at H; exact H
        clear H
        have H := H1
        clear H1
        obtain rfl := Option.some.inj H
        go_wp2
        go_ret
        exact rt HB
end
section
/-! ### grids_times: function 40 -/
def grids_times.f (a0_0 : Int) (a0_1 : Int) (a0_2 : Int) (a0_3 : Int) (a1_0 : Int) (a1_1 : Int) (a1_2 : Int) (a1_3 : Int) : Option (Int × Int × Int × Int) := (some (wrap64 (a0_0 * a1_0))).bind fun z109 => ((some (wrap64 (a0_1 * a1_2))).bind fun z110 => ((some (wrap64 (z109 + z110))).bind fun z111 => ((some (wrap64 (a0_0 * a1_1))).bind fun z112 => ((some (wrap64 (a0_1 * a1_3))).bind fun z113 => ((some (wrap64 (z112 + z113))).bind fun z114 => ((some (wrap64 (a0_2 * a1_0))).bind fun z115 => ((some (wrap64 (a0_3 * a1_2))).bind fun z116 => ((some (wrap64 (z115 + z116))).bind fun z117 => ((some (wrap64 (a0_2 * a1_1))).bind fun z118 => ((some (wrap64 (a0_3 * a1_3))).bind fun z119 => ((some (wrap64 (z118 + z119))).bind fun z120 => (some (z111, z114, z117, z120)))))))))))))
set_option maxHeartbeats 8000000 in
set_option maxRecDepth 100000 in
theorem grids_times.calls (a0_0 : Int) (a0_1 : Int) (a0_2 : Int) (a0_3 : Int) (a1_0 : Int) (a1_1 : Int) (a1_2 : Int) (a1_3 : Int) (r1 : Int) (r2 : Int) (r3 : Int) (r4 : Int) (w : World) (h : grids_times.f a0_0 a0_1 a0_2 a0_3 a1_0 a1_1 a1_2 a1_3 = some (r1, r2, r3, r4)) :
    Calls Try.prog 40 #[.agg #[.int .i64 a0_0, .int .i64 a0_1, .int .i64 a0_2, .int .i64 a0_3], .agg #[.int .i64 a1_0, .int .i64 a1_1, .int .i64 a1_2, .int .i64 a1_3]] w fun e w' => e = .returned (.agg #[.int .i64 r1, .int .i64 r2, .int .i64 r3, .int .i64 r4]) ∧ Below w.heap.size w w' := by
  have hu25 := Try.underlying25
  have HB := Aside0.mk (Below.refl w.heap.size w)
  have H : ((some (wrap64 (a0_0 * a1_0))).bind fun z109 => ((some (wrap64 (a0_1 * a1_2))).bind fun z110 => ((some (wrap64 (z109 + z110))).bind fun z111 => ((some (wrap64 (a0_0 * a1_1))).bind fun z112 => ((some (wrap64 (a0_1 * a1_3))).bind fun z113 => ((some (wrap64 (z112 + z113))).bind fun z114 => ((some (wrap64 (a0_2 * a1_0))).bind fun z115 => ((some (wrap64 (a0_3 * a1_2))).bind fun z116 => ((some (wrap64 (z115 + z116))).bind fun z117 => ((some (wrap64 (a0_2 * a1_1))).bind fun z118 => ((some (wrap64 (a0_3 * a1_3))).bind fun z119 => ((some (wrap64 (z118 + z119))).bind fun z120 => (some (z111, z114, z117, z120)))))))))))))) = some (r1, r2, r3, r4) := h
  clear h
  obtain ⟨z109, E30, H⟩ := oc H
  have E3w : (IntKind.i64.wrap (a0_0 * a1_0)) = z109 := (i64_w _).trans E30
  obtain ⟨z110, E40, H⟩ := oc H
  have E4w : (IntKind.i64.wrap (a0_1 * a1_2)) = z110 := (i64_w _).trans E40
  obtain ⟨z111, E50, H⟩ := oc H
  have E5w : (IntKind.i64.wrap (z109 + z110)) = z111 := (i64_w _).trans E50
  obtain ⟨z112, E60, H⟩ := oc H
  have E6w : (IntKind.i64.wrap (a0_0 * a1_1)) = z112 := (i64_w _).trans E60
  obtain ⟨z113, E70, H⟩ := oc H
  have E7w : (IntKind.i64.wrap (a0_1 * a1_3)) = z113 := (i64_w _).trans E70
  obtain ⟨z114, E80, H⟩ := oc H
  have E8w : (IntKind.i64.wrap (z112 + z113)) = z114 := (i64_w _).trans E80
  obtain ⟨z115, E90, H⟩ := oc H
  have E9w : (IntKind.i64.wrap (a0_2 * a1_0)) = z115 := (i64_w _).trans E90
  obtain ⟨z116, E100, H⟩ := oc H
  have E10w : (IntKind.i64.wrap (a0_3 * a1_2)) = z116 := (i64_w _).trans E100
  obtain ⟨z117, E110, H⟩ := oc H
  have E11w : (IntKind.i64.wrap (z115 + z116)) = z117 := (i64_w _).trans E110
  obtain ⟨z118, E120, H⟩ := oc H
  have E12w : (IntKind.i64.wrap (a0_2 * a1_1)) = z118 := (i64_w _).trans E120
  obtain ⟨z119, E130, H⟩ := oc H
  have E13w : (IntKind.i64.wrap (a0_3 * a1_3)) = z119 := (i64_w _).trans E130
  obtain ⟨z120, E140, H⟩ := oc H
  have E14w : (IntKind.i64.wrap (z118 + z119)) = z120 := (i64_w _).trans E140
  simp only [Option.some.injEq, Prod.mk.injEq] at H
  obtain ⟨rfl, rfl, rfl, rfl⟩ := H
  go_enter Try.func40, Try.ntmps40
  go_wp2_with (first | ((with_reducible refine gate_dst (N := 2) rfl ?_); refine bx 2 #[.int .i64 a0_0, .int .i64 a0_1, .int .i64 a0_2, .int .i64 a0_3] 25 fun gb106 hg w15 BK106 hb => ?_; have GW106 := gw hg HB; have GE106 := gw hg HB; replace HB := bst HB hb; clear hb hg) | ((with_reducible refine gate_dst (N := 3) rfl ?_); refine bx 3 #[.int .i64 a1_0, .int .i64 a1_1, .int .i64 a1_2, .int .i64 a1_3] 25 fun gb107 hg w16 BK107 hb => ?_; have GW107 := gw hg HB; have GE107 := gw hg HB; have NB106_107 := nlt hg BK106; have NB107_106 := ngt hg BK106; replace BK106 := bb BK106 hb; replace HB := bst HB hb; clear hb hg) | ((with_reducible refine gate_dst (N := 4) rfl ?_); refine bx 4 #[.int .i64 0, .int .i64 0, .int .i64 0, .int .i64 0] 25 fun gb108 hg w17 BK108 hb => ?_; have GW108 := gw hg HB; have GE108 := gw hg HB; have NB106_108 := nlt hg BK106; have NB108_106 := ngt hg BK106; have NB107_108 := nlt hg BK107; have NB108_107 := ngt hg BK107; replace BK106 := bb BK106 hb; replace BK107 := bb BK107 hb; replace HB := bst HB hb; clear hb hg; have hnb18 := NB106_107.out; have hnc18 := NB107_106.out; have hnb19 := NB106_108.out; have hnc19 := NB108_106.out; have ⟨hcz20_0, hcz20_1, hcz20_2, hcz20_3, hfz20_0, hfz20_1, hfz20_2, hfz20_3⟩ := cf4 BK106; have hnb21 := NB107_108.out; have hnc21 := NB108_107.out; have ⟨hcz22_0, hcz22_1, hcz22_2, hcz22_3, hfz22_0, hfz22_1, hfz22_2, hfz22_3⟩ := cf4 BK107; have ⟨hcz23_0, hcz23_1, hcz23_2, hcz23_3, hfz23_0, hfz23_1, hfz23_2, hfz23_3⟩ := cf4 BK108) | ((with_reducible refine gate_store (t := 25) (p := 4) rfl ?_); refine sx 25 4 (((((w17.setCell ⟨gb108, 0, none⟩ (.int .i64 z111)).setCell ⟨gb108, 1, none⟩ (.int .i64 z114)).setCell ⟨gb108, 2, none⟩ (.int .i64 z117)).setCell ⟨gb108, 3, none⟩ (.int .i64 z120))) fun w24 hw => ?_; replace BK106 := fw hw BK106; replace BK107 := fw hw BK107; replace BK108 := pw4 hw BK108; replace HB := bw hw HB; clear hw))
  refine bodyPost_ret (results_cell_row rfl _ _ gb108 25 #[.int .i64 z111, .int .i64 z114, .int .i64 z117, .int .i64 z120] (0, 0) _ rfl (pk BK108) Try.underlying25 rfl (by kernel_rfl)) rfl ?_
  exact rt HB
end
section
/-! ### grids_floor: function 71 -/
def grids_floor.f (a0 : Int) (a1 : Int) : Option (Int) := if a1 = 0 then (none) else ((some (wrap64 (Int.tdiv a0 a1))).bind fun z121 => ((some (Int.tmod a0 a1)).bind fun z122 => (if z122 = 0 then (some z121) else (if ((decide (a0 < 0)) != (decide (a1 < 0))) = true then ((some (wrap64 (z121 - 1))).bind fun z123 => (some z123)) else (some z121)))))
set_option maxHeartbeats 8000000 in
set_option maxRecDepth 100000 in
theorem grids_floor.calls (a0 : Int) (a1 : Int) (r : Int) (w : World) (h : grids_floor.f a0 a1 = some r) :
    Calls Try.prog 71 #[.int .i64 a0, .int .i64 a1] w fun e w' => e = .returned (.int .i64 r) ∧ Drawn0 w w' := by
  have H : (if a1 = 0 then (none) else ((some (wrap64 (Int.tdiv a0 a1))).bind fun z121 => ((some (Int.tmod a0 a1)).bind fun z122 => (if z122 = 0 then (some z121) else (if ((decide (a0 < 0)) != (decide (a1 < 0))) = true then ((some (wrap64 (z121 - 1))).bind fun z123 => (some z123)) else (some z121)))))) = some r := h
  clear h
  by_cases c3 : a1 = 0
  · rw [if_pos c3] at H
    exact absurd H (by simp)
  · rw [if_neg c3] at H
    have c3b0 : (a1 == 0) = false := beq_eq_false_iff_ne.mpr c3
    have c3b1 : (a1 != 0) = true := bne_iff_ne.mpr c3
    obtain ⟨z121, E40, H⟩ := oc H
    have E4w : (IntKind.i64.wrap (Int.tdiv a0 a1)) = z121 := (i64_w _).trans E40
    obtain ⟨z122, E50, H⟩ := oc H
    by_cases c6 : z122 = 0
    · rw [if_pos c6] at H
      have c6b0 : (z122 == 0) = true := beq_iff_eq.mpr c6
      have c6b1 : (z122 != 0) = false := bne_eq_false_iff_eq.mpr c6
      clear c6
      obtain rfl := Option.some.inj H
      go_enter Try.func71, Try.ntmps71
      go_wp2
      go_ret
      exact ⟨by first | rfl | (simp; done) | (simp [*]; done), by repeat (first | exact Drawn0.refl _ | apply Drawn0.step)⟩
    · rw [if_neg c6] at H
      have c6b0 : (z122 == 0) = false := beq_eq_false_iff_ne.mpr c6
      have c6b1 : (z122 != 0) = true := bne_iff_ne.mpr c6
      by_cases c7 : ((decide (a0 < 0)) != (decide (a1 < 0))) = true
      · rw [if_pos c7] at H
        have c7b0 : ((decide (a0 < 0)) != (decide (a1 < 0))) = true := c7
        (try (have c7b1 : decide ((decide (a0 < 0)) = (decide (a1 < 0))) = false := by simpa using c7))
        (try (have c7b2 : ((decide (a0 < 0)) == (decide (a1 < 0))) = false := by simpa using c7))
        (try (have c7b3 : ¬ ((decide (a0 < 0)) = (decide (a1 < 0))) := by simpa using c7))
        clear c7
        obtain ⟨z123, E80, H⟩ := oc H
        have E8w : (IntKind.i64.wrap (z121 - 1)) = z123 := (i64_w _).trans E80
        obtain rfl := Option.some.inj H
        go_enter Try.func71, Try.ntmps71
        go_wp2
        go_ret
        exact ⟨by first | rfl | (simp; done) | (simp [*]; done), by repeat (first | exact Drawn0.refl _ | apply Drawn0.step)⟩
      · rw [if_neg c7] at H
        have c7b0 : ((decide (a0 < 0)) != (decide (a1 < 0))) = false := by simpa using c7
        (try (have c7b1 : decide ((decide (a0 < 0)) = (decide (a1 < 0))) = true := by simpa using c7))
        (try (have c7b2 : ((decide (a0 < 0)) == (decide (a1 < 0))) = true := by simpa using c7))
        clear c7
        obtain rfl := Option.some.inj H
        go_enter Try.func71, Try.ntmps71
        go_wp2
        go_ret
        exact ⟨by first | rfl | (simp; done) | (simp [*]; done), by repeat (first | exact Drawn0.refl _ | apply Drawn0.step)⟩
end
section
/-! ### grids_reduce: function 38 -/
mutual
def grids_reduce.l0 : Nat → Int → Int → Int → Int → Int → Int → Int → Option (Int × Int × Int × Int × Int × Int × Int)
  | 0, _, _, _, _, _, _, _ => none
  | k + 1, x125000, x125001, x125002, x128000, x128001, x128002, x128003 => (some (wrap64 (2 * x125001))).bind fun z128 => ((some (wrap64 (z128 + x125000))).bind fun z129 => ((some (wrap64 (2 * x125000))).bind fun z130 => ((grids_floor.f z129 z130).bind fun t131 => ((some (wrap64 (-t131))).bind fun z132 => ((grids_times.f x128000 x128001 x128002 x128003 1 z132 0 1).bind fun bt133 => ((some (wrap64 (t131 * x125000))).bind fun z137 => ((some (wrap64 (x125001 - z137))).bind fun z138 => ((some (wrap64 (2 * t131))).bind fun z139 => ((some (wrap64 (z139 * x125001))).bind fun z140 => ((some (wrap64 (x125002 - z140))).bind fun z141 => ((some (wrap64 (t131 * t131))).bind fun z142 => ((some (wrap64 (z142 * x125000))).bind fun z143 => ((some (wrap64 (z141 + z143))).bind fun z144 => (if z138 < 0 then ((some (wrap64 (-z138))).bind fun z145 => ((some (wrap64 (-bt133.2.1))).bind fun z146 => ((some (wrap64 (-bt133.2.2.2))).bind fun z147 => (grids_reduce.j1 k x125000 z145 z144 bt133.1 z146 bt133.2.2.1 z147)))) else (grids_reduce.j1 k x125000 z138 z144 bt133.1 bt133.2.1 bt133.2.2.1 bt133.2.2.2)))))))))))))))
def grids_reduce.j1 : Nat → Int → Int → Int → Int → Int → Int → Int → Option (Int × Int × Int × Int × Int × Int × Int)
  | 0, _, _, _, _, _, _, _ => none
  | k + 1, x125000, x125001, x125002, x128000, x128001, x128002, x128003 => if x125000 ≤ x125002 then (some (x125000, x125001, x125002, x128000, x128001, x128002, x128003)) else (grids_reduce.l0 k x125002 x125001 x125000 x128001 x128000 x128003 x128002)
end
def grids_reduce.f (k : Nat) (a0_0 : Int) (a0_1 : Int) (a0_2 : Int) : Option (Int × Int × Int × Int × Int × Int × Int) := grids_reduce.l0 k a0_0 a0_1 a0_2 1 0 0 1
theorem grids_reduce.mono_l : ∀ k, (∀ y0 y1 y2 y3 y4 y5 y6, LeO (grids_reduce.l0 k y0 y1 y2 y3 y4 y5 y6) (grids_reduce.l0 (k + 1) y0 y1 y2 y3 y4 y5 y6)) ∧ (∀ y0 y1 y2 y3 y4 y5 y6, LeO (grids_reduce.j1 k y0 y1 y2 y3 y4 y5 y6) (grids_reduce.j1 (k + 1) y0 y1 y2 y3 y4 y5 y6))
  | 0 => ⟨fun _ _ _ _ _ _ _ r h => by simp [grids_reduce.l0] at h, fun _ _ _ _ _ _ _ r h => by simp [grids_reduce.j1] at h⟩
  | k + 1 => by
    obtain ⟨ih0, ih1⟩ := grids_reduce.mono_l k
    refine ⟨?_, ?_⟩
    · intro y0 y1 y2 y3 y4 y5 y6
      unfold grids_reduce.l0
      repeat' first
      | (with_reducible exact ih0 _ _ _ _ _ _ _)
      | (with_reducible exact ih1 _ _ _ _ _ _ _)
      | (with_reducible exact LeO.refl _)
      | (with_reducible exact LeO.none _)
      | (with_reducible refine LeO.ite ?_ ?_)
      | (with_reducible refine LeO.bind ?_ (fun _ => ?_))
      | exact ih0 _ _ _ _ _ _ _
      | exact ih1 _ _ _ _ _ _ _
      | exact LeO.none _
      | refine LeO.ite ?_ ?_
      | refine LeO.bind ?_ (fun _ => ?_)
    · intro y0 y1 y2 y3 y4 y5 y6
      unfold grids_reduce.j1
      repeat' first
      | (with_reducible exact ih0 _ _ _ _ _ _ _)
      | (with_reducible exact ih1 _ _ _ _ _ _ _)
      | (with_reducible exact LeO.refl _)
      | (with_reducible exact LeO.none _)
      | (with_reducible refine LeO.ite ?_ ?_)
      | (with_reducible refine LeO.bind ?_ (fun _ => ?_))
      | exact ih0 _ _ _ _ _ _ _
      | exact ih1 _ _ _ _ _ _ _
      | exact LeO.none _
      | refine LeO.ite ?_ ?_
      | refine LeO.bind ?_ (fun _ => ?_)
theorem grids_reduce.mono : ∀ a0 a1 a2 k, LeO (grids_reduce.f k a0 a1 a2) (grids_reduce.f (k + 1) a0 a1 a2) := by
  intro a0 a1 a2 k
  obtain ⟨ih0, ih1⟩ := grids_reduce.mono_l k
  unfold grids_reduce.f
  repeat' first
      | (with_reducible exact ih0 _ _ _ _ _ _ _)
      | (with_reducible exact ih1 _ _ _ _ _ _ _)
      | (with_reducible exact LeO.refl _)
      | (with_reducible exact LeO.none _)
      | (with_reducible refine LeO.ite ?_ ?_)
      | (with_reducible refine LeO.bind ?_ (fun _ => ?_))
      | exact ih0 _ _ _ _ _ _ _
      | exact ih1 _ _ _ _ _ _ _
      | exact LeO.none _
      | refine LeO.ite ?_ ?_
      | refine LeO.bind ?_ (fun _ => ?_)
set_option maxHeartbeats 8000000 in
set_option maxRecDepth 100000 in
theorem grids_reduce.calls (k : Nat) (a0_0 : Int) (a0_1 : Int) (a0_2 : Int) (r1 : Int) (r2 : Int) (r3 : Int) (r4 : Int) (r5 : Int) (r6 : Int) (r7 : Int) (w : World) (h : grids_reduce.f k a0_0 a0_1 a0_2 = some (r1, r2, r3, r4, r5, r6, r7)) :
    Calls Try.prog 38 #[.agg #[.int .i64 a0_0, .int .i64 a0_1, .int .i64 a0_2]] w fun e w' => e = .returned (.tuple #[.agg #[.int .i64 r1, .int .i64 r2, .int .i64 r3], .agg #[.int .i64 r4, .int .i64 r5, .int .i64 r6, .int .i64 r7]]) ∧ Below w.heap.size w w' := by
  have hu23 := Try.underlying23
  have hu25 := Try.underlying25
  have HB := Aside0.mk (Below.refl w.heap.size w)
  have H : (grids_reduce.l0 k a0_0 a0_1 a0_2 1 0 0 1) = some (r1, r2, r3, r4, r5, r6, r7) := h
  clear h
  have H' := Aside0.mk H
  clear H
  go_enter Try.func38, Try.ntmps38
  go_wp2_with (first | ((with_reducible refine gate_dst (N := 1) rfl ?_); refine bx 1 #[.int .i64 a0_0, .int .i64 a0_1, .int .i64 a0_2] 23 fun gb124 hg w2 BK124 hb => ?_; have GW124 := gw hg HB; have GE124 := gw hg HB; replace HB := bst HB hb; clear hb hg) | ((with_reducible refine gate_dst (N := 2) rfl ?_); refine bx 2 #[.int .i64 0, .int .i64 0, .int .i64 0] 23 fun gb125 hg w3 BK125 hb => ?_; have GW125 := gw hg HB; have GE125 := gw hg HB; have NB124_125 := nlt hg BK124; have NB125_124 := ngt hg BK124; replace BK124 := bb BK124 hb; replace HB := bst HB hb; clear hb hg) | ((with_reducible refine gate_dst (N := 3) rfl ?_); refine bx 3 #[.int .i64 0, .int .i64 0, .int .i64 0, .int .i64 0] 25 fun gb126 hg w4 BK126 hb => ?_; have GW126 := gw hg HB; have GE126 := gw hg HB; have NB124_126 := nlt hg BK124; have NB126_124 := ngt hg BK124; have NB125_126 := nlt hg BK125; have NB126_125 := ngt hg BK125; replace BK124 := bb BK124 hb; replace BK125 := bb BK125 hb; replace HB := bst HB hb; clear hb hg) | ((with_reducible refine gate_dst (N := 4) rfl ?_); refine bx 4 #[.int .i64 0, .int .i64 0, .int .i64 0, .int .i64 0] 25 fun gb127 hg w5 BK127 hb => ?_; have GW127 := gw hg HB; have GE127 := gw hg HB; have NB124_127 := nlt hg BK124; have NB127_124 := ngt hg BK124; have NB125_127 := nlt hg BK125; have NB127_125 := ngt hg BK125; have NB126_127 := nlt hg BK126; have NB127_126 := ngt hg BK126; replace BK124 := bb BK124 hb; replace BK125 := bb BK125 hb; replace BK126 := bb BK126 hb; replace HB := bst HB hb; clear hb hg; have hnb6 := NB127_124.out; have hnc6 := NB124_127.out; have hnb7 := NB127_125.out; have hnc7 := NB125_127.out; have hnb8 := NB127_126.out; have hnc8 := NB126_127.out; have ⟨hcz9_0, hcz9_1, hcz9_2, hcz9_3, hfz9_0, hfz9_1, hfz9_2, hfz9_3⟩ := cf4 BK127) | ((with_reducible refine gate_store (t := 25) (p := 4) rfl ?_); refine sx 25 4 (((((w5.setCell ⟨gb127, 0, none⟩ (.int .i64 1)).setCell ⟨gb127, 1, none⟩ (.int .i64 0)).setCell ⟨gb127, 2, none⟩ (.int .i64 0)).setCell ⟨gb127, 3, none⟩ (.int .i64 1))) fun w10 hw => ?_; replace BK124 := fw hw BK124; replace BK125 := fw hw BK125; replace BK126 := fw hw BK126; replace BK127 := pw4 hw BK127; replace HB := bw hw HB; clear hw))
  (try simp only [Act.put, List.setIfInBounds_toArray, List.set_cons_zero, List.set_cons_succ])
  go_loopg [] k (fun kq w' => ∃ (x125000_1 : Int) (x125001_1 : Int) (x125002_1 : Int) (x126000_1 : Int) (x126001_1 : Int) (x126002_1 : Int) (x127000_1 : Int) (x127001_1 : Int) (x127002_1 : Int) (x127003_1 : Int) (x128000_1 : Int) (x128001_1 : Int) (x128002_1 : Int) (x128003_1 : Int), Aside0 (grids_reduce.l0 kq x125000_1 x125001_1 x125002_1 x128000_1 x128001_1 x128002_1 x128003_1 = some (r1, r2, r3, r4, r5, r6, r7)) ∧ Aside0 (kq ≤ k) ∧ Aside0 (w'.heap[gb124]? = some (.cells #[.int .i64 x125000_1, .int .i64 x125001_1, .int .i64 x125002_1] 23 (0, 0))) ∧ Aside0 (w'.heap[gb125]? = some (.cells #[.int .i64 x126000_1, .int .i64 x126001_1, .int .i64 x126002_1] 23 (0, 0))) ∧ Aside0 (w'.heap[gb126]? = some (.cells #[.int .i64 x127000_1, .int .i64 x127001_1, .int .i64 x127002_1, .int .i64 x127003_1] 25 (0, 0))) ∧ Aside0 (w'.heap[gb127]? = some (.cells #[.int .i64 x128000_1, .int .i64 x128001_1, .int .i64 x128002_1, .int .i64 x128003_1] 25 (0, 0))) ∧ Aside0 (Below w.heap.size w w'))
  case atStart => exact ⟨(a0_0), (a0_1), (a0_2), (0), (0), (0), (0), (0), (0), (0), (1), (0), (0), (1), H', ⟨Nat.le_refl _⟩, ⟨pk BK124⟩, ⟨pk BK125⟩, ⟨pk BK126⟩, ⟨pk BK127⟩, ⟨bnow HB⟩⟩
  case round =>
    clear H'
    try clear p2; try clear c3; try clear c6; try clear c7; try clear c8; try clear hcz9_0; try clear hcz9_1; try clear hcz9_2; try clear hcz9_3; try clear hfz9_0; try clear hfz9_1; try clear hfz9_2; try clear hfz9_3
    obtain ⟨x125000_1, x125001_1, x125002_1, x126000_1, x126001_1, x126002_1, x127000_1, x127001_1, x127002_1, x127003_1, x128000_1, x128001_1, x128002_1, x128003_1, HA, HK1, BK124, BK125, BK126, BK127, HB⟩ := hrel
    cases gk with
    | zero => exact absurd HA.out (by simp [grids_reduce.l0])
    | succ k1 =>
      have H := HA.out
      clear HA
      simp only [grids_reduce.l0] at H
      obtain ⟨z128, E110, H⟩ := oc H
      have E11w : (IntKind.i64.wrap (2 * x125001_1)) = z128 := (i64_w _).trans E110
      obtain ⟨z129, E120, H⟩ := oc H
      have E12w : (IntKind.i64.wrap (z128 + x125000_1)) = z129 := (i64_w _).trans E120
      obtain ⟨z130, E130, H⟩ := oc H
      have E13w : (IntKind.i64.wrap (2 * x125000_1)) = z130 := (i64_w _).trans E130
      obtain ⟨t131, A14, H⟩ := ob H
      obtain ⟨z132, E150, H⟩ := oc H
      have E15w : (IntKind.i64.wrap (-t131)) = z132 := (i64_w _).trans E150
      obtain ⟨⟨t133, t134, t135, t136⟩, A16, H⟩ := ob H
      obtain ⟨z137, E170, H⟩ := oc H
      have E17w : (IntKind.i64.wrap (t131 * x125000_1)) = z137 := (i64_w _).trans E170
      obtain ⟨z138, E180, H⟩ := oc H
      have E18w : (IntKind.i64.wrap (x125001_1 - z137)) = z138 := (i64_w _).trans E180
      obtain ⟨z139, E190, H⟩ := oc H
      have E19w : (IntKind.i64.wrap (2 * t131)) = z139 := (i64_w _).trans E190
      obtain ⟨z140, E200, H⟩ := oc H
      have E20w : (IntKind.i64.wrap (z139 * x125001_1)) = z140 := (i64_w _).trans E200
      obtain ⟨z141, E210, H⟩ := oc H
      have E21w : (IntKind.i64.wrap (x125002_1 - z140)) = z141 := (i64_w _).trans E210
      obtain ⟨z142, E220, H⟩ := oc H
      have E22w : (IntKind.i64.wrap (t131 * t131)) = z142 := (i64_w _).trans E220
      obtain ⟨z143, E230, H⟩ := oc H
      have E23w : (IntKind.i64.wrap (z142 * x125000_1)) = z143 := (i64_w _).trans E230
      obtain ⟨z144, E240, H⟩ := oc H
      have E24w : (IntKind.i64.wrap (z141 + z143)) = z144 := (i64_w _).trans E240
      have HC25 := Aside0.mk H
      clear H
      have hnb26 := NB124_125.out
      have hnc26 := NB125_124.out
      have hnb27 := NB124_126.out
      have hnc27 := NB126_124.out
      have hnb28 := NB124_127.out
      have hnc28 := NB127_124.out
      have ⟨hcz29_0, hcz29_1, hcz29_2, hfz29_0, hfz29_1, hfz29_2⟩ := cf3 BK124
      go_upto_if 49 with (first | ((with_reducible refine gate_callee (f := 71) rfl ?_); refine goesL_ (some 16) rfl rfl Try.func71 (by kernel_rfl) rfl #[.int .i64 z129, .int .i64 z130] rfl am ?_; (with_reducible refine (grids_floor.calls z129 z130 t131 _ A14.out).mono ?_); rintro e w' ⟨rfl, ⟨nd, rfl⟩⟩; refine ⟨_, rfl, ?_⟩; (try (rw [drewN_self wr]; generalize hq_ : World.drewN wr _ = wr; have n0_ : Aside0 (wr.heap[gb124]? = some (.cells #[.int .i64 x125000_1, .int .i64 x125001_1, .int .i64 x125002_1] 23 (0, 0))) := ⟨by rw [← hq_]; exact (pk BK124)⟩; have n1_ : Aside0 (wr.heap[gb125]? = some (.cells #[.int .i64 x126000_1, .int .i64 x126001_1, .int .i64 x126002_1] 23 (0, 0))) := ⟨by rw [← hq_]; exact (pk BK125)⟩; have n2_ : Aside0 (wr.heap[gb126]? = some (.cells #[.int .i64 x127000_1, .int .i64 x127001_1, .int .i64 x127002_1, .int .i64 x127003_1] 25 (0, 0))) := ⟨by rw [← hq_]; exact (pk BK126)⟩; have n3_ : Aside0 (wr.heap[gb127]? = some (.cells #[.int .i64 x128000_1, .int .i64 x128001_1, .int .i64 x128002_1, .int .i64 x128003_1] 25 (0, 0))) := ⟨by rw [← hq_]; exact (pk BK127)⟩; have n4_ : Aside0 (Below w.heap.size w wr) := ⟨by rw [← hq_]; exact (bnow HB)⟩; clear BK124 BK125 BK126 BK127 HB hq_; have BK124 := n0_; have BK125 := n1_; have BK126 := n2_; have BK127 := n3_; have HB := n4_; clear n0_ n1_ n2_ n3_ n4_)); have hnb30 := NB127_125.out; have hnc30 := NB125_127.out; have hnb31 := NB127_126.out; have hnc31 := NB126_127.out; have ⟨hcz32_0, hcz32_1, hcz32_2, hcz32_3, hfz32_0, hfz32_1, hfz32_2, hfz32_3⟩ := cf4 BK127) | ((with_reducible refine gate_callee (f := 40) rfl ?_); refine gl 21 Try.func40 (grids_times.calls x128000_1 x128001_1 x128002_1 x128003_1 1 z132 0 1 t133 t134 t135 t136 _ A16.out) ?_; rintro e w33 ⟨rfl, hb⟩; refine ⟨_, rfl, ?_⟩; replace BK124 := bb BK124 hb; replace BK125 := bb BK125 hb; replace BK126 := bb BK126 hb; replace BK127 := bb BK127 hb; replace HB := bst HB hb; clear hb; have ⟨hcz34_0, hcz34_1, hcz34_2, hcz34_3, hfz34_0, hfz34_1, hfz34_2, hfz34_3⟩ := cf4 BK127) | ((with_reducible refine gate_store (t := 25) (p := 4) rfl ?_); refine sx 25 4 (((((w33.setCell ⟨gb127, 0, none⟩ (.int .i64 t133)).setCell ⟨gb127, 1, none⟩ (.int .i64 t134)).setCell ⟨gb127, 2, none⟩ (.int .i64 t135)).setCell ⟨gb127, 3, none⟩ (.int .i64 t136))) fun w35 hw => ?_; replace BK124 := fw hw BK124; replace BK125 := fw hw BK125; replace BK126 := fw hw BK126; replace BK127 := pw4 hw BK127; replace HB := bw hw HB; clear hw; have ⟨hcz36_0, hcz36_1, hcz36_2, hfz36_0, hfz36_1, hfz36_2⟩ := cf3 BK124) | ((with_reducible refine gate_store (t := 23) (p := 1) rfl ?_); refine sx 23 1 ((((w35.setCell ⟨gb124, 0, none⟩ (.int .i64 x125000_1)).setCell ⟨gb124, 1, none⟩ (.int .i64 z138)).setCell ⟨gb124, 2, none⟩ (.int .i64 z144))) fun w37 hw => ?_; replace BK124 := pw3 hw BK124; replace BK125 := fw hw BK125; replace BK126 := fw hw BK126; replace BK127 := fw hw BK127; replace HB := bw hw HB; clear hw; have ⟨hcz38_0, hcz38_1, hcz38_2, hfz38_0, hfz38_1, hfz38_2⟩ := cf3 BK124))
      (try simp only [Act.put, List.setIfInBounds_toArray, List.set_cons_zero, List.set_cons_succ])
      go_cut [] (fun wc => ∃ (kq : Nat) (x125001_24 : Int) (x128001_24 : Int) (x128003_24 : Int), Aside0 (grids_reduce.j1 kq x125000_1 x125001_24 z144 t133 x128001_24 t135 x128003_24 = some (r1, r2, r3, r4, r5, r6, r7)) ∧ Aside0 (kq ≤ k1) ∧ Aside0 (wc.heap[gb124]? = some (.cells #[.int .i64 x125000_1, .int .i64 x125001_24, .int .i64 z144] 23 (0, 0))) ∧ Aside0 (wc.heap[gb125]? = some (.cells #[.int .i64 x126000_1, .int .i64 x126001_1, .int .i64 x126002_1] 23 (0, 0))) ∧ Aside0 (wc.heap[gb126]? = some (.cells #[.int .i64 x127000_1, .int .i64 x127001_1, .int .i64 x127002_1, .int .i64 x127003_1] 25 (0, 0))) ∧ Aside0 (wc.heap[gb127]? = some (.cells #[.int .i64 t133, .int .i64 x128001_24, .int .i64 t135, .int .i64 x128003_24] 25 (0, 0))) ∧ Aside0 (Below w.heap.size w wc))
      case first =>
        have H := HC25.out
        clear HC25
        by_cases c39 : z138 < 0
        · rw [if_pos c39] at H
          have c39b0 : decide (z138 < 0) = true := decide_eq_true c39
          clear c39
          (first | rw [c39b0] | (simp only [i64_w, i32_w]; rw [c39b0]) | skip)
          obtain ⟨z145, E400, H⟩ := oc H
          have E40w : (IntKind.i64.wrap (-z138)) = z145 := (i64_w _).trans E400
          obtain ⟨z146, E410, H⟩ := oc H
          have E41w : (IntKind.i64.wrap (-t134)) = z146 := (i64_w _).trans E410
          obtain ⟨z147, E420, H⟩ := oc H
          have E42w : (IntKind.i64.wrap (-t136)) = z147 := (i64_w _).trans E420
          have H' := Aside0.mk H
          clear H
          have hnb43 := NB124_125.out
          have hnc43 := NB125_124.out
          have hnb44 := NB124_126.out
          have hnc44 := NB126_124.out
          have hnb45 := NB124_127.out
          have hnc45 := NB127_124.out
          have ⟨hcz46_0, hcz46_1, hcz46_2, hfz46_0, hfz46_1, hfz46_2⟩ := cf3 BK124
          have hnb47 := NB127_125.out
          have hnc47 := NB125_127.out
          have hnb48 := NB127_126.out
          have hnc48 := NB126_127.out
          have ⟨hcz49_0, hcz49_1, hcz49_2, hcz49_3, hfz49_0, hfz49_1, hfz49_2, hfz49_3⟩ := cf4 BK127
          go_wp2_with (first | ((with_reducible refine gate_store (t := 2) (p := 61) rfl ?_); refine sx 2 61 ((((w37.setCell ⟨gb124, 1, none⟩ (.int .i64 z145)).setCell ⟨gb127, 1, none⟩ (.int .i64 z146)).setCell ⟨gb127, 3, none⟩ (.int .i64 z147))) fun w50 hw => ?_; have n0_ : Aside0 (w50.heap[gb124]? = some (.cells #[.int .i64 x125000_1, .int .i64 z145, .int .i64 z144] 23 (0, 0))) := ⟨(by rw [hw]; exact (by (with_reducible repeat (first | refine blk_drewN ?_ _ | refine blk_drew ?_ | refine blk_alloc ?_ _)); refine blk_far ?_ NB124_127.out _; (with_reducible repeat (first | refine blk_drewN ?_ _ | refine blk_drew ?_ | refine blk_alloc ?_ _)); refine blk_far ?_ NB124_127.out _; (with_reducible repeat (first | refine blk_drewN ?_ _ | refine blk_drew ?_ | refine blk_alloc ?_ _)); refine blk_put (cs := #[.int .i64 x125000_1, .int .i64 z138, .int .i64 z144]) ?_ 1 _ rfl; (with_reducible repeat (first | refine blk_drewN ?_ _ | refine blk_drew ?_ | refine blk_alloc ?_ _)); exact BK124.out))⟩; have n1_ := fw hw BK125; have n2_ := fw hw BK126; have n3_ : Aside0 (w50.heap[gb127]? = some (.cells #[.int .i64 t133, .int .i64 z146, .int .i64 t135, .int .i64 z147] 25 (0, 0))) := ⟨(by rw [hw]; exact (by (with_reducible repeat (first | refine blk_drewN ?_ _ | refine blk_drew ?_ | refine blk_alloc ?_ _)); refine blk_put (cs := #[.int .i64 t133, .int .i64 z146, .int .i64 t135, .int .i64 t136]) ?_ 3 _ rfl; (with_reducible repeat (first | refine blk_drewN ?_ _ | refine blk_drew ?_ | refine blk_alloc ?_ _)); refine blk_put (cs := #[.int .i64 t133, .int .i64 t134, .int .i64 t135, .int .i64 t136]) ?_ 1 _ rfl; (with_reducible repeat (first | refine blk_drewN ?_ _ | refine blk_drew ?_ | refine blk_alloc ?_ _)); refine blk_far ?_ NB127_124.out _; (with_reducible repeat (first | refine blk_drewN ?_ _ | refine blk_drew ?_ | refine blk_alloc ?_ _)); exact BK127.out))⟩; have n4_ := bw hw HB; clear hw; clear BK124; clear BK125; clear BK126; clear BK127; clear HB; have BK124 := n0_; have BK125 := n1_; have BK126 := n2_; have BK127 := n3_; have HB := n4_; clear n0_ n1_ n2_ n3_ n4_))
          go_meet
          case rel => exact ⟨_, (z145), (z146), (z147), H', ⟨by have := HK1.out; first | omega | exact Nat.le_refl _⟩, ⟨pk BK124⟩, ⟨pk BK125⟩, ⟨pk BK126⟩, ⟨pk BK127⟩, ⟨bnow HB⟩⟩
        · rw [if_neg c39] at H
          have c39b0 : decide (z138 < 0) = false := decide_eq_false c39
          clear c39
          (first | rw [c39b0] | (simp only [i64_w, i32_w]; rw [c39b0]) | skip)
          have H' := Aside0.mk H
          clear H
          go_wp2
          go_meet
          case rel => exact ⟨_, (z138), (t134), (t136), H', ⟨by have := HK1.out; first | omega | exact Nat.le_refl _⟩, ⟨pk BK124⟩, ⟨pk BK125⟩, ⟨pk BK126⟩, ⟨pk BK127⟩, ⟨bnow HB⟩⟩
      case rest =>
        clear HC25
        try clear c2; try clear p2; try clear c3; try clear c4; try clear c6; try clear p6; try clear c7; try clear c8; try clear c26; try clear c27; try clear c28; try clear c30; try clear c31; try clear c38; try clear c39; try clear c39b0; try clear c40; try clear c43; try clear c44; try clear c45; try clear c47; try clear c48; try clear hcz29_0; try clear hcz29_1; try clear hcz29_2; try clear hcz32_0; try clear hcz32_1; try clear hcz32_2; try clear hcz32_3; try clear hcz34_0; try clear hcz34_1; try clear hcz34_2; try clear hcz34_3; try clear hcz36_0; try clear hcz36_1; try clear hcz36_2; try clear hcz38_0; try clear hcz38_1; try clear hcz38_2; try clear hcz46_0; try clear hcz46_1; try clear hcz46_2; try clear hcz49_0; try clear hcz49_1; try clear hcz49_2; try clear hcz49_3; try clear hcz9_0; try clear hcz9_1; try clear hcz9_2; try clear hcz9_3; try clear hfz29_0; try clear hfz29_1; try clear hfz29_2; try clear hfz32_0; try clear hfz32_1; try clear hfz32_2; try clear hfz32_3; try clear hfz34_0; try clear hfz34_1; try clear hfz34_2; try clear hfz34_3; try clear hfz36_0; try clear hfz36_1; try clear hfz36_2; try clear hfz38_0; try clear hfz38_1; try clear hfz38_2; try clear hfz46_0; try clear hfz46_1; try clear hfz46_2; try clear hfz49_0; try clear hfz49_1; try clear hfz49_2; try clear hfz49_3; try clear hfz9_0; try clear hfz9_1; try clear hfz9_2; try clear hfz9_3; try clear p2
        obtain ⟨kq, x125001_24, x128001_24, x128003_24, HA, HJ24, BK124, BK125, BK126, BK127, HB⟩ := hcut
        cases kq with
        | zero => exact absurd HA.out (by simp [grids_reduce.j1])
        | succ kj24 =>
          have H := HA.out
          clear HA
          simp only [grids_reduce.j1] at H
          by_cases c51 : x125000_1 ≤ z144
          · rw [if_pos c51] at H
            have c51b0 : decide (x125000_1 ≤ z144) = true := decide_eq_true c51
            clear c51
            simp only [Option.some.injEq, Prod.mk.injEq] at H
            obtain ⟨rfl, rfl, rfl, rfl, rfl, rfl, rfl⟩ := H
            have hnb52 := NB124_125.out
            have hnc52 := NB125_124.out
            have hnb53 := NB124_126.out
            have hnc53 := NB126_124.out
            have hnb54 := NB124_127.out
            have hnc54 := NB127_124.out
            have ⟨hcz55_0, hcz55_1, hcz55_2, hfz55_0, hfz55_1, hfz55_2⟩ := cf3 BK124
            try go_wp2
            replace BK124 := bd BK124
            replace BK125 := bd BK125
            replace BK126 := bd BK126
            replace BK127 := bd BK127
            replace HB := bdn HB
            refine start_ (n := 4) (S := fun w' => w'.cell? ⟨gb124, 0, none⟩ = some (.int .i64 x125000_1) ∧ w'.cell? ⟨gb124, 1, none⟩ = some (.int .i64 x125001_24) ∧ w'.cell? ⟨gb124, 2, none⟩ = some (.int .i64 z144) ∧ w'.cell? ⟨gb127, 0, none⟩ = some (.int .i64 t133) ∧ w'.cell? ⟨gb127, 1, none⟩ = some (.int .i64 x128001_24) ∧ w'.cell? ⟨gb127, 2, none⟩ = some (.int .i64 t135) ∧ w'.cell? ⟨gb127, 3, none⟩ = some (.int .i64 x128003_24)) (ds := []) #[false, false, false, false] (by kernel_rfl) rfl rfl ⟨(blk_cell BK124.out 0).trans rfl, (blk_cell BK124.out 1).trans rfl, (blk_cell BK124.out 2).trans rfl, (blk_cell BK127.out 0).trans rfl, (blk_cell BK127.out 1).trans rfl, (blk_cell BK127.out 2).trans rfl, (blk_cell BK127.out 3).trans rfl⟩ (fun hHeld => ?_)
            generalize wc.drew = w56 at BK124 BK125 BK126 BK127 HB hHeld ⊢
            refine take_ (i := 0) (N := some 67) (v := ?_) (a' := ?_) #[true, false, false, false] rfl rfl (by kernel_rfl) (fun _ _ _ h => h) (Or.inl ⟨by rfl, ?_⟩) hHeld ?_ ?_
            rotate_left
            · rintro w' ⟨s0, s1, s2, s3, s4, s5, s6⟩
              go_simp
              with_reducible rfl
            rotate_left
            · simp only [Act.put, List.setIfInBounds_toArray, List.set_cons_zero, List.set_cons_succ, i64_w, i32_w]
              rfl
            refine take_ (i := 1) (N := some 68) (v := ?_) (a' := ?_) #[true, true, false, false] rfl rfl (by kernel_rfl) (fun _ _ _ h => h) (Or.inl ⟨by rfl, ?_⟩) hHeld ?_ ?_
            rotate_left
            · rintro w' ⟨s0, s1, s2, s3, s4, s5, s6⟩
              go_simp
              with_reducible rfl
            rotate_left
            · simp only [Act.put, List.setIfInBounds_toArray, List.set_cons_zero, List.set_cons_succ, i64_w, i32_w]
              rfl
            refine one_ (i := 2) (N := none) #[true, true, true, false] rfl rfl (by kernel_rfl) (by decide) (fun K hK => ?_)
            have hs57 : w56.cell? ⟨gb125, 0, none⟩ = some (.int .i64 x126000_1) := (blk_cell BK125.out 0).trans rfl
            have hfs57 := blk_frozen BK125.out 0
            have hns57_0 := NB124_125.out
            have hns57_2 := NB126_125.out
            have hns57_3 := NB127_125.out
            have hms57_0 := NB125_124.out
            have hms57_2 := NB125_126.out
            have hms57_3 := NB125_127.out
            have hs58 : w56.cell? ⟨gb125, 1, none⟩ = some (.int .i64 x126001_1) := (blk_cell BK125.out 1).trans rfl
            have hfs58 := blk_frozen BK125.out 1
            have hns58_0 := NB124_125.out
            have hns58_2 := NB126_125.out
            have hns58_3 := NB127_125.out
            have hms58_0 := NB125_124.out
            have hms58_2 := NB125_126.out
            have hms58_3 := NB125_127.out
            have hs59 : w56.cell? ⟨gb125, 2, none⟩ = some (.int .i64 x126002_1) := (blk_cell BK125.out 2).trans rfl
            have hfs59 := blk_frozen BK125.out 2
            have hns59_0 := NB124_125.out
            have hns59_2 := NB126_125.out
            have hns59_3 := NB127_125.out
            have hms59_0 := NB125_124.out
            have hms59_2 := NB125_126.out
            have hms59_3 := NB125_127.out
            refine skip_ (w1 := ?_) (by rfl) rfl ?_ ?_
            rotate_left
            · go_simp
              rfl
            refine hK.out _ _ ⟨((cell_far (p := ⟨gb125, _, none⟩) NB124_125.out _).trans (((cell_far (p := ⟨gb125, _, none⟩) NB124_125.out _).trans (((cell_far (p := ⟨gb125, _, none⟩) NB124_125.out _).trans (hHeld.1)))))), ((cell_far (p := ⟨gb125, _, none⟩) NB124_125.out _).trans (((cell_far (p := ⟨gb125, _, none⟩) NB124_125.out _).trans (((cell_far (p := ⟨gb125, _, none⟩) NB124_125.out _).trans (hHeld.2.1)))))), ((cell_far (p := ⟨gb125, _, none⟩) NB124_125.out _).trans (((cell_far (p := ⟨gb125, _, none⟩) NB124_125.out _).trans (((cell_far (p := ⟨gb125, _, none⟩) NB124_125.out _).trans (hHeld.2.2.1)))))), ((cell_far (p := ⟨gb125, _, none⟩) NB127_125.out _).trans (((cell_far (p := ⟨gb125, _, none⟩) NB127_125.out _).trans (((cell_far (p := ⟨gb125, _, none⟩) NB127_125.out _).trans (hHeld.2.2.2.1)))))), ((cell_far (p := ⟨gb125, _, none⟩) NB127_125.out _).trans (((cell_far (p := ⟨gb125, _, none⟩) NB127_125.out _).trans (((cell_far (p := ⟨gb125, _, none⟩) NB127_125.out _).trans (hHeld.2.2.2.2.1)))))), ((cell_far (p := ⟨gb125, _, none⟩) NB127_125.out _).trans (((cell_far (p := ⟨gb125, _, none⟩) NB127_125.out _).trans (((cell_far (p := ⟨gb125, _, none⟩) NB127_125.out _).trans (hHeld.2.2.2.2.2.1)))))), ((cell_far (p := ⟨gb125, _, none⟩) NB127_125.out _).trans (((cell_far (p := ⟨gb125, _, none⟩) NB127_125.out _).trans (((cell_far (p := ⟨gb125, _, none⟩) NB127_125.out _).trans (hHeld.2.2.2.2.2.2))))))⟩ (fun hHeld => ?_)
            clear hK K
            refine one_ (i := 3) (N := none) #[true, true, true, true] rfl rfl (by kernel_rfl) (by decide) (fun K hK => ?_)
            have hs60 : w56.cell? ⟨gb126, 0, none⟩ = some (.int .i64 x127000_1) := (blk_cell BK126.out 0).trans rfl
            have hfs60 := blk_frozen BK126.out 0
            have hns60_0 := NB124_126.out
            have hns60_1 := NB125_126.out
            have hns60_3 := NB127_126.out
            have hms60_0 := NB126_124.out
            have hms60_1 := NB126_125.out
            have hms60_3 := NB126_127.out
            have hs61 : w56.cell? ⟨gb126, 1, none⟩ = some (.int .i64 x127001_1) := (blk_cell BK126.out 1).trans rfl
            have hfs61 := blk_frozen BK126.out 1
            have hns61_0 := NB124_126.out
            have hns61_1 := NB125_126.out
            have hns61_3 := NB127_126.out
            have hms61_0 := NB126_124.out
            have hms61_1 := NB126_125.out
            have hms61_3 := NB126_127.out
            have hs62 : w56.cell? ⟨gb126, 2, none⟩ = some (.int .i64 x127002_1) := (blk_cell BK126.out 2).trans rfl
            have hfs62 := blk_frozen BK126.out 2
            have hns62_0 := NB124_126.out
            have hns62_1 := NB125_126.out
            have hns62_3 := NB127_126.out
            have hms62_0 := NB126_124.out
            have hms62_1 := NB126_125.out
            have hms62_3 := NB126_127.out
            have hs63 : w56.cell? ⟨gb126, 3, none⟩ = some (.int .i64 x127003_1) := (blk_cell BK126.out 3).trans rfl
            have hfs63 := blk_frozen BK126.out 3
            have hns63_0 := NB124_126.out
            have hns63_1 := NB125_126.out
            have hns63_3 := NB127_126.out
            have hms63_0 := NB126_124.out
            have hms63_1 := NB126_125.out
            have hms63_3 := NB126_127.out
            refine skip_ (w1 := ?_) (by rfl) rfl ?_ ?_
            rotate_left
            · go_simp
              rfl
            refine hK.out _ _ ⟨((cell_far (p := ⟨gb126, _, none⟩) NB124_126.out _).trans (((cell_far (p := ⟨gb126, _, none⟩) NB124_126.out _).trans (((cell_far (p := ⟨gb126, _, none⟩) NB124_126.out _).trans (((cell_far (p := ⟨gb126, _, none⟩) NB124_126.out _).trans (hHeld.1)))))))), ((cell_far (p := ⟨gb126, _, none⟩) NB124_126.out _).trans (((cell_far (p := ⟨gb126, _, none⟩) NB124_126.out _).trans (((cell_far (p := ⟨gb126, _, none⟩) NB124_126.out _).trans (((cell_far (p := ⟨gb126, _, none⟩) NB124_126.out _).trans (hHeld.2.1)))))))), ((cell_far (p := ⟨gb126, _, none⟩) NB124_126.out _).trans (((cell_far (p := ⟨gb126, _, none⟩) NB124_126.out _).trans (((cell_far (p := ⟨gb126, _, none⟩) NB124_126.out _).trans (((cell_far (p := ⟨gb126, _, none⟩) NB124_126.out _).trans (hHeld.2.2.1)))))))), ((cell_far (p := ⟨gb126, _, none⟩) NB127_126.out _).trans (((cell_far (p := ⟨gb126, _, none⟩) NB127_126.out _).trans (((cell_far (p := ⟨gb126, _, none⟩) NB127_126.out _).trans (((cell_far (p := ⟨gb126, _, none⟩) NB127_126.out _).trans (hHeld.2.2.2.1)))))))), ((cell_far (p := ⟨gb126, _, none⟩) NB127_126.out _).trans (((cell_far (p := ⟨gb126, _, none⟩) NB127_126.out _).trans (((cell_far (p := ⟨gb126, _, none⟩) NB127_126.out _).trans (((cell_far (p := ⟨gb126, _, none⟩) NB127_126.out _).trans (hHeld.2.2.2.2.1)))))))), ((cell_far (p := ⟨gb126, _, none⟩) NB127_126.out _).trans (((cell_far (p := ⟨gb126, _, none⟩) NB127_126.out _).trans (((cell_far (p := ⟨gb126, _, none⟩) NB127_126.out _).trans (((cell_far (p := ⟨gb126, _, none⟩) NB127_126.out _).trans (hHeld.2.2.2.2.2.1)))))))), ((cell_far (p := ⟨gb126, _, none⟩) NB127_126.out _).trans (((cell_far (p := ⟨gb126, _, none⟩) NB127_126.out _).trans (((cell_far (p := ⟨gb126, _, none⟩) NB127_126.out _).trans (((cell_far (p := ⟨gb126, _, none⟩) NB127_126.out _).trans (hHeld.2.2.2.2.2.2))))))))⟩ (fun hHeld => ?_)
            clear hK K
            refine done_ (by kernel_rfl) ?_
            try go_wp2
            refine bodyPost_ret (results_cc rfl _ _ gb125 gb126 23 25 #[.int .i64 x125000_1, .int .i64 x125001_24, .int .i64 z144] #[.int .i64 t133, .int .i64 x128001_24, .int .i64 t135, .int .i64 x128003_24] (0, 0) (0, 0) _ _ rfl (by (with_reducible repeat (first | refine blk_drewN ?_ _ | refine blk_drew ?_ | refine blk_alloc ?_ _)); refine blk_far ?_ NB125_126.out _; (with_reducible repeat (first | refine blk_drewN ?_ _ | refine blk_drew ?_ | refine blk_alloc ?_ _)); refine blk_far ?_ NB125_126.out _; (with_reducible repeat (first | refine blk_drewN ?_ _ | refine blk_drew ?_ | refine blk_alloc ?_ _)); refine blk_far ?_ NB125_126.out _; (with_reducible repeat (first | refine blk_drewN ?_ _ | refine blk_drew ?_ | refine blk_alloc ?_ _)); refine blk_far ?_ NB125_126.out _; (with_reducible repeat (first | refine blk_drewN ?_ _ | refine blk_drew ?_ | refine blk_alloc ?_ _)); refine blk_put (cs := #[.int .i64 x125000_1, .int .i64 x125001_24, .int .i64 x126002_1]) ?_ 2 _ rfl; (with_reducible repeat (first | refine blk_drewN ?_ _ | refine blk_drew ?_ | refine blk_alloc ?_ _)); refine blk_put (cs := #[.int .i64 x125000_1, .int .i64 x126001_1, .int .i64 x126002_1]) ?_ 1 _ rfl; (with_reducible repeat (first | refine blk_drewN ?_ _ | refine blk_drew ?_ | refine blk_alloc ?_ _)); refine blk_put (cs := #[.int .i64 x126000_1, .int .i64 x126001_1, .int .i64 x126002_1]) ?_ 0 _ rfl; (with_reducible repeat (first | refine blk_drewN ?_ _ | refine blk_drew ?_ | refine blk_alloc ?_ _)); exact BK125.out) Try.underlying23 rfl (by kernel_rfl) rfl (by (with_reducible repeat (first | refine blk_drewN ?_ _ | refine blk_drew ?_ | refine blk_alloc ?_ _)); refine blk_put (cs := #[.int .i64 t133, .int .i64 x128001_24, .int .i64 t135, .int .i64 x127003_1]) ?_ 3 _ rfl; (with_reducible repeat (first | refine blk_drewN ?_ _ | refine blk_drew ?_ | refine blk_alloc ?_ _)); refine blk_put (cs := #[.int .i64 t133, .int .i64 x128001_24, .int .i64 x127002_1, .int .i64 x127003_1]) ?_ 2 _ rfl; (with_reducible repeat (first | refine blk_drewN ?_ _ | refine blk_drew ?_ | refine blk_alloc ?_ _)); refine blk_put (cs := #[.int .i64 t133, .int .i64 x127001_1, .int .i64 x127002_1, .int .i64 x127003_1]) ?_ 1 _ rfl; (with_reducible repeat (first | refine blk_drewN ?_ _ | refine blk_drew ?_ | refine blk_alloc ?_ _)); refine blk_put (cs := #[.int .i64 x127000_1, .int .i64 x127001_1, .int .i64 x127002_1, .int .i64 x127003_1]) ?_ 0 _ rfl; (with_reducible repeat (first | refine blk_drewN ?_ _ | refine blk_drew ?_ | refine blk_alloc ?_ _)); refine blk_far ?_ NB126_125.out _; (with_reducible repeat (first | refine blk_drewN ?_ _ | refine blk_drew ?_ | refine blk_alloc ?_ _)); refine blk_far ?_ NB126_125.out _; (with_reducible repeat (first | refine blk_drewN ?_ _ | refine blk_drew ?_ | refine blk_alloc ?_ _)); refine blk_far ?_ NB126_125.out _; (with_reducible repeat (first | refine blk_drewN ?_ _ | refine blk_drew ?_ | refine blk_alloc ?_ _)); exact BK126.out) Try.underlying25 rfl (by kernel_rfl)) rfl ?_
            exact rt HB
          · rw [if_neg c51] at H
            have c51b0 : decide (x125000_1 ≤ z144) = false := decide_eq_false c51
            clear c51
            have H' := Aside0.mk H
            clear H
            have hnb64 := NB124_125.out
            have hnc64 := NB125_124.out
            have hnb65 := NB124_126.out
            have hnc65 := NB126_124.out
            have hnb66 := NB124_127.out
            have hnc66 := NB127_124.out
            have ⟨hcz67_0, hcz67_1, hcz67_2, hfz67_0, hfz67_1, hfz67_2⟩ := cf3 BK124
            have hnb68 := NB127_125.out
            have hnc68 := NB125_127.out
            have hnb69 := NB127_126.out
            have hnc69 := NB126_127.out
            have ⟨hcz70_0, hcz70_1, hcz70_2, hcz70_3, hfz70_0, hfz70_1, hfz70_2, hfz70_3⟩ := cf4 BK127
            go_wp2_with (first | ((with_reducible refine gate_store (t := 2) (p := 83) rfl ?_); refine sx 2 83 ((((wc.setCell ⟨gb124, 0, none⟩ (.int .i64 z144)).setCell ⟨gb124, 2, none⟩ (.int .i64 x125000_1)).setCell ⟨gb127, 0, none⟩ (.int .i64 x128001_24))) fun w71 hw => ?_; have n0_ : Aside0 (w71.heap[gb124]? = some (.cells #[.int .i64 z144, .int .i64 x125001_24, .int .i64 x125000_1] 23 (0, 0))) := ⟨(by rw [hw]; exact (by (with_reducible repeat (first | refine blk_drewN ?_ _ | refine blk_drew ?_ | refine blk_alloc ?_ _)); refine blk_far ?_ NB124_127.out _; (with_reducible repeat (first | refine blk_drewN ?_ _ | refine blk_drew ?_ | refine blk_alloc ?_ _)); refine blk_put (cs := #[.int .i64 z144, .int .i64 x125001_24, .int .i64 z144]) ?_ 2 _ rfl; (with_reducible repeat (first | refine blk_drewN ?_ _ | refine blk_drew ?_ | refine blk_alloc ?_ _)); refine blk_put (cs := #[.int .i64 x125000_1, .int .i64 x125001_24, .int .i64 z144]) ?_ 0 _ rfl; (with_reducible repeat (first | refine blk_drewN ?_ _ | refine blk_drew ?_ | refine blk_alloc ?_ _)); exact BK124.out))⟩; have n1_ := fw hw BK125; have n2_ := fw hw BK126; have n3_ : Aside0 (w71.heap[gb127]? = some (.cells #[.int .i64 x128001_24, .int .i64 x128001_24, .int .i64 t135, .int .i64 x128003_24] 25 (0, 0))) := ⟨(by rw [hw]; exact (by (with_reducible repeat (first | refine blk_drewN ?_ _ | refine blk_drew ?_ | refine blk_alloc ?_ _)); refine blk_put (cs := #[.int .i64 t133, .int .i64 x128001_24, .int .i64 t135, .int .i64 x128003_24]) ?_ 0 _ rfl; (with_reducible repeat (first | refine blk_drewN ?_ _ | refine blk_drew ?_ | refine blk_alloc ?_ _)); refine blk_far ?_ NB127_124.out _; (with_reducible repeat (first | refine blk_drewN ?_ _ | refine blk_drew ?_ | refine blk_alloc ?_ _)); refine blk_far ?_ NB127_124.out _; (with_reducible repeat (first | refine blk_drewN ?_ _ | refine blk_drew ?_ | refine blk_alloc ?_ _)); exact BK127.out))⟩; have n4_ := bw hw HB; clear hw; clear BK124; clear BK125; clear BK126; clear BK127; clear HB; have BK124 := n0_; have BK125 := n1_; have BK126 := n2_; have BK127 := n3_; have HB := n4_; clear n0_ n1_ n2_ n3_ n4_; have ⟨hcz72_0, hcz72_1, hcz72_2, hcz72_3, hfz72_0, hfz72_1, hfz72_2, hfz72_3⟩ := cf4 BK127) | ((with_reducible refine gate_store (t := 2) (p := 86) rfl ?_); refine sx 2 86 ((((w71.setCell ⟨gb127, 1, none⟩ (.int .i64 t133)).setCell ⟨gb127, 2, none⟩ (.int .i64 x128003_24)).setCell ⟨gb127, 3, none⟩ (.int .i64 t135))) fun w73 hw => ?_; have n0_ := fw hw BK124; have n1_ := fw hw BK125; have n2_ := fw hw BK126; have n3_ : Aside0 (w73.heap[gb127]? = some (.cells #[.int .i64 x128001_24, .int .i64 t133, .int .i64 x128003_24, .int .i64 t135] 25 (0, 0))) := ⟨(by rw [hw]; exact (by (with_reducible repeat (first | refine blk_drewN ?_ _ | refine blk_drew ?_ | refine blk_alloc ?_ _)); refine blk_put (cs := #[.int .i64 x128001_24, .int .i64 t133, .int .i64 x128003_24, .int .i64 x128003_24]) ?_ 3 _ rfl; (with_reducible repeat (first | refine blk_drewN ?_ _ | refine blk_drew ?_ | refine blk_alloc ?_ _)); refine blk_put (cs := #[.int .i64 x128001_24, .int .i64 t133, .int .i64 t135, .int .i64 x128003_24]) ?_ 2 _ rfl; (with_reducible repeat (first | refine blk_drewN ?_ _ | refine blk_drew ?_ | refine blk_alloc ?_ _)); refine blk_put (cs := #[.int .i64 x128001_24, .int .i64 x128001_24, .int .i64 t135, .int .i64 x128003_24]) ?_ 1 _ rfl; (with_reducible repeat (first | refine blk_drewN ?_ _ | refine blk_drew ?_ | refine blk_alloc ?_ _)); exact BK127.out))⟩; have n4_ := bw hw HB; clear hw; clear BK124; clear BK125; clear BK126; clear BK127; clear HB; have BK124 := n0_; have BK125 := n1_; have BK126 := n2_; have BK127 := n3_; have HB := n4_; clear n0_ n1_ n2_ n3_ n4_))
            go_roundg kj24
            case measure => have := HK1.out; have := HJ24.out; omega
            case rel => exact ⟨(z144), (x125001_24), (x125000_1), (x126000_1), (x126001_1), (x126002_1), (x127000_1), (x127001_1), (x127002_1), (x127003_1), (x128001_24), (t133), (x128003_24), (t135), H', ⟨by have := HK1.out; have := HJ24.out; omega⟩, ⟨pk BK124⟩, ⟨pk BK125⟩, ⟨pk BK126⟩, ⟨pk BK127⟩, ⟨bnow HB⟩⟩
end
section
/-! ### grids_step_product: function 80 -/
def grids_step_product.f (a0_0 : Int) (a0_1 : Int) (a1_0 : Int) (a1_1 : Int) (a1_2 : Int) (a2_0 : Int) (a2_1 : Int) : Option (Int) := (some (wrap64 (a1_0 * a2_0))).bind fun z151 => ((some (wrap64 (a1_1 * a2_1))).bind fun z152 => ((some (wrap64 (z151 + z152))).bind fun z153 => ((some (wrap64 (a0_0 * z153))).bind fun z154 => ((some (wrap64 (a1_1 * a2_0))).bind fun z155 => ((some (wrap64 (a1_2 * a2_1))).bind fun z156 => ((some (wrap64 (z155 + z156))).bind fun z157 => ((some (wrap64 (a0_1 * z157))).bind fun z158 => ((some (wrap64 (z154 + z158))).bind fun z159 => (some z159)))))))))
set_option maxHeartbeats 8000000 in
set_option maxRecDepth 100000 in
theorem grids_step_product.calls (a0_0 : Int) (a0_1 : Int) (a1_0 : Int) (a1_1 : Int) (a1_2 : Int) (a2_0 : Int) (a2_1 : Int) (r : Int) (w : World) (h : grids_step_product.f a0_0 a0_1 a1_0 a1_1 a1_2 a2_0 a2_1 = some r) :
    Calls Try.prog 80 #[.agg #[.int .i64 a0_0, .int .i64 a0_1], .agg #[.int .i64 a1_0, .int .i64 a1_1, .int .i64 a1_2], .agg #[.int .i64 a2_0, .int .i64 a2_1]] w fun e w' => e = .returned (.int .i64 r) ∧ Below w.heap.size w w' := by
  have hu81 := Try.underlying81
  have hu23 := Try.underlying23
  have HB := Aside0.mk (Below.refl w.heap.size w)
  have H : ((some (wrap64 (a1_0 * a2_0))).bind fun z151 => ((some (wrap64 (a1_1 * a2_1))).bind fun z152 => ((some (wrap64 (z151 + z152))).bind fun z153 => ((some (wrap64 (a0_0 * z153))).bind fun z154 => ((some (wrap64 (a1_1 * a2_0))).bind fun z155 => ((some (wrap64 (a1_2 * a2_1))).bind fun z156 => ((some (wrap64 (z155 + z156))).bind fun z157 => ((some (wrap64 (a0_1 * z157))).bind fun z158 => ((some (wrap64 (z154 + z158))).bind fun z159 => (some z159)))))))))) = some r := h
  clear h
  obtain ⟨z151, E40, H⟩ := oc H
  have E4w : (IntKind.i64.wrap (a1_0 * a2_0)) = z151 := (i64_w _).trans E40
  obtain ⟨z152, E50, H⟩ := oc H
  have E5w : (IntKind.i64.wrap (a1_1 * a2_1)) = z152 := (i64_w _).trans E50
  obtain ⟨z153, E60, H⟩ := oc H
  have E6w : (IntKind.i64.wrap (z151 + z152)) = z153 := (i64_w _).trans E60
  obtain ⟨z154, E70, H⟩ := oc H
  have E7w : (IntKind.i64.wrap (a0_0 * z153)) = z154 := (i64_w _).trans E70
  obtain ⟨z155, E80, H⟩ := oc H
  have E8w : (IntKind.i64.wrap (a1_1 * a2_0)) = z155 := (i64_w _).trans E80
  obtain ⟨z156, E90, H⟩ := oc H
  have E9w : (IntKind.i64.wrap (a1_2 * a2_1)) = z156 := (i64_w _).trans E90
  obtain ⟨z157, E100, H⟩ := oc H
  have E10w : (IntKind.i64.wrap (z155 + z156)) = z157 := (i64_w _).trans E100
  obtain ⟨z158, E110, H⟩ := oc H
  have E11w : (IntKind.i64.wrap (a0_1 * z157)) = z158 := (i64_w _).trans E110
  obtain ⟨z159, E120, H⟩ := oc H
  have E12w : (IntKind.i64.wrap (z154 + z158)) = z159 := (i64_w _).trans E120
  obtain rfl := Option.some.inj H
  go_enter Try.func80, Try.ntmps80
  go_wp2_with (first | ((with_reducible refine gate_dst (N := 3) rfl ?_); refine bx 3 #[.int .i64 a0_0, .int .i64 a0_1] 81 fun gb148 hg w13 BK148 hb => ?_; have GW148 := gw hg HB; have GE148 := gw hg HB; replace HB := bst HB hb; clear hb hg) | ((with_reducible refine gate_dst (N := 4) rfl ?_); refine bx 4 #[.int .i64 a1_0, .int .i64 a1_1, .int .i64 a1_2] 23 fun gb149 hg w14 BK149 hb => ?_; have GW149 := gw hg HB; have GE149 := gw hg HB; have NB148_149 := nlt hg BK148; have NB149_148 := ngt hg BK148; replace BK148 := bb BK148 hb; replace HB := bst HB hb; clear hb hg) | ((with_reducible refine gate_dst (N := 5) rfl ?_); refine bx 5 #[.int .i64 a2_0, .int .i64 a2_1] 81 fun gb150 hg w15 BK150 hb => ?_; have GW150 := gw hg HB; have GE150 := gw hg HB; have NB148_150 := nlt hg BK148; have NB150_148 := ngt hg BK148; have NB149_150 := nlt hg BK149; have NB150_149 := ngt hg BK149; replace BK148 := bb BK148 hb; replace BK149 := bb BK149 hb; replace HB := bst HB hb; clear hb hg; have hnb16 := NB148_149.out; have hnc16 := NB149_148.out; have hnb17 := NB148_150.out; have hnc17 := NB150_148.out; have ⟨hcz18_0, hcz18_1, hfz18_0, hfz18_1⟩ := cf2 BK148; have hnb19 := NB149_150.out; have hnc19 := NB150_149.out; have ⟨hcz20_0, hcz20_1, hcz20_2, hfz20_0, hfz20_1, hfz20_2⟩ := cf3 BK149; have ⟨hcz21_0, hcz21_1, hfz21_0, hfz21_1⟩ := cf2 BK150))
  go_ret
  exact rt HB
end
section
/-! ### grids_lead: function 60 -/
def grids_lead.f (a0_0 : Int) (a0_1 : Int) (a0_2 : Int) (a1_0 : Int) (a1_1 : Int) (a1_2 : Int) (a1_3 : Int) : Option (Int × Int × Int) := (grids_step_product.f a1_0 a1_2 a0_0 a0_1 a0_2 a1_0 a1_2).bind fun t165 => ((grids_step_product.f a1_0 a1_2 a0_0 a0_1 a0_2 a1_1 a1_3).bind fun t166 => ((grids_step_product.f a1_1 a1_3 a0_0 a0_1 a0_2 a1_1 a1_3).bind fun t167 => (some (t165, t166, t167))))
def grids_lead.T1 : Bool × List (List Nat × List Nat) := (true, [([], []), ([0], [0]), ([], []), ([2], [2]), ([1, 3], [1, 3]), ([], []), ([5], [5]), ([], []), ([7], [7]), ([6, 8], [6, 8]), ([], []), ([], []), ([10, 4, 0, 1, 2, 3, 4, 10, 11], [4, 10]), ([11, 9, 12, 0, 1, 2, 3, 4, 5, 6, 7, 8, 9, 10, 11, 12], [9, 11])])
def grids_lead.B1 : List Nat := [0, 1, 0, 4, 15, 0, 32, 0, 128, 480, 0, 0, 3103, 8191]
theorem grids_lead.tab1 : rtab .any (opsOf Try.f60 1) = grids_lead.T1 := by kernel_rfl
theorem grids_lead.bits1 : waitsOk grids_lead.T1.2 grids_lead.B1 = true := by kernel_rfl
def grids_lead.T2 : Bool × List (List Nat × List Nat) := (true, [([], []), ([], []), ([], []), ([0, 1, 2], [0, 1, 2]), ([], []), ([], []), ([], []), ([4, 5, 6, 3], [4, 5, 6]), ([], []), ([], []), ([], []), ([8, 9, 10, 7], [8, 9, 10]), ([3, 7, 11], [3, 7, 11]), ([12, 11, 0, 1, 2, 3, 4, 5, 6, 7, 8, 9, 10, 11, 12], [12])])
def grids_lead.B2 : List Nat := [0, 0, 0, 7, 0, 0, 0, 127, 0, 0, 0, 2047, 4095, 8191]
theorem grids_lead.tab2 : rtab .any (opsOf Try.f60 2) = grids_lead.T2 := by kernel_rfl
theorem grids_lead.bits2 : waitsOk grids_lead.T2.2 grids_lead.B2 = true := by kernel_rfl
set_option maxHeartbeats 8000000 in
set_option maxRecDepth 100000 in
theorem grids_lead.calls (a0_0 : Int) (a0_1 : Int) (a0_2 : Int) (a1_0 : Int) (a1_1 : Int) (a1_2 : Int) (a1_3 : Int) (r1 : Int) (r2 : Int) (r3 : Int) (w : World) (h : grids_lead.f a0_0 a0_1 a0_2 a1_0 a1_1 a1_2 a1_3 = some (r1, r2, r3)) :
    Calls Try.prog 60 #[.agg #[.int .i64 a0_0, .int .i64 a0_1, .int .i64 a0_2], .agg #[.int .i64 a1_0, .int .i64 a1_1, .int .i64 a1_2, .int .i64 a1_3]] w fun e w' => e = .returned (.agg #[.int .i64 r1, .int .i64 r2, .int .i64 r3]) ∧ Below w.heap.size w w' := by
  have hu23 := Try.underlying23
  have hu25 := Try.underlying25
  have hu81 := Try.underlying81
  have HB := Aside0.mk (Below.refl w.heap.size w)
  have H : ((grids_step_product.f a1_0 a1_2 a0_0 a0_1 a0_2 a1_0 a1_2).bind fun t165 => ((grids_step_product.f a1_0 a1_2 a0_0 a0_1 a0_2 a1_1 a1_3).bind fun t166 => ((grids_step_product.f a1_1 a1_3 a0_0 a0_1 a0_2 a1_1 a1_3).bind fun t167 => (some (t165, t166, t167))))) = some (r1, r2, r3) := h
  clear h
  obtain ⟨t165, A3, H⟩ := ob H
  obtain ⟨t166, A4, H⟩ := ob H
  obtain ⟨t167, A5, H⟩ := ob H
  simp only [Option.some.injEq, Prod.mk.injEq] at H
  obtain ⟨rfl, rfl, rfl⟩ := H
  go_enter Try.func60, Try.ntmps60
  try go_wp2_with (first | ((with_reducible refine gate_dst (N := 2) rfl ?_); refine bx 2 #[.int .i64 a0_0, .int .i64 a0_1, .int .i64 a0_2] 23 fun gb160 hg w6 BK160 hb => ?_; have GW160 := gw hg HB; have GE160 := gw hg HB; replace HB := bst HB hb; clear hb hg) | ((with_reducible refine gate_dst (N := 3) rfl ?_); refine bx 3 #[.int .i64 a1_0, .int .i64 a1_1, .int .i64 a1_2, .int .i64 a1_3] 25 fun gb161 hg w7 BK161 hb => ?_; have GW161 := gw hg HB; have GE161 := gw hg HB; have NB160_161 := nlt hg BK160; have NB161_160 := ngt hg BK160; replace BK160 := bb BK160 hb; replace HB := bst HB hb; clear hb hg) | ((with_reducible refine gate_dst (N := 4) rfl ?_); refine bx 4 #[.int .i64 0, .int .i64 0, .int .i64 0] 23 fun gb162 hg w8 BK162 hb => ?_; have GW162 := gw hg HB; have GE162 := gw hg HB; have NB160_162 := nlt hg BK160; have NB162_160 := ngt hg BK160; have NB161_162 := nlt hg BK161; have NB162_161 := ngt hg BK161; replace BK160 := bb BK160 hb; replace BK161 := bb BK161 hb; replace HB := bst HB hb; clear hb hg))
  replace BK160 := bd BK160
  replace BK161 := bd BK161
  replace BK162 := bd BK162
  replace HB := bdn HB
  refine start_ (n := 14) (S := fun w' => True) (ds := []) #[false, false, false, false, false, false, false, false, false, false, false, false, false, false] (by kernel_rfl) rfl rfl trivial (fun hHeld => ?_); refine with_tabW grids_lead.tab1 grids_lead.bits1 (fun HT_ HW_ => ?_)
  generalize w8.drew = w9 at BK160 BK161 BK162 HB hHeld ⊢
  refine pz 0 7 HT_ ?_
  refine pz 2 9 HT_ ?_
  refine pz 5 12 HT_ ?_
  refine pz 7 14 HT_ ?_
  refine inv_at [1, 3, 4, 6, 8, 9, 10, 11, 12, 13] (fun a0_ b a w' => ∃ (gb163 : Nat) (gb164 : Nat) (m10_ : Value) (m11_ : Value), a = putSel a0_ b [(1, 8, .int .i64 a1_0), (3, 10, .int .i64 a1_2), (4, 11, .agg #[.int .i64 a1_0, .int .i64 a1_2]), (6, 13, .int .i64 a1_1), (8, 15, .int .i64 a1_3), (9, 16, .agg #[.int .i64 a1_1, .int .i64 a1_3]), (10, 5, m10_), (11, 6, m11_)] ∧ (w'.heap[gb160]? = some (.cells #[.int .i64 a0_0, .int .i64 a0_1, .int .i64 a0_2] 23 (0, 0))) ∧ (w'.heap[gb161]? = some (.cells #[.int .i64 a1_0, .int .i64 a1_1, .int .i64 a1_2, .int .i64 a1_3] 25 (0, 0))) ∧ (w'.heap[gb162]? = some (.cells #[.int .i64 0, .int .i64 0, .int .i64 0] 23 (0, 0))) ∧ (Below w.heap.size w w') ∧ (b 10 = true → b 11 = true → gb164 ≠ gb163) ∧ (b 10 = true → b 11 = true → gb163 ≠ gb164) ∧ (b 10 = true → b 12 = false → w'.heap[gb163]? = some (.cells #[.int .i64 0, .int .i64 0] 81 (0, 0))) ∧ (b 10 = true → w.heap.size ≤ gb163) ∧ (b 10 = true → w.heap.size ≤ gb163) ∧ (b 10 = true → gb160 ≠ gb163) ∧ (b 10 = true → gb163 ≠ gb160) ∧ (b 10 = true → gb161 ≠ gb163) ∧ (b 10 = true → gb163 ≠ gb161) ∧ (b 10 = true → gb162 ≠ gb163) ∧ (b 10 = true → gb163 ≠ gb162) ∧ (b 11 = true → b 13 = false → w'.heap[gb164]? = some (.cells #[.int .i64 0, .int .i64 0] 81 (0, 0))) ∧ (b 11 = true → w.heap.size ≤ gb164) ∧ (b 11 = true → w.heap.size ≤ gb164) ∧ (b 11 = true → gb160 ≠ gb164) ∧ (b 11 = true → gb164 ≠ gb160) ∧ (b 11 = true → gb161 ≠ gb164) ∧ (b 11 = true → gb164 ≠ gb161) ∧ (b 11 = true → gb162 ≠ gb164) ∧ (b 11 = true → gb164 ≠ gb162) ∧ (b 12 = true → w'.heap[gb163]? = some (.cells #[.int .i64 a1_0, .int .i64 a1_2] 81 (0, 0))) ∧ (b 13 = true → w'.heap[gb164]? = some (.cells #[.int .i64 a1_1, .int .i64 a1_3] 81 (0, 0))) ∧ (b 10 = true → (m10_ : Value) = .pointer (some ⟨gb163, 0, none⟩)) ∧ (b 11 = true → (m11_ : Value) = .pointer (some ⟨gb164, 0, none⟩))) HT_.out HW_.out (by kernel_rfl) (by kernel_rfl) ?_ ?_ ?_
  · exact ⟨0, 0, .bool false, .bool false, by simp only [putSel, Bool.false_eq_true, if_false], BK160.out, BK161.out, BK162.out, HB.out, fun h_ => absurd h_ (by decide), fun h_ => absurd h_ (by decide), fun h_ => absurd h_ (by decide), fun h_ => absurd h_ (by decide), fun h_ => absurd h_ (by decide), fun h_ => absurd h_ (by decide), fun h_ => absurd h_ (by decide), fun h_ => absurd h_ (by decide), fun h_ => absurd h_ (by decide), fun h_ => absurd h_ (by decide), fun h_ => absurd h_ (by decide), fun h_ => absurd h_ (by decide), fun h_ => absurd h_ (by decide), fun h_ => absurd h_ (by decide), fun h_ => absurd h_ (by decide), fun h_ => absurd h_ (by decide), fun h_ => absurd h_ (by decide), fun h_ => absurd h_ (by decide), fun h_ => absurd h_ (by decide), fun h_ => absurd h_ (by decide), fun h_ => absurd h_ (by decide), fun h_ => absurd h_ (by decide), fun h_ => absurd h_ (by decide), fun h_ => absurd h_ (by decide)⟩
  · skip
    clear BK160 BK161 BK162 HB
    refine steps_cons ?_ ?_
    · rintro b a w' ⟨gb163, gb164, m10_, m11_, ha, Q_BK160, Q_BK161, Q_BK162, Q_HB, Q_NB164_163, Q_NB163_164, Q_BK163, Q_GW163, Q_GE163, Q_NB160_163, Q_NB163_160, Q_NB161_163, Q_NB163_161, Q_NB162_163, Q_NB163_162, Q_BK164, Q_GW164, Q_GE164, Q_NB160_164, Q_NB164_160, Q_NB161_164, Q_NB164_161, Q_NB162_164, Q_NB164_162, Q_BK163_e12, Q_BK164_e13, Q_X10_, Q_X11_⟩ hb_ hon hoff
      refine ⟨_, rfl, fun K hK => ?_⟩
      have e7 : a.tmps[7]? = some (.pointer (some ⟨gb161, 0, none⟩)) := by rw [ha]; exact (putSel_off rfl).trans rfl
      replace ha := Aside0.mk ha
      have BK160 := Aside0.mk Q_BK160
      have BK161 := Aside0.mk Q_BK161
      have BK162 := Aside0.mk Q_BK162
      have HB := Aside0.mk Q_HB
      have hc0_ : w'.cell? ⟨gb161, 0, none⟩ = some (.int .i64 a1_0) := (blk_cell BK161.out 0).trans rfl
      have hc1_ : w'.cell? ⟨gb161, 1, none⟩ = some (.int .i64 a1_1) := (blk_cell BK161.out 1).trans rfl
      have hc2_ : w'.cell? ⟨gb161, 2, none⟩ = some (.int .i64 a1_2) := (blk_cell BK161.out 2).trans rfl
      have hc3_ : w'.cell? ⟨gb161, 3, none⟩ = some (.int .i64 a1_3) := (blk_cell BK161.out 3).trans rfl
      refine value_ (w1 := w') (v := .int .i64 a1_0) (by rfl) rfl ?_ ?_
      · go_simp
        (try simp only [i64_w])
        try rfl
      refine hK.out _ _ ⟨gb163, gb164, m10_, m11_, (by rw [ha.out]; exact putSel_upk 0 hb_ rfl rfl rfl), Q_BK160, Q_BK161, Q_BK162, Q_HB, Q_NB164_163, Q_NB163_164, Q_BK163, Q_GW163, Q_GE163, Q_NB160_163, Q_NB163_160, Q_NB161_163, Q_NB163_161, Q_NB162_163, Q_NB163_162, Q_BK164, Q_GW164, Q_GE164, Q_NB160_164, Q_NB164_160, Q_NB161_164, Q_NB164_161, Q_NB162_164, Q_NB164_162, fun h0_ => absurd ((hoff 12 (by kernel_rfl)).symm.trans h0_) (by decide), fun h0_ => absurd ((hoff 13 (by kernel_rfl)).symm.trans h0_) (by decide), Q_X10_, Q_X11_⟩
    refine steps_cons ?_ ?_
    · rintro b a w' ⟨gb163, gb164, m10_, m11_, ha, Q_BK160, Q_BK161, Q_BK162, Q_HB, Q_NB164_163, Q_NB163_164, Q_BK163, Q_GW163, Q_GE163, Q_NB160_163, Q_NB163_160, Q_NB161_163, Q_NB163_161, Q_NB162_163, Q_NB163_162, Q_BK164, Q_GW164, Q_GE164, Q_NB160_164, Q_NB164_160, Q_NB161_164, Q_NB164_161, Q_NB162_164, Q_NB164_162, Q_BK163_e12, Q_BK164_e13, Q_X10_, Q_X11_⟩ hb_ hon hoff
      refine ⟨_, rfl, fun K hK => ?_⟩
      have e9 : a.tmps[9]? = some (.pointer (some ⟨gb161, 2, none⟩)) := by rw [ha]; exact (putSel_off rfl).trans rfl
      replace ha := Aside0.mk ha
      have BK160 := Aside0.mk Q_BK160
      have BK161 := Aside0.mk Q_BK161
      have BK162 := Aside0.mk Q_BK162
      have HB := Aside0.mk Q_HB
      have hc0_ : w'.cell? ⟨gb161, 0, none⟩ = some (.int .i64 a1_0) := (blk_cell BK161.out 0).trans rfl
      have hc1_ : w'.cell? ⟨gb161, 1, none⟩ = some (.int .i64 a1_1) := (blk_cell BK161.out 1).trans rfl
      have hc2_ : w'.cell? ⟨gb161, 2, none⟩ = some (.int .i64 a1_2) := (blk_cell BK161.out 2).trans rfl
      have hc3_ : w'.cell? ⟨gb161, 3, none⟩ = some (.int .i64 a1_3) := (blk_cell BK161.out 3).trans rfl
      refine value_ (w1 := w') (v := .int .i64 a1_2) (by rfl) rfl ?_ ?_
      · go_simp
        (try simp only [i64_w])
        try rfl
      refine hK.out _ _ ⟨gb163, gb164, m10_, m11_, (by rw [ha.out]; exact putSel_upk 1 hb_ rfl rfl rfl), Q_BK160, Q_BK161, Q_BK162, Q_HB, Q_NB164_163, Q_NB163_164, Q_BK163, Q_GW163, Q_GE163, Q_NB160_163, Q_NB163_160, Q_NB161_163, Q_NB163_161, Q_NB162_163, Q_NB163_162, Q_BK164, Q_GW164, Q_GE164, Q_NB160_164, Q_NB164_160, Q_NB161_164, Q_NB164_161, Q_NB162_164, Q_NB164_162, fun h0_ => absurd ((hoff 12 (by kernel_rfl)).symm.trans h0_) (by decide), fun h0_ => absurd ((hoff 13 (by kernel_rfl)).symm.trans h0_) (by decide), Q_X10_, Q_X11_⟩
    refine steps_cons ?_ ?_
    · rintro b a w' ⟨gb163, gb164, m10_, m11_, ha, Q_BK160, Q_BK161, Q_BK162, Q_HB, Q_NB164_163, Q_NB163_164, Q_BK163, Q_GW163, Q_GE163, Q_NB160_163, Q_NB163_160, Q_NB161_163, Q_NB163_161, Q_NB162_163, Q_NB163_162, Q_BK164, Q_GW164, Q_GE164, Q_NB160_164, Q_NB164_160, Q_NB161_164, Q_NB164_161, Q_NB162_164, Q_NB164_162, Q_BK163_e12, Q_BK164_e13, Q_X10_, Q_X11_⟩ hb_ hon hoff
      refine ⟨_, rfl, fun K hK => ?_⟩
      have e8 : a.tmps[8]? = some (.int .i64 a1_0) := by rw [ha]; exact putSel_on (e := (1, 8, .int .i64 a1_0)) 0 rfl rfl (hon 1 (by kernel_rfl)) rfl
      have e10 : a.tmps[10]? = some (.int .i64 a1_2) := by rw [ha]; exact putSel_on (e := (3, 10, .int .i64 a1_2)) 1 rfl rfl (hon 3 (by kernel_rfl)) rfl
      replace ha := Aside0.mk ha
      have BK160 := Aside0.mk Q_BK160
      have BK161 := Aside0.mk Q_BK161
      have BK162 := Aside0.mk Q_BK162
      have HB := Aside0.mk Q_HB
      refine value_ (w1 := w') (v := .agg #[.int .i64 a1_0, .int .i64 a1_2]) (by rfl) rfl ?_ ?_
      · go_simp
        (try simp only [i64_w])
        try rfl
      refine hK.out _ _ ⟨gb163, gb164, m10_, m11_, (by rw [ha.out]; exact putSel_upk 2 hb_ rfl rfl rfl), Q_BK160, Q_BK161, Q_BK162, Q_HB, Q_NB164_163, Q_NB163_164, Q_BK163, Q_GW163, Q_GE163, Q_NB160_163, Q_NB163_160, Q_NB161_163, Q_NB163_161, Q_NB162_163, Q_NB163_162, Q_BK164, Q_GW164, Q_GE164, Q_NB160_164, Q_NB164_160, Q_NB161_164, Q_NB164_161, Q_NB162_164, Q_NB164_162, fun h0_ => absurd ((hoff 12 (by kernel_rfl)).symm.trans h0_) (by decide), fun h0_ => absurd ((hoff 13 (by kernel_rfl)).symm.trans h0_) (by decide), Q_X10_, Q_X11_⟩
    refine steps_cons ?_ ?_
    · rintro b a w' ⟨gb163, gb164, m10_, m11_, ha, Q_BK160, Q_BK161, Q_BK162, Q_HB, Q_NB164_163, Q_NB163_164, Q_BK163, Q_GW163, Q_GE163, Q_NB160_163, Q_NB163_160, Q_NB161_163, Q_NB163_161, Q_NB162_163, Q_NB163_162, Q_BK164, Q_GW164, Q_GE164, Q_NB160_164, Q_NB164_160, Q_NB161_164, Q_NB164_161, Q_NB162_164, Q_NB164_162, Q_BK163_e12, Q_BK164_e13, Q_X10_, Q_X11_⟩ hb_ hon hoff
      refine ⟨_, rfl, fun K hK => ?_⟩
      have e12 : a.tmps[12]? = some (.pointer (some ⟨gb161, 1, none⟩)) := by rw [ha]; exact (putSel_off rfl).trans rfl
      replace ha := Aside0.mk ha
      have BK160 := Aside0.mk Q_BK160
      have BK161 := Aside0.mk Q_BK161
      have BK162 := Aside0.mk Q_BK162
      have HB := Aside0.mk Q_HB
      have hc0_ : w'.cell? ⟨gb161, 0, none⟩ = some (.int .i64 a1_0) := (blk_cell BK161.out 0).trans rfl
      have hc1_ : w'.cell? ⟨gb161, 1, none⟩ = some (.int .i64 a1_1) := (blk_cell BK161.out 1).trans rfl
      have hc2_ : w'.cell? ⟨gb161, 2, none⟩ = some (.int .i64 a1_2) := (blk_cell BK161.out 2).trans rfl
      have hc3_ : w'.cell? ⟨gb161, 3, none⟩ = some (.int .i64 a1_3) := (blk_cell BK161.out 3).trans rfl
      refine value_ (w1 := w') (v := .int .i64 a1_1) (by rfl) rfl ?_ ?_
      · go_simp
        (try simp only [i64_w])
        try rfl
      refine hK.out _ _ ⟨gb163, gb164, m10_, m11_, (by rw [ha.out]; exact putSel_upk 3 hb_ rfl rfl rfl), Q_BK160, Q_BK161, Q_BK162, Q_HB, Q_NB164_163, Q_NB163_164, Q_BK163, Q_GW163, Q_GE163, Q_NB160_163, Q_NB163_160, Q_NB161_163, Q_NB163_161, Q_NB162_163, Q_NB163_162, Q_BK164, Q_GW164, Q_GE164, Q_NB160_164, Q_NB164_160, Q_NB161_164, Q_NB164_161, Q_NB162_164, Q_NB164_162, Q_BK163_e12, fun h0_ => absurd ((hoff 13 (by kernel_rfl)).symm.trans h0_) (by decide), Q_X10_, Q_X11_⟩
    refine steps_cons ?_ ?_
    · rintro b a w' ⟨gb163, gb164, m10_, m11_, ha, Q_BK160, Q_BK161, Q_BK162, Q_HB, Q_NB164_163, Q_NB163_164, Q_BK163, Q_GW163, Q_GE163, Q_NB160_163, Q_NB163_160, Q_NB161_163, Q_NB163_161, Q_NB162_163, Q_NB163_162, Q_BK164, Q_GW164, Q_GE164, Q_NB160_164, Q_NB164_160, Q_NB161_164, Q_NB164_161, Q_NB162_164, Q_NB164_162, Q_BK163_e12, Q_BK164_e13, Q_X10_, Q_X11_⟩ hb_ hon hoff
      refine ⟨_, rfl, fun K hK => ?_⟩
      have e14 : a.tmps[14]? = some (.pointer (some ⟨gb161, 3, none⟩)) := by rw [ha]; exact (putSel_off rfl).trans rfl
      replace ha := Aside0.mk ha
      have BK160 := Aside0.mk Q_BK160
      have BK161 := Aside0.mk Q_BK161
      have BK162 := Aside0.mk Q_BK162
      have HB := Aside0.mk Q_HB
      have hc0_ : w'.cell? ⟨gb161, 0, none⟩ = some (.int .i64 a1_0) := (blk_cell BK161.out 0).trans rfl
      have hc1_ : w'.cell? ⟨gb161, 1, none⟩ = some (.int .i64 a1_1) := (blk_cell BK161.out 1).trans rfl
      have hc2_ : w'.cell? ⟨gb161, 2, none⟩ = some (.int .i64 a1_2) := (blk_cell BK161.out 2).trans rfl
      have hc3_ : w'.cell? ⟨gb161, 3, none⟩ = some (.int .i64 a1_3) := (blk_cell BK161.out 3).trans rfl
      refine value_ (w1 := w') (v := .int .i64 a1_3) (by rfl) rfl ?_ ?_
      · go_simp
        (try simp only [i64_w])
        try rfl
      refine hK.out _ _ ⟨gb163, gb164, m10_, m11_, (by rw [ha.out]; exact putSel_upk 4 hb_ rfl rfl rfl), Q_BK160, Q_BK161, Q_BK162, Q_HB, Q_NB164_163, Q_NB163_164, Q_BK163, Q_GW163, Q_GE163, Q_NB160_163, Q_NB163_160, Q_NB161_163, Q_NB163_161, Q_NB162_163, Q_NB163_162, Q_BK164, Q_GW164, Q_GE164, Q_NB160_164, Q_NB164_160, Q_NB161_164, Q_NB164_161, Q_NB162_164, Q_NB164_162, Q_BK163_e12, fun h0_ => absurd ((hoff 13 (by kernel_rfl)).symm.trans h0_) (by decide), Q_X10_, Q_X11_⟩
    refine steps_cons ?_ ?_
    · rintro b a w' ⟨gb163, gb164, m10_, m11_, ha, Q_BK160, Q_BK161, Q_BK162, Q_HB, Q_NB164_163, Q_NB163_164, Q_BK163, Q_GW163, Q_GE163, Q_NB160_163, Q_NB163_160, Q_NB161_163, Q_NB163_161, Q_NB162_163, Q_NB163_162, Q_BK164, Q_GW164, Q_GE164, Q_NB160_164, Q_NB164_160, Q_NB161_164, Q_NB164_161, Q_NB162_164, Q_NB164_162, Q_BK163_e12, Q_BK164_e13, Q_X10_, Q_X11_⟩ hb_ hon hoff
      refine ⟨_, rfl, fun K hK => ?_⟩
      have e13 : a.tmps[13]? = some (.int .i64 a1_1) := by rw [ha]; exact putSel_on (e := (6, 13, .int .i64 a1_1)) 3 rfl rfl (hon 6 (by kernel_rfl)) rfl
      have e15 : a.tmps[15]? = some (.int .i64 a1_3) := by rw [ha]; exact putSel_on (e := (8, 15, .int .i64 a1_3)) 4 rfl rfl (hon 8 (by kernel_rfl)) rfl
      replace ha := Aside0.mk ha
      have BK160 := Aside0.mk Q_BK160
      have BK161 := Aside0.mk Q_BK161
      have BK162 := Aside0.mk Q_BK162
      have HB := Aside0.mk Q_HB
      refine value_ (w1 := w') (v := .agg #[.int .i64 a1_1, .int .i64 a1_3]) (by rfl) rfl ?_ ?_
      · go_simp
        (try simp only [i64_w])
        try rfl
      refine hK.out _ _ ⟨gb163, gb164, m10_, m11_, (by rw [ha.out]; exact putSel_upk 5 hb_ rfl rfl rfl), Q_BK160, Q_BK161, Q_BK162, Q_HB, Q_NB164_163, Q_NB163_164, Q_BK163, Q_GW163, Q_GE163, Q_NB160_163, Q_NB163_160, Q_NB161_163, Q_NB163_161, Q_NB162_163, Q_NB163_162, Q_BK164, Q_GW164, Q_GE164, Q_NB160_164, Q_NB164_160, Q_NB161_164, Q_NB164_161, Q_NB162_164, Q_NB164_162, Q_BK163_e12, fun h0_ => absurd ((hoff 13 (by kernel_rfl)).symm.trans h0_) (by decide), Q_X10_, Q_X11_⟩
    refine steps_cons ?_ ?_
    · rintro b a w' ⟨gb163, gb164, m10_, m11_, ha, Q_BK160, Q_BK161, Q_BK162, Q_HB, Q_NB164_163, Q_NB163_164, Q_BK163, Q_GW163, Q_GE163, Q_NB160_163, Q_NB163_160, Q_NB161_163, Q_NB163_161, Q_NB162_163, Q_NB163_162, Q_BK164, Q_GW164, Q_GE164, Q_NB160_164, Q_NB164_160, Q_NB161_164, Q_NB164_161, Q_NB162_164, Q_NB164_162, Q_BK163_e12, Q_BK164_e13, Q_X10_, Q_X11_⟩ hb_ hon hoff
      refine ⟨_, rfl, fun K hK => ?_⟩
      replace ha := Aside0.mk ha
      have BK160 := Aside0.mk Q_BK160
      have BK161 := Aside0.mk Q_BK161
      have BK162 := Aside0.mk Q_BK162
      have HB := Aside0.mk Q_HB
      refine box_step ?hg (N := 5) ?hd (cs := #[.int .i64 0, .int .i64 0]) (t := 81) ?hr ?_; (case hd => rfl); (case hg => rfl); (case hr => first | (go_simp; done) | (go_simp; rfl))
      intro gb163 hg w10 hbox hb
      have n0_ := bb BK160 hb
      have n1_ := bb BK161 hb
      have n2_ := bb BK162 hb
      have n3_ := bst HB hb
      have n4_ := Aside0.mk (hbox)
      have n5_ := gw hg HB
      have n6_ := gw hg HB
      have n7_ := nlt hg BK160
      have n8_ := ngt hg BK160
      have n9_ := nlt hg BK161
      have n10_ := ngt hg BK161
      have n11_ := nlt hg BK162
      have n12_ := ngt hg BK162
      have z_NB164_163 := fun (h0_ : up b 10 10 = true) (h1_ : up b 10 11 = true) => (show gb164 ≠ gb163 from (by cases hb_ : b 13 with | false => exact ((by rw [hg]; exact Nat.ne_of_lt (blk_lt (g := gb164) (o := .cells #[.int .i64 0, .int .i64 0] 81 (0, 0)) (by (with_reducible repeat (first | refine blk_drewN ?_ _ | refine blk_drew ?_ | refine blk_alloc ?_ _)); exact (Q_BK164 h1_ hb_))) : gb164 ≠ gb163)) | true => exact ((by rw [hg]; exact Nat.ne_of_lt (blk_lt (g := gb164) (by (with_reducible repeat (first | refine blk_drewN ?_ _ | refine blk_drew ?_ | refine blk_alloc ?_ _)); exact (Q_BK164_e13 hb_))) : gb164 ≠ gb163))))
      have z_NB163_164 := fun (h0_ : up b 10 10 = true) (h1_ : up b 10 11 = true) => (show gb163 ≠ gb164 from (by cases hb_ : b 13 with | false => exact ((by rw [hg]; exact Nat.ne_of_gt (blk_lt (g := gb164) (o := .cells #[.int .i64 0, .int .i64 0] 81 (0, 0)) (by (with_reducible repeat (first | refine blk_drewN ?_ _ | refine blk_drew ?_ | refine blk_alloc ?_ _)); exact (Q_BK164 h1_ hb_))) : gb163 ≠ gb164)) | true => exact ((by rw [hg]; exact Nat.ne_of_gt (blk_lt (g := gb164) (by (with_reducible repeat (first | refine blk_drewN ?_ _ | refine blk_drew ?_ | refine blk_alloc ?_ _)); exact (Q_BK164_e13 hb_))) : gb163 ≠ gb164))))
      have z_BK164 := fun (h0_ : b 11 = true) (h1_ : b 13 = false) => (show w10.heap[gb164]? = some (.cells #[.int .i64 0, .int .i64 0] 81 (0, 0)) from by first | exact (blk_below (g := gb164) (o := .cells #[.int .i64 0, .int .i64 0] 81 (0, 0)) (by (with_reducible repeat (first | refine blk_drewN ?_ _ | refine blk_drew ?_ | refine blk_alloc ?_ _)); exact (Q_BK164 h0_ h1_)) hb))
      clear BK160
      clear BK161
      clear BK162
      clear HB
      have BK160 := n0_
      have BK161 := n1_
      have BK162 := n2_
      have HB := n3_
      have BK163 := n4_
      have GW163 := n5_
      have GE163 := n6_
      have NB160_163 := n7_
      have NB163_160 := n8_
      have NB161_163 := n9_
      have NB163_161 := n10_
      have NB162_163 := n11_
      have NB163_162 := n12_
      clear n0_ n1_ n2_ n3_ n4_ n5_ n6_ n7_ n8_ n9_ n10_ n11_ n12_
      clear hb hg
      refine hK.out _ _ ⟨gb163, gb164, (.pointer (some ⟨gb163, 0, none⟩)), m11_, (by rw [ha.out]; exact putSel_upk 6 hb_ rfl rfl rfl), (pk BK160), (pk BK161), (pk BK162), (bnow HB), z_NB164_163, z_NB163_164, fun _ _ => (pk BK163), fun _ => GW163.out, fun _ => GE163.out, fun _ => NB160_163.out, fun _ => NB163_160.out, fun _ => NB161_163.out, fun _ => NB163_161.out, fun _ => NB162_163.out, fun _ => NB163_162.out, z_BK164, Q_GW164, Q_GE164, Q_NB160_164, Q_NB164_160, Q_NB161_164, Q_NB164_161, Q_NB162_164, Q_NB164_162, fun h0_ => absurd ((hoff 12 (by kernel_rfl)).symm.trans h0_) (by decide), fun h0_ => absurd ((hoff 13 (by kernel_rfl)).symm.trans h0_) (by decide), fun _ => rfl, Q_X11_⟩
    refine steps_cons ?_ ?_
    · rintro b a w' ⟨gb163, gb164, m10_, m11_, ha, Q_BK160, Q_BK161, Q_BK162, Q_HB, Q_NB164_163, Q_NB163_164, Q_BK163, Q_GW163, Q_GE163, Q_NB160_163, Q_NB163_160, Q_NB161_163, Q_NB163_161, Q_NB162_163, Q_NB163_162, Q_BK164, Q_GW164, Q_GE164, Q_NB160_164, Q_NB164_160, Q_NB161_164, Q_NB164_161, Q_NB162_164, Q_NB164_162, Q_BK163_e12, Q_BK164_e13, Q_X10_, Q_X11_⟩ hb_ hon hoff
      refine ⟨_, rfl, fun K hK => ?_⟩
      replace ha := Aside0.mk ha
      have BK160 := Aside0.mk Q_BK160
      have BK161 := Aside0.mk Q_BK161
      have BK162 := Aside0.mk Q_BK162
      have HB := Aside0.mk Q_HB
      refine box_step ?hg (N := 6) ?hd (cs := #[.int .i64 0, .int .i64 0]) (t := 81) ?hr ?_; (case hd => rfl); (case hg => rfl); (case hr => first | (go_simp; done) | (go_simp; rfl))
      intro gb164 hg w10 hbox hb
      have n0_ := bb BK160 hb
      have n1_ := bb BK161 hb
      have n2_ := bb BK162 hb
      have n3_ := bst HB hb
      have n4_ := Aside0.mk (hbox)
      have n5_ := gw hg HB
      have n6_ := gw hg HB
      have n7_ := nlt hg BK160
      have n8_ := ngt hg BK160
      have n9_ := nlt hg BK161
      have n10_ := ngt hg BK161
      have n11_ := nlt hg BK162
      have n12_ := ngt hg BK162
      have z_NB164_163 := fun (h0_ : up b 11 10 = true) (h1_ : up b 11 11 = true) => (show gb164 ≠ gb163 from (by cases hb_ : b 12 with | false => exact ((by rw [hg]; exact Nat.ne_of_gt (blk_lt (g := gb163) (o := .cells #[.int .i64 0, .int .i64 0] 81 (0, 0)) (by (with_reducible repeat (first | refine blk_drewN ?_ _ | refine blk_drew ?_ | refine blk_alloc ?_ _)); exact (Q_BK163 h0_ hb_))) : gb164 ≠ gb163)) | true => exact ((by rw [hg]; exact Nat.ne_of_gt (blk_lt (g := gb163) (by (with_reducible repeat (first | refine blk_drewN ?_ _ | refine blk_drew ?_ | refine blk_alloc ?_ _)); exact (Q_BK163_e12 hb_))) : gb164 ≠ gb163))))
      have z_NB163_164 := fun (h0_ : up b 11 10 = true) (h1_ : up b 11 11 = true) => (show gb163 ≠ gb164 from (by cases hb_ : b 12 with | false => exact ((by rw [hg]; exact Nat.ne_of_lt (blk_lt (g := gb163) (o := .cells #[.int .i64 0, .int .i64 0] 81 (0, 0)) (by (with_reducible repeat (first | refine blk_drewN ?_ _ | refine blk_drew ?_ | refine blk_alloc ?_ _)); exact (Q_BK163 h0_ hb_))) : gb163 ≠ gb164)) | true => exact ((by rw [hg]; exact Nat.ne_of_lt (blk_lt (g := gb163) (by (with_reducible repeat (first | refine blk_drewN ?_ _ | refine blk_drew ?_ | refine blk_alloc ?_ _)); exact (Q_BK163_e12 hb_))) : gb163 ≠ gb164))))
      have z_BK163 := fun (h0_ : b 10 = true) (h1_ : b 12 = false) => (show w10.heap[gb163]? = some (.cells #[.int .i64 0, .int .i64 0] 81 (0, 0)) from by first | exact (blk_below (g := gb163) (o := .cells #[.int .i64 0, .int .i64 0] 81 (0, 0)) (by (with_reducible repeat (first | refine blk_drewN ?_ _ | refine blk_drew ?_ | refine blk_alloc ?_ _)); exact (Q_BK163 h0_ h1_)) hb))
      clear BK160
      clear BK161
      clear BK162
      clear HB
      have BK160 := n0_
      have BK161 := n1_
      have BK162 := n2_
      have HB := n3_
      have BK164 := n4_
      have GW164 := n5_
      have GE164 := n6_
      have NB160_164 := n7_
      have NB164_160 := n8_
      have NB161_164 := n9_
      have NB164_161 := n10_
      have NB162_164 := n11_
      have NB164_162 := n12_
      clear n0_ n1_ n2_ n3_ n4_ n5_ n6_ n7_ n8_ n9_ n10_ n11_ n12_
      clear hb hg
      refine hK.out _ _ ⟨gb163, gb164, m10_, (.pointer (some ⟨gb164, 0, none⟩)), (by rw [ha.out]; exact putSel_upk 7 hb_ rfl rfl rfl), (pk BK160), (pk BK161), (pk BK162), (bnow HB), z_NB164_163, z_NB163_164, z_BK163, Q_GW163, Q_GE163, Q_NB160_163, Q_NB163_160, Q_NB161_163, Q_NB163_161, Q_NB162_163, Q_NB163_162, fun _ _ => (pk BK164), fun _ => GW164.out, fun _ => GE164.out, fun _ => NB160_164.out, fun _ => NB164_160.out, fun _ => NB161_164.out, fun _ => NB164_161.out, fun _ => NB162_164.out, fun _ => NB164_162.out, fun h0_ => absurd ((hoff 12 (by kernel_rfl)).symm.trans h0_) (by decide), fun h0_ => absurd ((hoff 13 (by kernel_rfl)).symm.trans h0_) (by decide), Q_X10_, fun _ => rfl⟩
    refine steps_cons ?_ ?_
    · rintro b a w' ⟨gb163, gb164, m10_, m11_, ha, Q_BK160, Q_BK161, Q_BK162, Q_HB, Q_NB164_163, Q_NB163_164, Q_BK163, Q_GW163, Q_GE163, Q_NB160_163, Q_NB163_160, Q_NB161_163, Q_NB163_161, Q_NB162_163, Q_NB163_162, Q_BK164, Q_GW164, Q_GE164, Q_NB160_164, Q_NB164_160, Q_NB161_164, Q_NB164_161, Q_NB162_164, Q_NB164_162, Q_BK163_e12, Q_BK164_e13, Q_X10_, Q_X11_⟩ hb_ hon hoff
      refine ⟨_, rfl, fun K hK => ?_⟩
      have e5 : a.tmps[5]? = some (m10_) := by rw [ha]; exact putSel_on (e := (10, 5, m10_)) 6 rfl rfl (hon 10 (by kernel_rfl)) rfl
      rw [Q_X10_ (hon 10 (by kernel_rfl))] at e5
      have e11 : a.tmps[11]? = some (.agg #[.int .i64 a1_0, .int .i64 a1_2]) := by rw [ha]; exact putSel_on (e := (4, 11, .agg #[.int .i64 a1_0, .int .i64 a1_2])) 2 rfl rfl (hon 4 (by kernel_rfl)) rfl
      replace ha := Aside0.mk ha
      have BK160 := Aside0.mk Q_BK160
      have BK161 := Aside0.mk Q_BK161
      have BK162 := Aside0.mk Q_BK162
      have HB := Aside0.mk Q_HB
      have NB164_163 := Aside0.mk (Q_NB164_163 (hon 10 (by kernel_rfl)) (hon 11 (by kernel_rfl)))
      have NB163_164 := Aside0.mk (Q_NB163_164 (hon 10 (by kernel_rfl)) (hon 11 (by kernel_rfl)))
      have BK163 := Aside0.mk (Q_BK163 (hon 10 (by kernel_rfl)) hb_)
      have GW163 := Aside0.mk (Q_GW163 (hon 10 (by kernel_rfl)))
      have GE163 := Aside0.mk (Q_GE163 (hon 10 (by kernel_rfl)))
      have NB160_163 := Aside0.mk (Q_NB160_163 (hon 10 (by kernel_rfl)))
      have NB163_160 := Aside0.mk (Q_NB163_160 (hon 10 (by kernel_rfl)))
      have NB161_163 := Aside0.mk (Q_NB161_163 (hon 10 (by kernel_rfl)))
      have NB163_161 := Aside0.mk (Q_NB163_161 (hon 10 (by kernel_rfl)))
      have NB162_163 := Aside0.mk (Q_NB162_163 (hon 10 (by kernel_rfl)))
      have NB163_162 := Aside0.mk (Q_NB163_162 (hon 10 (by kernel_rfl)))
      have BK164 := Aside0.mk (Q_BK164 (hon 11 (by kernel_rfl)) (hoff 13 (by kernel_rfl)))
      have GW164 := Aside0.mk (Q_GW164 (hon 11 (by kernel_rfl)))
      have GE164 := Aside0.mk (Q_GE164 (hon 11 (by kernel_rfl)))
      have NB160_164 := Aside0.mk (Q_NB160_164 (hon 11 (by kernel_rfl)))
      have NB164_160 := Aside0.mk (Q_NB164_160 (hon 11 (by kernel_rfl)))
      have NB161_164 := Aside0.mk (Q_NB161_164 (hon 11 (by kernel_rfl)))
      have NB164_161 := Aside0.mk (Q_NB164_161 (hon 11 (by kernel_rfl)))
      have NB162_164 := Aside0.mk (Q_NB162_164 (hon 11 (by kernel_rfl)))
      have NB164_162 := Aside0.mk (Q_NB164_162 (hon 11 (by kernel_rfl)))
      have hs13 : w'.cell? ⟨gb163, 0, none⟩ = some (.int .i64 0) := (blk_cell BK163.out 0).trans rfl
      have hfs13 := blk_frozen BK163.out 0
      have hns13_0 := NB160_163.out
      have hns13_1 := NB161_163.out
      have hns13_2 := NB162_163.out
      have hns13_4 := NB164_163.out
      have hms13_0 := NB163_160.out
      have hms13_1 := NB163_161.out
      have hms13_2 := NB163_162.out
      have hms13_4 := NB163_164.out
      have hs14 : w'.cell? ⟨gb163, 1, none⟩ = some (.int .i64 0) := (blk_cell BK163.out 1).trans rfl
      have hfs14 := blk_frozen BK163.out 1
      have hns14_0 := NB160_163.out
      have hns14_1 := NB161_163.out
      have hns14_2 := NB162_163.out
      have hns14_4 := NB164_163.out
      have hms14_0 := NB163_160.out
      have hms14_1 := NB163_161.out
      have hms14_2 := NB163_162.out
      have hms14_4 := NB163_164.out
      refine skip_ (w1 := ?_) (by rfl) rfl ?_ ?_
      rotate_left
      · go_simp
        rfl
      refine hK.out _ _ ⟨gb163, gb164, m10_, m11_, (by rw [ha.out]; exact putSel_none (v := undef) rfl), (by (with_reducible repeat (first | refine blk_drewN ?_ _ | refine blk_drew ?_ | refine blk_alloc ?_ _)); refine blk_far ?_ NB160_163.out _; (with_reducible repeat (first | refine blk_drewN ?_ _ | refine blk_drew ?_ | refine blk_alloc ?_ _)); refine blk_far ?_ NB160_163.out _; (with_reducible repeat (first | refine blk_drewN ?_ _ | refine blk_drew ?_ | refine blk_alloc ?_ _)); exact BK160.out), (by (with_reducible repeat (first | refine blk_drewN ?_ _ | refine blk_drew ?_ | refine blk_alloc ?_ _)); refine blk_far ?_ NB161_163.out _; (with_reducible repeat (first | refine blk_drewN ?_ _ | refine blk_drew ?_ | refine blk_alloc ?_ _)); refine blk_far ?_ NB161_163.out _; (with_reducible repeat (first | refine blk_drewN ?_ _ | refine blk_drew ?_ | refine blk_alloc ?_ _)); exact BK161.out), (by (with_reducible repeat (first | refine blk_drewN ?_ _ | refine blk_drew ?_ | refine blk_alloc ?_ _)); refine blk_far ?_ NB162_163.out _; (with_reducible repeat (first | refine blk_drewN ?_ _ | refine blk_drew ?_ | refine blk_alloc ?_ _)); refine blk_far ?_ NB162_163.out _; (with_reducible repeat (first | refine blk_drewN ?_ _ | refine blk_drew ?_ | refine blk_alloc ?_ _)); exact BK162.out), (bnow HB), fun _ _ => NB164_163.out, fun _ _ => NB163_164.out, fun _ h1_ => absurd ((up_self b 12).symm.trans h1_) (by decide), fun _ => GW163.out, fun _ => GE163.out, fun _ => NB160_163.out, fun _ => NB163_160.out, fun _ => NB161_163.out, fun _ => NB163_161.out, fun _ => NB162_163.out, fun _ => NB163_162.out, fun _ _ => (by (with_reducible repeat (first | refine blk_drewN ?_ _ | refine blk_drew ?_ | refine blk_alloc ?_ _)); refine blk_far ?_ NB164_163.out _; (with_reducible repeat (first | refine blk_drewN ?_ _ | refine blk_drew ?_ | refine blk_alloc ?_ _)); refine blk_far ?_ NB164_163.out _; (with_reducible repeat (first | refine blk_drewN ?_ _ | refine blk_drew ?_ | refine blk_alloc ?_ _)); exact BK164.out), fun _ => GW164.out, fun _ => GE164.out, fun _ => NB160_164.out, fun _ => NB164_160.out, fun _ => NB161_164.out, fun _ => NB164_161.out, fun _ => NB162_164.out, fun _ => NB164_162.out, fun _ => (by (with_reducible repeat (first | refine blk_drewN ?_ _ | refine blk_drew ?_ | refine blk_alloc ?_ _)); refine blk_put (cs := #[.int .i64 a1_0, .int .i64 0]) ?_ 1 _ rfl; (with_reducible repeat (first | refine blk_drewN ?_ _ | refine blk_drew ?_ | refine blk_alloc ?_ _)); refine blk_put (cs := #[.int .i64 0, .int .i64 0]) ?_ 0 _ rfl; (with_reducible repeat (first | refine blk_drewN ?_ _ | refine blk_drew ?_ | refine blk_alloc ?_ _)); exact BK163.out), fun h0_ => absurd ((hoff 13 (by kernel_rfl)).symm.trans h0_) (by decide), Q_X10_, Q_X11_⟩
    refine steps_cons ?_ ?_
    · rintro b a w' ⟨gb163, gb164, m10_, m11_, ha, Q_BK160, Q_BK161, Q_BK162, Q_HB, Q_NB164_163, Q_NB163_164, Q_BK163, Q_GW163, Q_GE163, Q_NB160_163, Q_NB163_160, Q_NB161_163, Q_NB163_161, Q_NB162_163, Q_NB163_162, Q_BK164, Q_GW164, Q_GE164, Q_NB160_164, Q_NB164_160, Q_NB161_164, Q_NB164_161, Q_NB162_164, Q_NB164_162, Q_BK163_e12, Q_BK164_e13, Q_X10_, Q_X11_⟩ hb_ hon hoff
      refine ⟨_, rfl, fun K hK => ?_⟩
      have e6 : a.tmps[6]? = some (m11_) := by rw [ha]; exact putSel_on (e := (11, 6, m11_)) 7 rfl rfl (hon 11 (by kernel_rfl)) rfl
      rw [Q_X11_ (hon 11 (by kernel_rfl))] at e6
      have e16 : a.tmps[16]? = some (.agg #[.int .i64 a1_1, .int .i64 a1_3]) := by rw [ha]; exact putSel_on (e := (9, 16, .agg #[.int .i64 a1_1, .int .i64 a1_3])) 5 rfl rfl (hon 9 (by kernel_rfl)) rfl
      replace ha := Aside0.mk ha
      have BK160 := Aside0.mk Q_BK160
      have BK161 := Aside0.mk Q_BK161
      have BK162 := Aside0.mk Q_BK162
      have HB := Aside0.mk Q_HB
      have NB164_163 := Aside0.mk (Q_NB164_163 (hon 10 (by kernel_rfl)) (hon 11 (by kernel_rfl)))
      have NB163_164 := Aside0.mk (Q_NB163_164 (hon 10 (by kernel_rfl)) (hon 11 (by kernel_rfl)))
      have GW163 := Aside0.mk (Q_GW163 (hon 10 (by kernel_rfl)))
      have GE163 := Aside0.mk (Q_GE163 (hon 10 (by kernel_rfl)))
      have NB160_163 := Aside0.mk (Q_NB160_163 (hon 10 (by kernel_rfl)))
      have NB163_160 := Aside0.mk (Q_NB163_160 (hon 10 (by kernel_rfl)))
      have NB161_163 := Aside0.mk (Q_NB161_163 (hon 10 (by kernel_rfl)))
      have NB163_161 := Aside0.mk (Q_NB163_161 (hon 10 (by kernel_rfl)))
      have NB162_163 := Aside0.mk (Q_NB162_163 (hon 10 (by kernel_rfl)))
      have NB163_162 := Aside0.mk (Q_NB163_162 (hon 10 (by kernel_rfl)))
      have BK164 := Aside0.mk (Q_BK164 (hon 11 (by kernel_rfl)) hb_)
      have GW164 := Aside0.mk (Q_GW164 (hon 11 (by kernel_rfl)))
      have GE164 := Aside0.mk (Q_GE164 (hon 11 (by kernel_rfl)))
      have NB160_164 := Aside0.mk (Q_NB160_164 (hon 11 (by kernel_rfl)))
      have NB164_160 := Aside0.mk (Q_NB164_160 (hon 11 (by kernel_rfl)))
      have NB161_164 := Aside0.mk (Q_NB161_164 (hon 11 (by kernel_rfl)))
      have NB164_161 := Aside0.mk (Q_NB164_161 (hon 11 (by kernel_rfl)))
      have NB162_164 := Aside0.mk (Q_NB162_164 (hon 11 (by kernel_rfl)))
      have NB164_162 := Aside0.mk (Q_NB164_162 (hon 11 (by kernel_rfl)))
      have BK163 := Aside0.mk (Q_BK163_e12 (hon 12 (by kernel_rfl)))
      have hs15 : w'.cell? ⟨gb164, 0, none⟩ = some (.int .i64 0) := (blk_cell BK164.out 0).trans rfl
      have hfs15 := blk_frozen BK164.out 0
      have hns15_0 := NB160_164.out
      have hns15_1 := NB161_164.out
      have hns15_2 := NB162_164.out
      have hns15_3 := NB163_164.out
      have hms15_0 := NB164_160.out
      have hms15_1 := NB164_161.out
      have hms15_2 := NB164_162.out
      have hms15_3 := NB164_163.out
      have hs16 : w'.cell? ⟨gb164, 1, none⟩ = some (.int .i64 0) := (blk_cell BK164.out 1).trans rfl
      have hfs16 := blk_frozen BK164.out 1
      have hns16_0 := NB160_164.out
      have hns16_1 := NB161_164.out
      have hns16_2 := NB162_164.out
      have hns16_3 := NB163_164.out
      have hms16_0 := NB164_160.out
      have hms16_1 := NB164_161.out
      have hms16_2 := NB164_162.out
      have hms16_3 := NB164_163.out
      refine skip_ (w1 := ?_) (by rfl) rfl ?_ ?_
      rotate_left
      · go_simp
        rfl
      refine hK.out _ _ ⟨gb163, gb164, m10_, m11_, (by rw [ha.out]; exact putSel_none (v := undef) rfl), (by (with_reducible repeat (first | refine blk_drewN ?_ _ | refine blk_drew ?_ | refine blk_alloc ?_ _)); refine blk_far ?_ NB160_164.out _; (with_reducible repeat (first | refine blk_drewN ?_ _ | refine blk_drew ?_ | refine blk_alloc ?_ _)); refine blk_far ?_ NB160_164.out _; (with_reducible repeat (first | refine blk_drewN ?_ _ | refine blk_drew ?_ | refine blk_alloc ?_ _)); exact BK160.out), (by (with_reducible repeat (first | refine blk_drewN ?_ _ | refine blk_drew ?_ | refine blk_alloc ?_ _)); refine blk_far ?_ NB161_164.out _; (with_reducible repeat (first | refine blk_drewN ?_ _ | refine blk_drew ?_ | refine blk_alloc ?_ _)); refine blk_far ?_ NB161_164.out _; (with_reducible repeat (first | refine blk_drewN ?_ _ | refine blk_drew ?_ | refine blk_alloc ?_ _)); exact BK161.out), (by (with_reducible repeat (first | refine blk_drewN ?_ _ | refine blk_drew ?_ | refine blk_alloc ?_ _)); refine blk_far ?_ NB162_164.out _; (with_reducible repeat (first | refine blk_drewN ?_ _ | refine blk_drew ?_ | refine blk_alloc ?_ _)); refine blk_far ?_ NB162_164.out _; (with_reducible repeat (first | refine blk_drewN ?_ _ | refine blk_drew ?_ | refine blk_alloc ?_ _)); exact BK162.out), (bnow HB), fun _ _ => NB164_163.out, fun _ _ => NB163_164.out, fun _ h1_ => absurd ((hon 12 (by kernel_rfl)).symm.trans h1_) (by decide), fun _ => GW163.out, fun _ => GE163.out, fun _ => NB160_163.out, fun _ => NB163_160.out, fun _ => NB161_163.out, fun _ => NB163_161.out, fun _ => NB162_163.out, fun _ => NB163_162.out, fun _ h1_ => absurd ((up_self b 13).symm.trans h1_) (by decide), fun _ => GW164.out, fun _ => GE164.out, fun _ => NB160_164.out, fun _ => NB164_160.out, fun _ => NB161_164.out, fun _ => NB164_161.out, fun _ => NB162_164.out, fun _ => NB164_162.out, fun _ => (by (with_reducible repeat (first | refine blk_drewN ?_ _ | refine blk_drew ?_ | refine blk_alloc ?_ _)); refine blk_far ?_ NB163_164.out _; (with_reducible repeat (first | refine blk_drewN ?_ _ | refine blk_drew ?_ | refine blk_alloc ?_ _)); refine blk_far ?_ NB163_164.out _; (with_reducible repeat (first | refine blk_drewN ?_ _ | refine blk_drew ?_ | refine blk_alloc ?_ _)); exact BK163.out), fun _ => (by (with_reducible repeat (first | refine blk_drewN ?_ _ | refine blk_drew ?_ | refine blk_alloc ?_ _)); refine blk_put (cs := #[.int .i64 a1_1, .int .i64 0]) ?_ 1 _ rfl; (with_reducible repeat (first | refine blk_drewN ?_ _ | refine blk_drew ?_ | refine blk_alloc ?_ _)); refine blk_put (cs := #[.int .i64 0, .int .i64 0]) ?_ 0 _ rfl; (with_reducible repeat (first | refine blk_drewN ?_ _ | refine blk_drew ?_ | refine blk_alloc ?_ _)); exact BK164.out), Q_X10_, Q_X11_⟩
    exact steps_nil
  rintro b a w16 hall ⟨gb163, gb164, m10_, m11_, ha, Q_BK160, Q_BK161, Q_BK162, Q_HB, Q_NB164_163, Q_NB163_164, Q_BK163, Q_GW163, Q_GE163, Q_NB160_163, Q_NB163_160, Q_NB161_163, Q_NB163_161, Q_NB162_163, Q_NB163_162, Q_BK164, Q_GW164, Q_GE164, Q_NB160_164, Q_NB164_160, Q_NB161_164, Q_NB164_161, Q_NB162_164, Q_NB164_162, Q_BK163_e12, Q_BK164_e13, Q_X10_, Q_X11_⟩
  clear BK160 BK161 BK162 HB
  have hb1_ := hall 1 (by kernel_rfl)
  have hb3_ := hall 3 (by kernel_rfl)
  have hb4_ := hall 4 (by kernel_rfl)
  have hb6_ := hall 6 (by kernel_rfl)
  have hb8_ := hall 8 (by kernel_rfl)
  have hb9_ := hall 9 (by kernel_rfl)
  have hb10_ := hall 10 (by kernel_rfl)
  have hb11_ := hall 11 (by kernel_rfl)
  have hb12_ := hall 12 (by kernel_rfl)
  have hb13_ := hall 13 (by kernel_rfl)
  subst ha
  obtain rfl := Q_X10_ hb10_
  obtain rfl := Q_X11_ hb11_
  simp only [putSel, hb1_, hb3_, hb4_, hb6_, hb8_, hb9_, hb10_, hb11_, hb12_, hb13_, if_true, Act.put, List.setIfInBounds_toArray, List.set_cons_zero, List.set_cons_succ]
  have BK160 := Aside0.mk Q_BK160
  clear Q_BK160
  have BK161 := Aside0.mk Q_BK161
  clear Q_BK161
  have BK162 := Aside0.mk Q_BK162
  clear Q_BK162
  have HB := Aside0.mk Q_HB
  clear Q_HB
  have NB164_163 := Aside0.mk (Q_NB164_163 hb10_ hb11_)
  clear Q_NB164_163
  have NB163_164 := Aside0.mk (Q_NB163_164 hb10_ hb11_)
  clear Q_NB163_164
  clear Q_BK163
  have GW163 := Aside0.mk (Q_GW163 hb10_)
  clear Q_GW163
  have GE163 := Aside0.mk (Q_GE163 hb10_)
  clear Q_GE163
  have NB160_163 := Aside0.mk (Q_NB160_163 hb10_)
  clear Q_NB160_163
  have NB163_160 := Aside0.mk (Q_NB163_160 hb10_)
  clear Q_NB163_160
  have NB161_163 := Aside0.mk (Q_NB161_163 hb10_)
  clear Q_NB161_163
  have NB163_161 := Aside0.mk (Q_NB163_161 hb10_)
  clear Q_NB163_161
  have NB162_163 := Aside0.mk (Q_NB162_163 hb10_)
  clear Q_NB162_163
  have NB163_162 := Aside0.mk (Q_NB163_162 hb10_)
  clear Q_NB163_162
  clear Q_BK164
  have GW164 := Aside0.mk (Q_GW164 hb11_)
  clear Q_GW164
  have GE164 := Aside0.mk (Q_GE164 hb11_)
  clear Q_GE164
  have NB160_164 := Aside0.mk (Q_NB160_164 hb11_)
  clear Q_NB160_164
  have NB164_160 := Aside0.mk (Q_NB164_160 hb11_)
  clear Q_NB164_160
  have NB161_164 := Aside0.mk (Q_NB161_164 hb11_)
  clear Q_NB161_164
  have NB164_161 := Aside0.mk (Q_NB164_161 hb11_)
  clear Q_NB164_161
  have NB162_164 := Aside0.mk (Q_NB162_164 hb11_)
  clear Q_NB162_164
  have NB164_162 := Aside0.mk (Q_NB164_162 hb11_)
  clear Q_NB164_162
  have BK163 := Aside0.mk (Q_BK163_e12 hb12_)
  clear Q_BK163_e12
  have BK164 := Aside0.mk (Q_BK164_e13 hb13_)
  clear Q_BK164_e13
  clear hall hb1_ hb3_ hb4_ hb6_ hb8_ hb9_ hb10_ hb11_ hb12_ hb13_
  try go_wp2
  replace BK160 := bd BK160
  replace BK161 := bd BK161
  replace BK162 := bd BK162
  replace BK163 := bd BK163
  replace BK164 := bd BK164
  replace HB := bdn HB
  refine start_ (n := 14) (S := fun w' => w'.cell? ⟨gb163, 0, none⟩ = some (.int .i64 a1_0) ∧ w'.cell? ⟨gb163, 1, none⟩ = some (.int .i64 a1_2) ∧ w'.cell? ⟨gb160, 0, none⟩ = some (.int .i64 a0_0) ∧ w'.cell? ⟨gb160, 1, none⟩ = some (.int .i64 a0_1) ∧ w'.cell? ⟨gb160, 2, none⟩ = some (.int .i64 a0_2) ∧ w'.cell? ⟨gb164, 0, none⟩ = some (.int .i64 a1_1) ∧ w'.cell? ⟨gb164, 1, none⟩ = some (.int .i64 a1_3)) (ds := []) #[false, false, false, false, false, false, false, false, false, false, false, false, false, false] (by kernel_rfl) rfl rfl ⟨(blk_cell BK163.out 0).trans rfl, (blk_cell BK163.out 1).trans rfl, (blk_cell BK160.out 0).trans rfl, (blk_cell BK160.out 1).trans rfl, (blk_cell BK160.out 2).trans rfl, (blk_cell BK164.out 0).trans rfl, (blk_cell BK164.out 1).trans rfl⟩ (fun hHeld => ?_); refine with_tabW grids_lead.tab2 grids_lead.bits2 (fun HT_ HW_ => ?_)
  generalize w16.drew = w17 at BK160 BK161 BK162 BK163 BK164 HB hHeld ⊢
  refine tz 0 17 HT_ HW_ hHeld ?_
  refine tz 1 18 HT_ HW_ hHeld ?_
  refine tz 2 19 HT_ HW_ hHeld ?_
  refine tz 4 21 HT_ HW_ hHeld ?_
  refine tz 5 22 HT_ HW_ hHeld ?_
  refine tz 6 23 HT_ HW_ hHeld ?_
  refine tz 8 25 HT_ HW_ hHeld ?_
  refine tz 9 26 HT_ HW_ hHeld ?_
  refine tz 10 27 HT_ HW_ hHeld ?_
  refine one_ (i := 3) (N := some 20) #[true, true, true, true, true, true, true, false, true, true, true, false, false, false] rfl rfl (one_of HT_.out (by kernel_rfl)) (by decide) (fun K hK => ?_)
  refine gs _ Try.func80 (grids_step_product.calls a1_0 a1_2 a0_0 a0_1 a0_2 a1_0 a1_2 t165 _ A3.out) ?_
  rintro e w18 ⟨rfl, hb⟩
  refine ⟨_, rfl, ?_⟩
  replace BK160 := bb BK160 hb
  replace BK161 := bb BK161 hb
  replace BK162 := bb BK162 hb
  replace BK163 := bb BK163 hb
  replace BK164 := bb BK164 hb
  replace HB := bst HB hb
  (try clear hb)
  (try clear hb2)
  (try clear hk)
  (try clear hi)
  refine hK.out _ _ ⟨(blk_cell BK163.out 0).trans rfl, (blk_cell BK163.out 1).trans rfl, (blk_cell BK160.out 0).trans rfl, (blk_cell BK160.out 1).trans rfl, (blk_cell BK160.out 2).trans rfl, (blk_cell BK164.out 0).trans rfl, (blk_cell BK164.out 1).trans rfl⟩ (fun hHeld => ?_)
  clear hK K
  refine norm_ (a' := ?_) ?_ ?_
  rotate_left
  · show Act.put _ (some 20) _ = _
    simp only [Act.put, List.setIfInBounds_toArray, List.set_cons_zero, List.set_cons_succ, i64_w, i32_w]
    rfl
  refine one_ (i := 7) (N := some 24) #[true, true, true, true, true, true, true, true, true, true, true, false, false, false] rfl rfl (one_of HT_.out (by kernel_rfl)) (by decide) (fun K hK => ?_)
  refine gs _ Try.func80 (grids_step_product.calls a1_0 a1_2 a0_0 a0_1 a0_2 a1_1 a1_3 t166 _ A4.out) ?_
  rintro e w19 ⟨rfl, hb⟩
  refine ⟨_, rfl, ?_⟩
  replace BK160 := bb BK160 hb
  replace BK161 := bb BK161 hb
  replace BK162 := bb BK162 hb
  replace BK163 := bb BK163 hb
  replace BK164 := bb BK164 hb
  replace HB := bst HB hb
  (try clear hb)
  (try clear hb2)
  (try clear hk)
  (try clear hi)
  refine hK.out _ _ ⟨(blk_cell BK163.out 0).trans rfl, (blk_cell BK163.out 1).trans rfl, (blk_cell BK160.out 0).trans rfl, (blk_cell BK160.out 1).trans rfl, (blk_cell BK160.out 2).trans rfl, (blk_cell BK164.out 0).trans rfl, (blk_cell BK164.out 1).trans rfl⟩ (fun hHeld => ?_)
  clear hK K
  refine norm_ (a' := ?_) ?_ ?_
  rotate_left
  · show Act.put _ (some 24) _ = _
    simp only [Act.put, List.setIfInBounds_toArray, List.set_cons_zero, List.set_cons_succ, i64_w, i32_w]
    rfl
  refine one_ (i := 11) (N := some 28) #[true, true, true, true, true, true, true, true, true, true, true, true, false, false] rfl rfl (one_of HT_.out (by kernel_rfl)) (by decide) (fun K hK => ?_)
  refine gs _ Try.func80 (grids_step_product.calls a1_1 a1_3 a0_0 a0_1 a0_2 a1_1 a1_3 t167 _ A5.out) ?_
  rintro e w20 ⟨rfl, hb⟩
  refine ⟨_, rfl, ?_⟩
  replace BK160 := bb BK160 hb
  replace BK161 := bb BK161 hb
  replace BK162 := bb BK162 hb
  replace BK163 := bb BK163 hb
  replace BK164 := bb BK164 hb
  replace HB := bst HB hb
  (try clear hb)
  (try clear hb2)
  (try clear hk)
  (try clear hi)
  refine hK.out _ _ ⟨(blk_cell BK163.out 0).trans rfl, (blk_cell BK163.out 1).trans rfl, (blk_cell BK160.out 0).trans rfl, (blk_cell BK160.out 1).trans rfl, (blk_cell BK160.out 2).trans rfl, (blk_cell BK164.out 0).trans rfl, (blk_cell BK164.out 1).trans rfl⟩ (fun hHeld => ?_)
  clear hK K
  refine norm_ (a' := ?_) ?_ ?_
  rotate_left
  · show Act.put _ (some 28) _ = _
    simp only [Act.put, List.setIfInBounds_toArray, List.set_cons_zero, List.set_cons_succ, i64_w, i32_w]
    rfl
  refine pz 12 29 HT_ ?_
  refine one_ (i := 13) (N := none) #[true, true, true, true, true, true, true, true, true, true, true, true, true, true] rfl rfl (one_of HT_.out (by kernel_rfl)) (by decide) (fun K hK => ?_)
  have hs21 : w20.cell? ⟨gb162, 0, none⟩ = some (.int .i64 0) := (blk_cell BK162.out 0).trans rfl
  have hfs21 := blk_frozen BK162.out 0
  have hns21_0 := NB160_162.out
  have hns21_1 := NB161_162.out
  have hns21_3 := NB163_162.out
  have hns21_4 := NB164_162.out
  have hms21_0 := NB162_160.out
  have hms21_1 := NB162_161.out
  have hms21_3 := NB162_163.out
  have hms21_4 := NB162_164.out
  have hs22 : w20.cell? ⟨gb162, 1, none⟩ = some (.int .i64 0) := (blk_cell BK162.out 1).trans rfl
  have hfs22 := blk_frozen BK162.out 1
  have hns22_0 := NB160_162.out
  have hns22_1 := NB161_162.out
  have hns22_3 := NB163_162.out
  have hns22_4 := NB164_162.out
  have hms22_0 := NB162_160.out
  have hms22_1 := NB162_161.out
  have hms22_3 := NB162_163.out
  have hms22_4 := NB162_164.out
  have hs23 : w20.cell? ⟨gb162, 2, none⟩ = some (.int .i64 0) := (blk_cell BK162.out 2).trans rfl
  have hfs23 := blk_frozen BK162.out 2
  have hns23_0 := NB160_162.out
  have hns23_1 := NB161_162.out
  have hns23_3 := NB163_162.out
  have hns23_4 := NB164_162.out
  have hms23_0 := NB162_160.out
  have hms23_1 := NB162_161.out
  have hms23_3 := NB162_163.out
  have hms23_4 := NB162_164.out
  refine skip_ (w1 := ?_) (by rfl) rfl ?_ ?_
  rotate_left
  · go_simp
    rfl
  refine hK.out _ _ ⟨((cell_far (p := ⟨gb162, _, none⟩) NB163_162.out _).trans (((cell_far (p := ⟨gb162, _, none⟩) NB163_162.out _).trans (((cell_far (p := ⟨gb162, _, none⟩) NB163_162.out _).trans (hHeld.1)))))), ((cell_far (p := ⟨gb162, _, none⟩) NB163_162.out _).trans (((cell_far (p := ⟨gb162, _, none⟩) NB163_162.out _).trans (((cell_far (p := ⟨gb162, _, none⟩) NB163_162.out _).trans (hHeld.2.1)))))), ((cell_far (p := ⟨gb162, _, none⟩) NB160_162.out _).trans (((cell_far (p := ⟨gb162, _, none⟩) NB160_162.out _).trans (((cell_far (p := ⟨gb162, _, none⟩) NB160_162.out _).trans (hHeld.2.2.1)))))), ((cell_far (p := ⟨gb162, _, none⟩) NB160_162.out _).trans (((cell_far (p := ⟨gb162, _, none⟩) NB160_162.out _).trans (((cell_far (p := ⟨gb162, _, none⟩) NB160_162.out _).trans (hHeld.2.2.2.1)))))), ((cell_far (p := ⟨gb162, _, none⟩) NB160_162.out _).trans (((cell_far (p := ⟨gb162, _, none⟩) NB160_162.out _).trans (((cell_far (p := ⟨gb162, _, none⟩) NB160_162.out _).trans (hHeld.2.2.2.2.1)))))), ((cell_far (p := ⟨gb162, _, none⟩) NB164_162.out _).trans (((cell_far (p := ⟨gb162, _, none⟩) NB164_162.out _).trans (((cell_far (p := ⟨gb162, _, none⟩) NB164_162.out _).trans (hHeld.2.2.2.2.2.1)))))), ((cell_far (p := ⟨gb162, _, none⟩) NB164_162.out _).trans (((cell_far (p := ⟨gb162, _, none⟩) NB164_162.out _).trans (((cell_far (p := ⟨gb162, _, none⟩) NB164_162.out _).trans (hHeld.2.2.2.2.2.2))))))⟩ (fun hHeld => ?_)
  clear hK K
  refine done_ (done_of HT_.out (by kernel_rfl)) ?_
  try go_wp2
  refine bodyPost_ret (results_cell_row rfl _ _ gb162 23 #[.int .i64 t165, .int .i64 t166, .int .i64 t167] (0, 0) _ rfl (by (with_reducible repeat (first | refine blk_drewN ?_ _ | refine blk_drew ?_ | refine blk_alloc ?_ _)); refine blk_put (cs := #[.int .i64 t165, .int .i64 t166, .int .i64 0]) ?_ 2 _ rfl; (with_reducible repeat (first | refine blk_drewN ?_ _ | refine blk_drew ?_ | refine blk_alloc ?_ _)); refine blk_put (cs := #[.int .i64 t165, .int .i64 0, .int .i64 0]) ?_ 1 _ rfl; (with_reducible repeat (first | refine blk_drewN ?_ _ | refine blk_drew ?_ | refine blk_alloc ?_ _)); refine blk_put (cs := #[.int .i64 0, .int .i64 0, .int .i64 0]) ?_ 0 _ rfl; (with_reducible repeat (first | refine blk_drewN ?_ _ | refine blk_drew ?_ | refine blk_alloc ?_ _)); exact BK162.out) Try.underlying23 rfl (by kernel_rfl)) rfl ?_
  exact rt HB
end
section
attribute [local go_sem high] eqA23
/-! ### grids_group: function 39 -/
def grids_group.l0 : Nat → List (S25) → Int → Int → Int → Int → Option ((List (S25)))
  | 0, _, _, _, _, _ => none
  | k + 1, x3, x6, x169000, x169001, x169002 => if x6 < 81 then ((some (Int.tmod x6 3)).bind fun z169 => ((some (wrap64 (z169 - 1))).bind fun z170 => ((some (wrap64 (Int.tdiv x6 3))).bind fun z171 => ((some (Int.tmod z171 3)).bind fun z172 => ((some (wrap64 (z172 - 1))).bind fun z173 => ((some (wrap64 (Int.tdiv x6 9))).bind fun z174 => ((some (Int.tmod z174 3)).bind fun z175 => ((some (wrap64 (z175 - 1))).bind fun z176 => ((some (wrap64 (Int.tdiv x6 27))).bind fun z177 => ((some (wrap64 (z177 - 1))).bind fun z178 => ((grids_lead.f x169000 x169001 x169002 z170 z173 z176 z178).bind fun bt180 => (if (bt180.1 == x169000 && (bt180.2.1 == x169001 && (bt180.2.2 == x169002))) = true then (if x3.length < 4398046511104 then ((some (wrap64 (x6 + 1))).bind fun z186 => (grids_group.l0 k (x3 ++ [(⟨z170, z173, z176, z178⟩ : S25)]) z186 x169000 x169001 x169002)) else (none)) else ((some (wrap64 (x6 + 1))).bind fun z187 => (grids_group.l0 k x3 z187 x169000 x169001 x169002)))))))))))))) else (some x3)
def grids_group.f (k : Nat) (a0_0 : Int) (a0_1 : Int) (a0_2 : Int) : Option ((List (S25))) := grids_group.l0 k ([] : List (S25)) 0 a0_0 a0_1 a0_2
theorem grids_group.mono_l : ∀ k, (∀ y0 y1 y2 y3 y4, LeO (grids_group.l0 k y0 y1 y2 y3 y4) (grids_group.l0 (k + 1) y0 y1 y2 y3 y4))
  | 0 => fun _ _ _ _ _ r h => by simp [grids_group.l0] at h
  | k + 1 => by
    have ih0 := grids_group.mono_l k
    · intro y0 y1 y2 y3 y4
      unfold grids_group.l0
      repeat' first
      | (with_reducible exact ih0 _ _ _ _ _)
      | (with_reducible exact LeO.refl _)
      | (with_reducible exact LeO.none _)
      | (with_reducible refine LeO.ite ?_ ?_)
      | (with_reducible refine LeO.bind ?_ (fun _ => ?_))
      | exact ih0 _ _ _ _ _
      | exact LeO.none _
      | refine LeO.ite ?_ ?_
      | refine LeO.bind ?_ (fun _ => ?_)
theorem grids_group.mono : ∀ a0 a1 a2 k, LeO (grids_group.f k a0 a1 a2) (grids_group.f (k + 1) a0 a1 a2) := by
  intro a0 a1 a2 k
  have ih0 := grids_group.mono_l k
  unfold grids_group.f
  repeat' first
      | (with_reducible exact ih0 _ _ _ _ _)
      | (with_reducible exact LeO.refl _)
      | (with_reducible exact LeO.none _)
      | (with_reducible refine LeO.ite ?_ ?_)
      | (with_reducible refine LeO.bind ?_ (fun _ => ?_))
      | exact ih0 _ _ _ _ _
      | exact LeO.none _
      | refine LeO.ite ?_ ?_
      | refine LeO.bind ?_ (fun _ => ?_)
set_option maxHeartbeats 8000000 in
set_option maxRecDepth 100000 in
theorem grids_group.calls (k : Nat) (a0_0 : Int) (a0_1 : Int) (a0_2 : Int) (r : List (S25)) (w : World) (h : grids_group.f k a0_0 a0_1 a0_2 = some r) :
    Calls Try.prog 39 #[.agg #[.int .i64 a0_0, .int .i64 a0_1, .int .i64 a0_2]] w fun e w' => ∃ v0_ : Value, e = .returned (v0_) ∧ Kd.R k25 25 w' w.heap.size (fun _ => True) v0_ r ∧ Below w.heap.size w w' := by
  have hu23 := Try.underlying23
  have hu25 := Try.underlying25
  have HB := Aside0.mk (Below.refl w.heap.size w)
  have H : (grids_group.l0 k ([] : List (S25)) 0 a0_0 a0_1 a0_2) = some r := h
  clear h
  have H' := Aside0.mk H
  clear H
  go_enter Try.func39, Try.ntmps39
  go_wp2_with (first | ((with_reducible refine gate_dst (N := 1) rfl ?_); refine bx 1 #[.int .i64 a0_0, .int .i64 a0_1, .int .i64 a0_2] 23 fun gb168 hg w2 BK168 hb => ?_; have GW168 := gw hg HB; have GE168 := gw hg HB; replace HB := bst HB hb; clear hb hg))
  (try simp only [Act.put, List.setIfInBounds_toArray, List.set_cons_zero, List.set_cons_succ])
  go_loopg [3, 6] k (fun kq v3 v6 w' => ∃ (x3_1 : List (S25)) (x6_1 : Int), v6 = .int .i64 x6_1 ∧ Aside0 (grids_group.l0 kq x3_1 x6_1 a0_0 a0_1 a0_2 = some r) ∧ Aside0 (kq ≤ k) ∧ Aside0 (Kd.R k25 25 w' w.heap.size (fun _ => True) v3 x3_1) ∧ Aside0 (w'.heap[gb168]? = some (.cells #[.int .i64 a0_0, .int .i64 a0_1, .int .i64 a0_2] 23 (0, 0))) ∧ Aside0 (Below w.heap.size w w'))
  case atStart => exact ⟨(([] : List (S25))), (0), (by first | rfl | (simp; done) | (simp [*]; done)), H', ⟨Nat.le_refl _⟩, ⟨by first | exact Kd.R_nil _ _ _ _ _ | exact Kd.N_nil _ _ _ _ _ | exact Kd.V_nil _ _ _ _ _ | exact Kd.Q_nil _ _ _ _ _ | exact Kd.S_nil _ _ _ _ _⟩, ⟨pk BK168⟩, ⟨bnow HB⟩⟩
  case round =>
    clear H'
    try clear p2
    obtain ⟨x3_1, x6_1, rfl, HA, HK1, HO_3, BK168, HB⟩ := hrel
    cases gk with
    | zero => exact absurd HA.out (by simp [grids_group.l0])
    | succ k1 =>
      have H := HA.out
      clear HA
      simp only [grids_group.l0] at H
      by_cases c3 : x6_1 < 81
      · rw [if_pos c3] at H
        have c3b0 : decide (x6_1 < 81) = true := decide_eq_true c3
        clear c3
        obtain ⟨z169, E40, H⟩ := oc H
        obtain ⟨z170, E50, H⟩ := oc H
        have E5w : (IntKind.i64.wrap (z169 - 1)) = z170 := (i64_w _).trans E50
        obtain ⟨z171, E60, H⟩ := oc H
        have E6w : (IntKind.i64.wrap (Int.tdiv x6_1 3)) = z171 := (i64_w _).trans E60
        obtain ⟨z172, E70, H⟩ := oc H
        obtain ⟨z173, E80, H⟩ := oc H
        have E8w : (IntKind.i64.wrap (z172 - 1)) = z173 := (i64_w _).trans E80
        obtain ⟨z174, E90, H⟩ := oc H
        have E9w : (IntKind.i64.wrap (Int.tdiv x6_1 9)) = z174 := (i64_w _).trans E90
        obtain ⟨z175, E100, H⟩ := oc H
        obtain ⟨z176, E110, H⟩ := oc H
        have E11w : (IntKind.i64.wrap (z175 - 1)) = z176 := (i64_w _).trans E110
        obtain ⟨z177, E120, H⟩ := oc H
        have E12w : (IntKind.i64.wrap (Int.tdiv x6_1 27)) = z177 := (i64_w _).trans E120
        obtain ⟨z178, E130, H⟩ := oc H
        have E13w : (IntKind.i64.wrap (z177 - 1)) = z178 := (i64_w _).trans E130
        obtain ⟨⟨t180, t181, t182⟩, A14, H⟩ := ob H
        by_cases c15 : (t180 == a0_0 && (t181 == a0_1 && (t182 == a0_2))) = true
        · rw [if_pos c15] at H
          have c15b0 : (t180 == a0_0 && (t181 == a0_1 && (t182 == a0_2))) = true := c15
          (try (have c15b1 : decide (t180 = a0_0 && (t181 == a0_1 && (t182 == a0_2))) = true := by simpa using c15))
          (try (have c15b2 : (t180 == a0_0 && (t181 == a0_1 && (t182 == a0_2))) = true := by simpa using c15))
          clear c15
          by_cases c16 : x3_1.length < 4398046511104
          · rw [if_pos c16] at H
            have LMc16 := Aside0.mk c16
            clear c16
            obtain ⟨y183, hy183⟩ : ∃ y_ : List (S25), y_ = (x3_1 ++ [(⟨z170, z173, z176, z178⟩ : S25)]) := ⟨_, rfl⟩
            replace H : ((some (wrap64 (x6_1 + 1))).bind fun z186 => (grids_group.l0 k1 y183 z186 a0_0 a0_1 a0_2)) = some r := by first | (rw [hy183]; with_reducible exact H) | (have H2_ := (Option.bind_some _ _).symm.trans H; rw [hy183]; with_reducible exact H2_) | (have H2_ := (Option.bind_some _ _).symm.trans H; with_reducible exact H2_) | with_reducible exact H | (rw [hy183]; exact H) | exact H
            have Ny183 := Aside0.mk hy183
            clear hy183
            obtain ⟨z186, E170, H⟩ := oc H
            have E17w : (IntKind.i64.wrap (x6_1 + 1)) = z186 := (i64_w _).trans E170
            have H' := Aside0.mk H
            clear H
            try go_wp2_with (first | ((with_reducible refine gate_dst (N := 5) rfl ?_); refine box_event ?hg (N := 5) ?hd (cs := #[.int .i64 0, .int .i64 0, .int .i64 0, .int .i64 0]) (t := 25) ?hr ?_; (case hd => rfl); (case hg => rfl); (case hr => first | (go_simp; done) | (go_simp; rfl)); intro gb179 hg w18 hbox hb; have BK179 := Aside0.mk (hbox); have GW179 := gw hg HB; have GE179 := gw hg HB; have NB168_179 := nlt hg BK168; have NB179_168 := ngt hg BK168; replace HO_3 := Aside0.mk (Kd.R_below (Kd.R_elderB (by (with_reducible repeat (first | apply Kd.R_alloc | apply Kd.R_drewN | apply Kd.R_drew)); exact HO_3.out) gb179 (Nat.le_of_eq hg.symm)) hb); replace BK168 := bb BK168 hb; replace HB := bst HB hb; clear hb hg; have hnb19 := NB179_168.out; have hnc19 := NB168_179.out; have ⟨hcz20_0, hcz20_1, hcz20_2, hcz20_3, hfz20_0, hfz20_1, hfz20_2, hfz20_3⟩ := cf4 BK179) | ((with_reducible refine gate_store (t := 25) (p := 5) rfl ?_); refine sx 25 5 (((((w18.setCell ⟨gb179, 0, none⟩ (.int .i64 z170)).setCell ⟨gb179, 1, none⟩ (.int .i64 z173)).setCell ⟨gb179, 2, none⟩ (.int .i64 z176)).setCell ⟨gb179, 3, none⟩ (.int .i64 z178))) fun w21 hw => ?_; have n0_ : Aside0 (Kd.R k25 25 w21 w.heap.size (fun k_ => k_ ≠ gb179) u3 x3_1) := ⟨(by rw [hw]; exact (by (with_reducible repeat (first | apply Kd.R_alloc | apply Kd.R_drewN | apply Kd.R_drew)); exact Kd.R_mono (Kd.R_far (p := ⟨gb179, 3, none⟩) (Kd.R_far (p := ⟨gb179, 2, none⟩) (Kd.R_far (p := ⟨gb179, 1, none⟩) (Kd.R_far (p := ⟨gb179, 0, none⟩) (Kd.R_mono HO_3.out (fun k_ hk => (⟨hk, hk.2⟩ : _ ∧ k_ ≠ gb179))) (fun _ hk => hk.2) (.int .i64 z170)) (fun _ hk => hk.2) (.int .i64 z173)) (fun _ hk => hk.2) (.int .i64 z176)) (fun _ hk => hk.2) (.int .i64 z178)) (fun _ hk => hk.1.2)))⟩; have n1_ := fw hw BK168; have n2_ := pw4 hw BK179; have n3_ := bw hw HB; clear hw; clear HO_3; clear BK168; clear BK179; clear HB; have HO_3 := n0_; have BK168 := n1_; have BK179 := n2_; have HB := n3_; clear n0_ n1_ n2_ n3_))
            replace HO_3 := Aside0.mk (Kd.R_drew HO_3.out)
            replace BK168 := bd BK168
            replace BK179 := bd BK179
            replace HB := bdn HB
            refine start_ (n := 5) (S := fun w' => w'.cell? ⟨gb168, 0, none⟩ = some (.int .i64 a0_0) ∧ w'.cell? ⟨gb168, 1, none⟩ = some (.int .i64 a0_1) ∧ w'.cell? ⟨gb168, 2, none⟩ = some (.int .i64 a0_2) ∧ w'.cell? ⟨gb179, 0, none⟩ = some (.int .i64 z170) ∧ w'.cell? ⟨gb179, 1, none⟩ = some (.int .i64 z173) ∧ w'.cell? ⟨gb179, 2, none⟩ = some (.int .i64 z176) ∧ w'.cell? ⟨gb179, 3, none⟩ = some (.int .i64 z178)) (ds := []) #[false, false, false, false, false] (by kernel_rfl) rfl rfl ⟨(blk_cell BK168.out 0).trans rfl, (blk_cell BK168.out 1).trans rfl, (blk_cell BK168.out 2).trans rfl, (blk_cell BK179.out 0).trans rfl, (blk_cell BK179.out 1).trans rfl, (blk_cell BK179.out 2).trans rfl, (blk_cell BK179.out 3).trans rfl⟩ (fun hHeld => ?_)
            generalize w21.drew = w22 at HO_3 BK168 BK179 HB hHeld ⊢
            refine take_ (i := 0) (N := some 24) (v := ?_) (a' := ?_) #[true, false, false, false, false] rfl rfl (by kernel_rfl) (fun _ _ _ h => h) (Or.inl ⟨by rfl, ?_⟩) hHeld ?_ ?_
            rotate_left
            · rintro w' ⟨s0, s1, s2, s3, s4, s5, s6⟩
              go_simp
              with_reducible rfl
            rotate_left
            · simp only [Act.put, List.setIfInBounds_toArray, List.set_cons_zero, List.set_cons_succ, i64_w, i32_w]
              rfl
            refine take_ (i := 1) (N := some 25) (v := ?_) (a' := ?_) #[true, true, false, false, false] rfl rfl (by kernel_rfl) (fun _ _ _ h => h) (Or.inl ⟨by rfl, ?_⟩) hHeld ?_ ?_
            rotate_left
            · rintro w' ⟨s0, s1, s2, s3, s4, s5, s6⟩
              go_simp
              with_reducible rfl
            rotate_left
            · simp only [Act.put, List.setIfInBounds_toArray, List.set_cons_zero, List.set_cons_succ, i64_w, i32_w]
              rfl
            refine take_ (i := 3) (N := some 27) (v := ?_) (a' := ?_) #[true, true, false, true, false] rfl rfl (by kernel_rfl) (fun _ _ _ h => h) (Or.inl ⟨by rfl, ?_⟩) hHeld ?_ ?_
            rotate_left
            · rintro w' ⟨s0, s1, s2, s3, s4, s5, s6⟩
              go_simp
              with_reducible rfl
            rotate_left
            · simp only [Act.put, List.setIfInBounds_toArray, List.set_cons_zero, List.set_cons_succ, i64_w, i32_w]
              rfl
            refine one_ (i := 2) (N := some 26) #[true, true, true, true, false] rfl rfl (by kernel_rfl) (by decide) (fun K hK => ?_)
            refine gs _ Try.func60 (grids_lead.calls a0_0 a0_1 a0_2 z170 z173 z176 z178 t180 t181 t182 _ A14.out) ?_
            rintro e w23 ⟨rfl, hb⟩
            refine ⟨_, rfl, ?_⟩
            have n0_ := Aside0.mk (Kd.R_below (by (with_reducible repeat (first | apply Kd.R_alloc | apply Kd.R_drewN | apply Kd.R_drew)); exact HO_3.out) hb)
            have n1_ := bb BK168 hb
            have n2_ := bb BK179 hb
            have n3_ := bst HB hb
            clear HO_3
            clear BK168
            clear BK179
            clear HB
            have HO_3 := n0_
            have BK168 := n1_
            have BK179 := n2_
            have HB := n3_
            clear n0_ n1_ n2_ n3_
            (try clear hb)
            (try clear hb2)
            (try clear hk)
            (try clear hi)
            refine hK.out _ _ ⟨(blk_cell BK168.out 0).trans rfl, (blk_cell BK168.out 1).trans rfl, (blk_cell BK168.out 2).trans rfl, (blk_cell BK179.out 0).trans rfl, (blk_cell BK179.out 1).trans rfl, (blk_cell BK179.out 2).trans rfl, (blk_cell BK179.out 3).trans rfl⟩ (fun hHeld => ?_)
            clear hK K
            refine norm_ (a' := ?_) ?_ ?_
            rotate_left
            · show Act.put _ (some 26) _ = _
              simp only [Act.put, List.setIfInBounds_toArray, List.set_cons_zero, List.set_cons_succ, i64_w, i32_w]
              rfl
            refine pure_ (i := 4) (N := some 28) (v := ?_) (a' := ?_) #[true, true, true, true, true] rfl rfl (by kernel_rfl) (fun _ _ _ h => h) (Or.inl ⟨by rfl, ?_⟩) ?_ ?_
            rotate_left
            · intro w'
              go_simp
              with_reducible rfl
            rotate_left
            · simp only [Act.put, List.setIfInBounds_toArray, List.set_cons_zero, List.set_cons_succ, i64_w, i32_w]
              rfl
            refine done_ (by kernel_rfl) ?_
            have ⟨hcz24_0, hcz24_1, hcz24_2, hcz24_3, hfz24_0, hfz24_1, hfz24_2, hfz24_3⟩ := cf4 BK179
            try go_wp2_with (first | ((with_reducible refine gate_builtin (b := .append) (xs := #[.tmp 29, .tmp 31]) rfl ?_); at_builtin; refine Kd.R_append k25 (w0 := w) w.heap.size rfl (.tmp 29) (.tmp 31) 48 25 (.agg #[(.int .i64 0), (.int .i64 0), (.int .i64 0), (.int .i64 0)]) 32 rfl Try.underlying48 info25 rfl (by decide) (by omega) u3 x3_1 (⟨z170, z173, z176, z178⟩ : S25) [.int .i64 z170, .int .i64 z173, .int .i64 z176, .int .i64 z178] (fun k_ => k_ ≠ gb179) (fun _ => False) rfl rfl ?aP (fun _ hk => hk.elim) ?aF ?aO ?aB ?aS ?aL ?_; (case aP => exact k25_mkM _ _ _ (⟨z170, z173, z176, z178⟩ : S25)); (case aB => exact (bnow HB)); (case aF => exact (fun k_ hk => Kd.freshB (g := gb179) (o := .cells #[.int .i64 z170, .int .i64 z173, .int .i64 z176, .int .i64 z178] 25 (0, 0)) (pk BK179) k_ hk)); (case aO => exact (by (with_reducible repeat (first | apply Kd.R_alloc | apply Kd.R_drewN | apply Kd.R_drew)); exact HO_3.out)); (case aS => exact (below_size (bnow HB))); (case aL => have := LMc16.out; omega); intro v184 w25 ho hb hg hat; rw [← Ny183.out] at ho; have n0_ := Aside0.mk (blk_grown (g := gb168) (o := .cells #[.int .i64 a0_0, .int .i64 a0_1, .int .i64 a0_2] 23 (0, 0)) (pk BK168) hg (Kd.R_ne HO_3.out BK168.out (by decide))); have n1_ := Aside0.mk (blk_grown (g := gb179) (o := .cells #[.int .i64 z170, .int .i64 z173, .int .i64 z176, .int .i64 z178] 25 (0, 0)) (pk BK179) hg (Kd.R_away HO_3.out (fun _ hk => hk))); have n2_ := Aside0.mk (hb); have n3_ := Aside0.mk (ho); clear BK168; clear BK179; clear HB; clear HO_3; have BK168 := n0_; have BK179 := n1_; have HB := n2_; have HO185 := n3_; clear n0_ n1_ n2_ n3_; clear ho hb hg hat))
            go_roundg k1
            case measure => have := HK1.out; omega
            case rel => exact ⟨(y183), (z186), (by first | rfl | (simp; done) | (simp [*]; done)), H', ⟨by have := HK1.out; omega⟩, ⟨by (with_reducible repeat (first | apply Kd.R_alloc | apply Kd.R_drewN | apply Kd.R_drew)); exact Kd.R_mono HO185.out (fun _ hk => trivial)⟩, ⟨pk BK168⟩, ⟨bnow HB⟩⟩
          · rw [if_neg c16] at H
            exact absurd H (by simp)
        · rw [if_neg c15] at H
          have c15b0 : (t180 == a0_0 && (t181 == a0_1 && (t182 == a0_2))) = false := by simpa using c15
          (try (have c15b1 : decide (t180 = a0_0 && (t181 == a0_1 && (t182 == a0_2))) = false := by simpa using c15))
          (try (have c15b2 : (t180 == a0_0 && (t181 == a0_1 && (t182 == a0_2))) = false := by simpa using c15))
          (try (have c15b3 : ¬ (t180 = a0_0 && (t181 == a0_1 && (t182 == a0_2))) := by simpa using c15))
          clear c15
          obtain ⟨z187, E260, H⟩ := oc H
          have E26w : (IntKind.i64.wrap (x6_1 + 1)) = z187 := (i64_w _).trans E260
          have H' := Aside0.mk H
          clear H
          try go_wp2_with (first | ((with_reducible refine gate_dst (N := 5) rfl ?_); refine box_event ?hg (N := 5) ?hd (cs := #[.int .i64 0, .int .i64 0, .int .i64 0, .int .i64 0]) (t := 25) ?hr ?_; (case hd => rfl); (case hg => rfl); (case hr => first | (go_simp; done) | (go_simp; rfl)); intro gb179 hg w27 hbox hb; have BK179 := Aside0.mk (hbox); have GW179 := gw hg HB; have GE179 := gw hg HB; have NB168_179 := nlt hg BK168; have NB179_168 := ngt hg BK168; replace HO_3 := Aside0.mk (Kd.R_below (Kd.R_elderB (by (with_reducible repeat (first | apply Kd.R_alloc | apply Kd.R_drewN | apply Kd.R_drew)); exact HO_3.out) gb179 (Nat.le_of_eq hg.symm)) hb); replace BK168 := bb BK168 hb; replace HB := bst HB hb; clear hb hg; have hnb28 := NB179_168.out; have hnc28 := NB168_179.out; have ⟨hcz29_0, hcz29_1, hcz29_2, hcz29_3, hfz29_0, hfz29_1, hfz29_2, hfz29_3⟩ := cf4 BK179) | ((with_reducible refine gate_store (t := 25) (p := 5) rfl ?_); refine sx 25 5 (((((w27.setCell ⟨gb179, 0, none⟩ (.int .i64 z170)).setCell ⟨gb179, 1, none⟩ (.int .i64 z173)).setCell ⟨gb179, 2, none⟩ (.int .i64 z176)).setCell ⟨gb179, 3, none⟩ (.int .i64 z178))) fun w30 hw => ?_; have n0_ : Aside0 (Kd.R k25 25 w30 w.heap.size (fun k_ => k_ ≠ gb179) u3 x3_1) := ⟨(by rw [hw]; exact (by (with_reducible repeat (first | apply Kd.R_alloc | apply Kd.R_drewN | apply Kd.R_drew)); exact Kd.R_mono (Kd.R_far (p := ⟨gb179, 3, none⟩) (Kd.R_far (p := ⟨gb179, 2, none⟩) (Kd.R_far (p := ⟨gb179, 1, none⟩) (Kd.R_far (p := ⟨gb179, 0, none⟩) (Kd.R_mono HO_3.out (fun k_ hk => (⟨hk, hk.2⟩ : _ ∧ k_ ≠ gb179))) (fun _ hk => hk.2) (.int .i64 z170)) (fun _ hk => hk.2) (.int .i64 z173)) (fun _ hk => hk.2) (.int .i64 z176)) (fun _ hk => hk.2) (.int .i64 z178)) (fun _ hk => hk.1.2)))⟩; have n1_ := fw hw BK168; have n2_ := pw4 hw BK179; have n3_ := bw hw HB; clear hw; clear HO_3; clear BK168; clear BK179; clear HB; have HO_3 := n0_; have BK168 := n1_; have BK179 := n2_; have HB := n3_; clear n0_ n1_ n2_ n3_))
          replace HO_3 := Aside0.mk (Kd.R_drew HO_3.out)
          replace BK168 := bd BK168
          replace BK179 := bd BK179
          replace HB := bdn HB
          refine start_ (n := 5) (S := fun w' => w'.cell? ⟨gb168, 0, none⟩ = some (.int .i64 a0_0) ∧ w'.cell? ⟨gb168, 1, none⟩ = some (.int .i64 a0_1) ∧ w'.cell? ⟨gb168, 2, none⟩ = some (.int .i64 a0_2) ∧ w'.cell? ⟨gb179, 0, none⟩ = some (.int .i64 z170) ∧ w'.cell? ⟨gb179, 1, none⟩ = some (.int .i64 z173) ∧ w'.cell? ⟨gb179, 2, none⟩ = some (.int .i64 z176) ∧ w'.cell? ⟨gb179, 3, none⟩ = some (.int .i64 z178)) (ds := []) #[false, false, false, false, false] (by kernel_rfl) rfl rfl ⟨(blk_cell BK168.out 0).trans rfl, (blk_cell BK168.out 1).trans rfl, (blk_cell BK168.out 2).trans rfl, (blk_cell BK179.out 0).trans rfl, (blk_cell BK179.out 1).trans rfl, (blk_cell BK179.out 2).trans rfl, (blk_cell BK179.out 3).trans rfl⟩ (fun hHeld => ?_)
          generalize w30.drew = w31 at HO_3 BK168 BK179 HB hHeld ⊢
          refine take_ (i := 0) (N := some 24) (v := ?_) (a' := ?_) #[true, false, false, false, false] rfl rfl (by kernel_rfl) (fun _ _ _ h => h) (Or.inl ⟨by rfl, ?_⟩) hHeld ?_ ?_
          rotate_left
          · rintro w' ⟨s0, s1, s2, s3, s4, s5, s6⟩
            go_simp
            with_reducible rfl
          rotate_left
          · simp only [Act.put, List.setIfInBounds_toArray, List.set_cons_zero, List.set_cons_succ, i64_w, i32_w]
            rfl
          refine take_ (i := 1) (N := some 25) (v := ?_) (a' := ?_) #[true, true, false, false, false] rfl rfl (by kernel_rfl) (fun _ _ _ h => h) (Or.inl ⟨by rfl, ?_⟩) hHeld ?_ ?_
          rotate_left
          · rintro w' ⟨s0, s1, s2, s3, s4, s5, s6⟩
            go_simp
            with_reducible rfl
          rotate_left
          · simp only [Act.put, List.setIfInBounds_toArray, List.set_cons_zero, List.set_cons_succ, i64_w, i32_w]
            rfl
          refine take_ (i := 3) (N := some 27) (v := ?_) (a' := ?_) #[true, true, false, true, false] rfl rfl (by kernel_rfl) (fun _ _ _ h => h) (Or.inl ⟨by rfl, ?_⟩) hHeld ?_ ?_
          rotate_left
          · rintro w' ⟨s0, s1, s2, s3, s4, s5, s6⟩
            go_simp
            with_reducible rfl
          rotate_left
          · simp only [Act.put, List.setIfInBounds_toArray, List.set_cons_zero, List.set_cons_succ, i64_w, i32_w]
            rfl
          refine one_ (i := 2) (N := some 26) #[true, true, true, true, false] rfl rfl (by kernel_rfl) (by decide) (fun K hK => ?_)
          refine gs _ Try.func60 (grids_lead.calls a0_0 a0_1 a0_2 z170 z173 z176 z178 t180 t181 t182 _ A14.out) ?_
          rintro e w32 ⟨rfl, hb⟩
          refine ⟨_, rfl, ?_⟩
          have n0_ := Aside0.mk (Kd.R_below (by (with_reducible repeat (first | apply Kd.R_alloc | apply Kd.R_drewN | apply Kd.R_drew)); exact HO_3.out) hb)
          have n1_ := bb BK168 hb
          have n2_ := bb BK179 hb
          have n3_ := bst HB hb
          clear HO_3
          clear BK168
          clear BK179
          clear HB
          have HO_3 := n0_
          have BK168 := n1_
          have BK179 := n2_
          have HB := n3_
          clear n0_ n1_ n2_ n3_
          (try clear hb)
          (try clear hb2)
          (try clear hk)
          (try clear hi)
          refine hK.out _ _ ⟨(blk_cell BK168.out 0).trans rfl, (blk_cell BK168.out 1).trans rfl, (blk_cell BK168.out 2).trans rfl, (blk_cell BK179.out 0).trans rfl, (blk_cell BK179.out 1).trans rfl, (blk_cell BK179.out 2).trans rfl, (blk_cell BK179.out 3).trans rfl⟩ (fun hHeld => ?_)
          clear hK K
          refine norm_ (a' := ?_) ?_ ?_
          rotate_left
          · show Act.put _ (some 26) _ = _
            simp only [Act.put, List.setIfInBounds_toArray, List.set_cons_zero, List.set_cons_succ, i64_w, i32_w]
            rfl
          refine pure_ (i := 4) (N := some 28) (v := ?_) (a' := ?_) #[true, true, true, true, true] rfl rfl (by kernel_rfl) (fun _ _ _ h => h) (Or.inl ⟨by rfl, ?_⟩) ?_ ?_
          rotate_left
          · intro w'
            go_simp
            with_reducible rfl
          rotate_left
          · simp only [Act.put, List.setIfInBounds_toArray, List.set_cons_zero, List.set_cons_succ, i64_w, i32_w]
            rfl
          refine done_ (by kernel_rfl) ?_
          try go_wp2
          go_roundg k1
          case measure => have := HK1.out; omega
          case rel => exact ⟨(x3_1), (z187), (by first | rfl | (simp; done) | (simp [*]; done)), H', ⟨by have := HK1.out; omega⟩, ⟨by (with_reducible repeat (first | apply Kd.R_alloc | apply Kd.R_drewN | apply Kd.R_drew)); exact Kd.R_mono HO_3.out (fun _ hk => trivial)⟩, ⟨pk BK168⟩, ⟨bnow HB⟩⟩
      · rw [if_neg c3] at H
        have c3b0 : decide (x6_1 < 81) = false := decide_eq_false c3
        clear c3
        obtain rfl := Option.some.inj H
        go_wp2
        go_ret
        exact ⟨_, by first | rfl | (simp [errW_none, errW_some] <;> rfl) | (simp [*, errW_none, errW_some] <;> rfl), by (with_reducible repeat (first | apply Kd.R_alloc | apply Kd.R_drewN | apply Kd.R_drew)); exact HO_3.out, by repeat (first | (with_reducible first | exact HB.out | apply below_alloc | apply pw_below_drewN | apply below_drew1 | refine below_set ?_ GE168.out) | exact HB.out)⟩
end
section
/-! ### cmp_Or_int: function 51 -/
def cmp_Or_int.l0 : Nat → Int → List Int → Int → Int → Option (Int)
  | 0, _, _, _, _ => none
  | k + 1, x3, x6, x7, x8 => if x8 < x7 then (if 0 ≤ x8 then (if x8 < (x6.length : Int) then (if (rd x6 x8) = x3 then ((some (wrap64 (x8 + 1))).bind fun z189 => (cmp_Or_int.l0 k x3 x6 x7 z189)) else (some (rd x6 x8))) else (none)) else (none)) else (some x3)
def cmp_Or_int.f (k : Nat) (l0 : List Int) : Option (Int) := cmp_Or_int.l0 k 0 l0 (l0.length : Int) 0
theorem cmp_Or_int.mono_l : ∀ k, (∀ y0 y1 y2 y3, LeO (cmp_Or_int.l0 k y0 y1 y2 y3) (cmp_Or_int.l0 (k + 1) y0 y1 y2 y3))
  | 0 => fun _ _ _ _ r h => by simp [cmp_Or_int.l0] at h
  | k + 1 => by
    have ih0 := cmp_Or_int.mono_l k
    · intro y0 y1 y2 y3
      unfold cmp_Or_int.l0
      repeat' first
      | (with_reducible exact ih0 _ _ _ _)
      | (with_reducible exact LeO.refl _)
      | (with_reducible exact LeO.none _)
      | (with_reducible refine LeO.ite ?_ ?_)
      | (with_reducible refine LeO.bind ?_ (fun _ => ?_))
      | exact ih0 _ _ _ _
      | exact LeO.none _
      | refine LeO.ite ?_ ?_
      | refine LeO.bind ?_ (fun _ => ?_)
theorem cmp_Or_int.mono : ∀ a0 k, LeO (cmp_Or_int.f k a0) (cmp_Or_int.f (k + 1) a0) := by
  intro a0 k
  have ih0 := cmp_Or_int.mono_l k
  unfold cmp_Or_int.f
  repeat' first
      | (with_reducible exact ih0 _ _ _ _)
      | (with_reducible exact LeO.refl _)
      | (with_reducible exact LeO.none _)
      | (with_reducible refine LeO.ite ?_ ?_)
      | (with_reducible refine LeO.bind ?_ (fun _ => ?_))
      | exact ih0 _ _ _ _
      | exact LeO.none _
      | refine LeO.ite ?_ ?_
      | refine LeO.bind ?_ (fun _ => ?_)
set_option maxHeartbeats 8000000 in
set_option maxRecDepth 100000 in
theorem cmp_Or_int.calls (k : Nat) (A0 : Option Addr) (c0 : Nat) (l0 : List Int) (r : Int) (w : World) (hr0 : Kd.C (Kd.int .i64) w A0 l0.length l0) (hc0 : l0.length ≤ c0) (h : cmp_Or_int.f k l0 = some r) :
    Calls Try.prog 51 #[.slice A0 l0.length c0] w fun e w' => e = .returned (.int .i64 r) ∧ Drawn0 w w' := by
  have HR0 := Aside0.mk hr0
  have HC0 := Aside0.mk hc0
  clear hr0 hc0
  have H : (cmp_Or_int.l0 k 0 l0 (l0.length : Int) 0) = some r := h
  clear h
  have H' := Aside0.mk H
  clear H
  go_enter Try.func51, Try.ntmps51
  go_wp2
  go_loopg [8] k (fun kq v8 w' => ∃ (x8_1 : Int), v8 = .int .i64 x8_1 ∧ Aside0 (cmp_Or_int.l0 kq 0 l0 (l0.length : Int) x8_1 = some r) ∧ Aside0 (kq ≤ k) ∧ Drawn0 w w')
  case atStart => exact ⟨(0), (by first | rfl | (simp; done) | (simp [*]; done)), H', ⟨Nat.le_refl _⟩, by repeat (first | exact Drawn0.refl _ | apply Drawn0.step)⟩
  case round =>
    clear H'
    obtain ⟨x8_1, rfl, HA, HK1, ⟨m1, rfl⟩⟩ := hrel
    cases gk with
    | zero => exact absurd HA.out (by simp [cmp_Or_int.l0])
    | succ k1 =>
      have H := HA.out
      clear HA
      simp only [cmp_Or_int.l0] at H
      by_cases c2 : x8_1 < (l0.length : Int)
      · rw [if_pos c2] at H
        have c2b0 : decide (x8_1 < (l0.length : Int)) = true := decide_eq_true c2
        clear c2
        by_cases c3 : 0 ≤ x8_1
        · rw [if_pos c3] at H
          have c3b0 : decide (0 ≤ x8_1) = true := decide_eq_true c3
          clear c3
          by_cases c4 : x8_1 < (l0.length : Int)
          · rw [if_pos c4] at H
            have c4b0 : decide (x8_1 < (l0.length : Int)) = true := decide_eq_true c4
            clear c4
            by_cases c5 : (rd l0 x8_1) = 0
            · rw [if_pos c5] at H
              have c5b0 : ((rd l0 x8_1) == 0) = true := beq_iff_eq.mpr c5
              have c5b1 : ((rd l0 x8_1) != 0) = false := bne_eq_false_iff_eq.mpr c5
              clear c5
              obtain ⟨z189, E60, H⟩ := oc H
              have E6w : (IntKind.i64.wrap (x8_1 + 1)) = z189 := (i64_w _).trans E60
              have H' := Aside0.mk H
              clear H
              have p188 : 0 ≤ (x8_1 : Int) := of_decide_eq_true (by first | (with_reducible assumption) | assumption)
              have q188 : x8_1 < (l0.length : Int) := of_decide_eq_true (by first | (with_reducible assumption) | assumption)
              obtain ⟨ad188, e188, hx188_0⟩ := Kd.at_int HR0.out x8_1 p188 q188
              cases e188
              replace p188 := eq_true p188
              replace q188 := eq_true q188
              go_wp2
              go_roundg k1
              case measure => have := HK1.out; omega
              case rel => exact ⟨(z189), (by first | rfl | (simp; done) | (simp [*]; done)), H', ⟨by have := HK1.out; omega⟩, by repeat (first | exact Drawn0.refl _ | apply Drawn0.step)⟩
            · rw [if_neg c5] at H
              have c5b0 : ((rd l0 x8_1) == 0) = false := beq_eq_false_iff_ne.mpr c5
              have c5b1 : ((rd l0 x8_1) != 0) = true := bne_iff_ne.mpr c5
              obtain rfl := Option.some.inj H
              have p188 : 0 ≤ (x8_1 : Int) := of_decide_eq_true (by first | (with_reducible assumption) | assumption)
              have q188 : x8_1 < (l0.length : Int) := of_decide_eq_true (by first | (with_reducible assumption) | assumption)
              obtain ⟨ad188, e188, hx188_0⟩ := Kd.at_int HR0.out x8_1 p188 q188
              cases e188
              replace p188 := eq_true p188
              replace q188 := eq_true q188
              go_wp2
              go_ret
              exact ⟨by first | rfl | (simp; done) | (simp [*]; done), by repeat (first | exact Drawn0.refl _ | apply Drawn0.step)⟩
          · rw [if_neg c4] at H
            exact absurd H (by simp)
        · rw [if_neg c3] at H
          exact absurd H (by simp)
      · rw [if_neg c2] at H
        have c2b0 : decide (x8_1 < (l0.length : Int)) = false := decide_eq_false c2
        clear c2
        obtain rfl := Option.some.inj H
        go_wp2
        go_ret
        exact ⟨by first | rfl | (simp; done) | (simp [*]; done), by repeat (first | exact Drawn0.refl _ | apply Drawn0.step)⟩
end
section
/-! ### cmp_isNaN_int64: function 79 -/
def cmp_isNaN_int64.f (a0 : Int) : Option (Bool) := some (a0 != a0)
set_option maxHeartbeats 8000000 in
set_option maxRecDepth 100000 in
theorem cmp_isNaN_int64.calls (a0 : Int) (r : Bool) (w : World) (h : cmp_isNaN_int64.f a0 = some r) :
    Calls Try.prog 79 #[.int .i64 a0] w fun e w' => e = .returned (.bool r) ∧ Drawn0 w w' := by
  have H : (some (a0 != a0)) = some r := h
  clear h
  obtain rfl := Option.some.inj H
  go_enter Try.func79, Try.ntmps79
  go_wp2
  go_ret
  exact ⟨by first | rfl | (simp; done) | (simp [*]; done), by repeat (first | exact Drawn0.refl _ | apply Drawn0.step)⟩
end
section
/-! ### cmp_Compare_int64: function 54 -/
def cmp_Compare_int64.f (a0 : Int) (a1 : Int) : Option (Int) := (cmp_isNaN_int64.f a0).bind fun t190 => ((cmp_isNaN_int64.f a1).bind fun t191 => (if t190 = true then (if t191 = true then (some 0) else (some (-1))) else (if t191 = true then (some 1) else (if a0 < a1 then (some (-1)) else (if a0 > a1 then (some 1) else (some 0))))))
set_option maxHeartbeats 8000000 in
set_option maxRecDepth 100000 in
theorem cmp_Compare_int64.calls (a0 : Int) (a1 : Int) (r : Int) (w : World) (h : cmp_Compare_int64.f a0 a1 = some r) :
    Calls Try.prog 54 #[.int .i64 a0, .int .i64 a1] w fun e w' => e = .returned (.int .i64 r) ∧ Drawn0 w w' := by
  have H : ((cmp_isNaN_int64.f a0).bind fun t190 => ((cmp_isNaN_int64.f a1).bind fun t191 => (if t190 = true then (if t191 = true then (some 0) else (some (-1))) else (if t191 = true then (some 1) else (if a0 < a1 then (some (-1)) else (if a0 > a1 then (some 1) else (some 0))))))) = some r := h
  clear h
  obtain ⟨t190, A3, H⟩ := ob H
  obtain ⟨t191, A4, H⟩ := ob H
  by_cases c5 : t190 = true
  · subst c5
    have H1 : (if t191 = true then (some 0) else (some (-1))) = some r := by rw [if_pos rfl] at H; exact H
    clear H
    have H := H1
    clear H1
    by_cases c6 : t191 = true
    · subst c6
      have H1 : (some 0) = some r := by rw [if_pos rfl] at H; exact H
      clear H
      have H := H1
      clear H1
      obtain rfl := Option.some.inj H
      go_enter Try.func54, Try.ntmps54
      go_wp2_with (first | ((with_reducible refine gate_callee (f := 79) rfl ?_); refine goesL_ (some 8) rfl rfl Try.func79 (by kernel_rfl) rfl #[.int .i64 a0] rfl am ?_; (with_reducible refine (cmp_isNaN_int64.calls a0 true _ A3.out).mono ?_); rintro e w' ⟨rfl, ⟨nd, rfl⟩⟩; refine ⟨_, rfl, ?_⟩) | ((with_reducible refine gate_callee (f := 79) rfl ?_); refine goesL_ (some 10) rfl rfl Try.func79 (by kernel_rfl) rfl #[.int .i64 a1] rfl am ?_; (with_reducible refine (cmp_isNaN_int64.calls a1 true _ A4.out).mono ?_); rintro e w' ⟨rfl, ⟨nd, rfl⟩⟩; refine ⟨_, rfl, ?_⟩))
      go_ret
      exact ⟨by first | rfl | (simp; done) | (simp [*]; done), by repeat (first | exact Drawn0.refl _ | apply Drawn0.step)⟩
    · replace c6 := Bool.eq_false_iff.mpr c6
      subst c6
      have H1 : (some (-1)) = some r := by rw [if_neg (show ¬ (false = true) by decide)] at H; exact H
      clear H
      have H := H1
      clear H1
      obtain rfl := Option.some.inj H
      go_enter Try.func54, Try.ntmps54
      go_wp2_with (first | ((with_reducible refine gate_callee (f := 79) rfl ?_); refine goesL_ (some 8) rfl rfl Try.func79 (by kernel_rfl) rfl #[.int .i64 a0] rfl am ?_; (with_reducible refine (cmp_isNaN_int64.calls a0 true _ A3.out).mono ?_); rintro e w' ⟨rfl, ⟨nd, rfl⟩⟩; refine ⟨_, rfl, ?_⟩) | ((with_reducible refine gate_callee (f := 79) rfl ?_); refine goesL_ (some 10) rfl rfl Try.func79 (by kernel_rfl) rfl #[.int .i64 a1] rfl am ?_; (with_reducible refine (cmp_isNaN_int64.calls a1 false _ A4.out).mono ?_); rintro e w' ⟨rfl, ⟨nd, rfl⟩⟩; refine ⟨_, rfl, ?_⟩))
      go_ret
      exact ⟨by first | rfl | (simp; done) | (simp [*]; done), by repeat (first | exact Drawn0.refl _ | apply Drawn0.step)⟩
  · replace c5 := Bool.eq_false_iff.mpr c5
    subst c5
    have H1 : (if t191 = true then (some 1) else (if a0 < a1 then (some (-1)) else (if a0 > a1 then (some 1) else (some 0)))) = some r := by rw [if_neg (show ¬ (false = true) by decide)] at H; exact H
    clear H
    have H := H1
    clear H1
    by_cases c7 : t191 = true
    · subst c7
      have H1 : (some 1) = some r := by rw [if_pos rfl] at H; exact H
      clear H
      have H := H1
      clear H1
      obtain rfl := Option.some.inj H
      go_enter Try.func54, Try.ntmps54
      go_wp2_with (first | ((with_reducible refine gate_callee (f := 79) rfl ?_); refine goesL_ (some 8) rfl rfl Try.func79 (by kernel_rfl) rfl #[.int .i64 a0] rfl am ?_; (with_reducible refine (cmp_isNaN_int64.calls a0 false _ A3.out).mono ?_); rintro e w' ⟨rfl, ⟨nd, rfl⟩⟩; refine ⟨_, rfl, ?_⟩) | ((with_reducible refine gate_callee (f := 79) rfl ?_); refine goesL_ (some 10) rfl rfl Try.func79 (by kernel_rfl) rfl #[.int .i64 a1] rfl am ?_; (with_reducible refine (cmp_isNaN_int64.calls a1 true _ A4.out).mono ?_); rintro e w' ⟨rfl, ⟨nd, rfl⟩⟩; refine ⟨_, rfl, ?_⟩))
      go_ret
      exact ⟨by first | rfl | (simp; done) | (simp [*]; done), by repeat (first | exact Drawn0.refl _ | apply Drawn0.step)⟩
    · replace c7 := Bool.eq_false_iff.mpr c7
      subst c7
      have H1 : (if a0 < a1 then (some (-1)) else (if a0 > a1 then (some 1) else (some 0))) = some r := by rw [if_neg (show ¬ (false = true) by decide)] at H; exact H
      clear H
      have H := H1
      clear H1
      by_cases c8 : a0 < a1
      · rw [if_pos c8] at H
        have c8b0 : decide (a0 < a1) = true := decide_eq_true c8
        clear c8
        obtain rfl := Option.some.inj H
        go_enter Try.func54, Try.ntmps54
        go_wp2_with (first | ((with_reducible refine gate_callee (f := 79) rfl ?_); refine goesL_ (some 8) rfl rfl Try.func79 (by kernel_rfl) rfl #[.int .i64 a0] rfl am ?_; (with_reducible refine (cmp_isNaN_int64.calls a0 false _ A3.out).mono ?_); rintro e w' ⟨rfl, ⟨nd, rfl⟩⟩; refine ⟨_, rfl, ?_⟩) | ((with_reducible refine gate_callee (f := 79) rfl ?_); refine goesL_ (some 10) rfl rfl Try.func79 (by kernel_rfl) rfl #[.int .i64 a1] rfl am ?_; (with_reducible refine (cmp_isNaN_int64.calls a1 false _ A4.out).mono ?_); rintro e w' ⟨rfl, ⟨nd, rfl⟩⟩; refine ⟨_, rfl, ?_⟩))
        go_ret
        exact ⟨by first | rfl | (simp; done) | (simp [*]; done), by repeat (first | exact Drawn0.refl _ | apply Drawn0.step)⟩
      · rw [if_neg c8] at H
        have c8b0 : decide (a0 < a1) = false := decide_eq_false c8
        clear c8
        by_cases c9 : a0 > a1
        · rw [if_pos c9] at H
          have c9b0 : decide (a1 < a0) = true := decide_eq_true c9
          clear c9
          obtain rfl := Option.some.inj H
          go_enter Try.func54, Try.ntmps54
          go_wp2_with (first | ((with_reducible refine gate_callee (f := 79) rfl ?_); refine goesL_ (some 8) rfl rfl Try.func79 (by kernel_rfl) rfl #[.int .i64 a0] rfl am ?_; (with_reducible refine (cmp_isNaN_int64.calls a0 false _ A3.out).mono ?_); rintro e w' ⟨rfl, ⟨nd, rfl⟩⟩; refine ⟨_, rfl, ?_⟩) | ((with_reducible refine gate_callee (f := 79) rfl ?_); refine goesL_ (some 10) rfl rfl Try.func79 (by kernel_rfl) rfl #[.int .i64 a1] rfl am ?_; (with_reducible refine (cmp_isNaN_int64.calls a1 false _ A4.out).mono ?_); rintro e w' ⟨rfl, ⟨nd, rfl⟩⟩; refine ⟨_, rfl, ?_⟩))
          go_ret
          exact ⟨by first | rfl | (simp; done) | (simp [*]; done), by repeat (first | exact Drawn0.refl _ | apply Drawn0.step)⟩
        · rw [if_neg c9] at H
          have c9b0 : decide (a1 < a0) = false := decide_eq_false c9
          clear c9
          obtain rfl := Option.some.inj H
          go_enter Try.func54, Try.ntmps54
          go_wp2_with (first | ((with_reducible refine gate_callee (f := 79) rfl ?_); refine goesL_ (some 8) rfl rfl Try.func79 (by kernel_rfl) rfl #[.int .i64 a0] rfl am ?_; (with_reducible refine (cmp_isNaN_int64.calls a0 false _ A3.out).mono ?_); rintro e w' ⟨rfl, ⟨nd, rfl⟩⟩; refine ⟨_, rfl, ?_⟩) | ((with_reducible refine gate_callee (f := 79) rfl ?_); refine goesL_ (some 10) rfl rfl Try.func79 (by kernel_rfl) rfl #[.int .i64 a1] rfl am ?_; (with_reducible refine (cmp_isNaN_int64.calls a1 false _ A4.out).mono ?_); rintro e w' ⟨rfl, ⟨nd, rfl⟩⟩; refine ⟨_, rfl, ?_⟩))
          go_ret
          exact ⟨by first | rfl | (simp; done) | (simp [*]; done), by repeat (first | exact Drawn0.refl _ | apply Drawn0.step)⟩
end
section
/-! ### grids_order: function 42 -/
def grids_order.f (k : Nat) (a0_0 : Int) (a0_1 : Int) (a0_2 : Int) (a0_3 : Int) (a1_0 : Int) (a1_1 : Int) (a1_2 : Int) (a1_3 : Int) : Option (Int) := (cmp_Compare_int64.f a0_0 a1_0).bind fun t194 => ((cmp_Compare_int64.f a0_1 a1_1).bind fun t195 => ((cmp_Compare_int64.f a0_2 a1_2).bind fun t196 => ((cmp_Compare_int64.f a0_3 a1_3).bind fun t197 => ((cmp_Or_int.f k (([t194, t195, t196, t197] : List Int))).bind fun t201 => (some t201)))))
theorem grids_order.mono : ∀ a0 a1 a2 a3 a4 a5 a6 a7 k, LeO (grids_order.f k a0 a1 a2 a3 a4 a5 a6 a7) (grids_order.f (k + 1) a0 a1 a2 a3 a4 a5 a6 a7) := by
  intro a0 a1 a2 a3 a4 a5 a6 a7 k
  unfold grids_order.f
  repeat' first
      | (with_reducible exact cmp_Or_int.mono _ _)
      | (with_reducible exact LeO.refl _)
      | (with_reducible exact LeO.none _)
      | (with_reducible refine LeO.ite ?_ ?_)
      | (with_reducible refine LeO.bind ?_ (fun _ => ?_))
      | exact cmp_Or_int.mono _ _
      | exact LeO.none _
      | refine LeO.ite ?_ ?_
      | refine LeO.bind ?_ (fun _ => ?_)
def grids_order.T1 : Bool × List (List Nat × List Nat) := (true, [([], []), ([0], [0]), ([], []), ([2], [2]), ([1, 3], [1, 3]), ([], []), ([5], [5]), ([], []), ([7], [7]), ([6, 8, 4], [6, 8]), ([], []), ([10], [10]), ([], []), ([12], [12]), ([11, 13, 9], [11, 13]), ([], []), ([15], [15]), ([], []), ([17], [17]), ([16, 18, 14], [16, 18]), ([4, 9, 14, 19], [4, 9, 14, 19]), ([20, 19], [20]), ([21, 21, 0, 1, 2, 3, 4, 5, 6, 7, 8, 9, 10, 11, 12, 13, 14, 15, 16, 17, 18, 19, 20, 21], [21])])
def grids_order.B1 : List Nat := [0, 1, 0, 4, 15, 0, 32, 0, 128, 511, 0, 1024, 0, 4096, 16383, 0, 32768, 0, 131072, 524287, 1048575, 2097151, 4194303]
theorem grids_order.tab1 : rtab .any (opsOf Try.f42 1) = grids_order.T1 := by kernel_rfl
theorem grids_order.bits1 : waitsOk grids_order.T1.2 grids_order.B1 = true := by kernel_rfl
set_option maxHeartbeats 8000000 in
set_option maxRecDepth 100000 in
theorem grids_order.calls (k : Nat) (a0_0 : Int) (a0_1 : Int) (a0_2 : Int) (a0_3 : Int) (a1_0 : Int) (a1_1 : Int) (a1_2 : Int) (a1_3 : Int) (r : Int) (w : World) (h : grids_order.f k a0_0 a0_1 a0_2 a0_3 a1_0 a1_1 a1_2 a1_3 = some r) :
    Calls Try.prog 42 #[.agg #[.int .i64 a0_0, .int .i64 a0_1, .int .i64 a0_2, .int .i64 a0_3], .agg #[.int .i64 a1_0, .int .i64 a1_1, .int .i64 a1_2, .int .i64 a1_3]] w fun e w' => e = .returned (.int .i64 r) ∧ Below w.heap.size w w' := by
  have hu25 := Try.underlying25
  have HB := Aside0.mk (Below.refl w.heap.size w)
  have H : ((cmp_Compare_int64.f a0_0 a1_0).bind fun t194 => ((cmp_Compare_int64.f a0_1 a1_1).bind fun t195 => ((cmp_Compare_int64.f a0_2 a1_2).bind fun t196 => ((cmp_Compare_int64.f a0_3 a1_3).bind fun t197 => ((cmp_Or_int.f k (([t194, t195, t196, t197] : List Int))).bind fun t201 => (some t201)))))) = some r := h
  clear h
  obtain ⟨t194, A3, H⟩ := ob H
  obtain ⟨t195, A4, H⟩ := ob H
  obtain ⟨t196, A5, H⟩ := ob H
  obtain ⟨t197, A6, H⟩ := ob H
  obtain ⟨y198, hy198⟩ : ∃ y_ : List Int, y_ = (([t194, t195, t196, t197] : List Int)) := ⟨_, rfl⟩
  replace H : ((cmp_Or_int.f k y198).bind fun t201 => (some t201)) = some r := by first | (rw [hy198]; with_reducible exact H) | (have H2_ := (Option.bind_some _ _).symm.trans H; rw [hy198]; with_reducible exact H2_) | (have H2_ := (Option.bind_some _ _).symm.trans H; with_reducible exact H2_) | with_reducible exact H | (rw [hy198]; exact H) | exact H
  have Ny198 := Aside0.mk hy198
  clear hy198
  obtain ⟨t201, A7, H⟩ := ob H
  obtain rfl := Option.some.inj H
  go_enter Try.func42, Try.ntmps42
  try go_wp2_with (first | ((with_reducible refine gate_dst (N := 2) rfl ?_); refine bx 2 #[.int .i64 a0_0, .int .i64 a0_1, .int .i64 a0_2, .int .i64 a0_3] 25 fun gb192 hg w8 BK192 hb => ?_; have GW192 := gw hg HB; have GE192 := gw hg HB; replace HB := bst HB hb; clear hb hg) | ((with_reducible refine gate_dst (N := 3) rfl ?_); refine bx 3 #[.int .i64 a1_0, .int .i64 a1_1, .int .i64 a1_2, .int .i64 a1_3] 25 fun gb193 hg w9 BK193 hb => ?_; have GW193 := gw hg HB; have GE193 := gw hg HB; have NB192_193 := nlt hg BK192; have NB193_192 := ngt hg BK192; replace BK192 := bb BK192 hb; replace HB := bst HB hb; clear hb hg))
  replace BK192 := bd BK192
  replace BK193 := bd BK193
  replace HB := bdn HB
  refine start_ (n := 23) (S := fun w' => w'.cell? ⟨gb192, 0, none⟩ = some (.int .i64 a0_0) ∧ w'.cell? ⟨gb192, 1, none⟩ = some (.int .i64 a0_1) ∧ w'.cell? ⟨gb192, 2, none⟩ = some (.int .i64 a0_2) ∧ w'.cell? ⟨gb192, 3, none⟩ = some (.int .i64 a0_3) ∧ w'.cell? ⟨gb193, 0, none⟩ = some (.int .i64 a1_0) ∧ w'.cell? ⟨gb193, 1, none⟩ = some (.int .i64 a1_1) ∧ w'.cell? ⟨gb193, 2, none⟩ = some (.int .i64 a1_2) ∧ w'.cell? ⟨gb193, 3, none⟩ = some (.int .i64 a1_3)) (ds := []) #[false, false, false, false, false, false, false, false, false, false, false, false, false, false, false, false, false, false, false, false, false, false, false] (by kernel_rfl) rfl rfl ⟨(blk_cell BK192.out 0).trans rfl, (blk_cell BK192.out 1).trans rfl, (blk_cell BK192.out 2).trans rfl, (blk_cell BK192.out 3).trans rfl, (blk_cell BK193.out 0).trans rfl, (blk_cell BK193.out 1).trans rfl, (blk_cell BK193.out 2).trans rfl, (blk_cell BK193.out 3).trans rfl⟩ (fun hHeld => ?_); refine with_tabW grids_order.tab1 grids_order.bits1 (fun HT_ HW_ => ?_)
  generalize w9.drew = w10 at BK192 BK193 HB hHeld ⊢
  refine pz 0 5 HT_ ?_
  refine pz 2 7 HT_ ?_
  refine pz 5 10 HT_ ?_
  refine pz 7 12 HT_ ?_
  refine pz 10 15 HT_ ?_
  refine pz 12 17 HT_ ?_
  refine pz 15 20 HT_ ?_
  refine pz 17 22 HT_ ?_
  refine tz 1 6 HT_ HW_ hHeld ?_
  refine tz 3 8 HT_ HW_ hHeld ?_
  refine tz 6 11 HT_ HW_ hHeld ?_
  refine tz 8 13 HT_ HW_ hHeld ?_
  refine tz 11 16 HT_ HW_ hHeld ?_
  refine tz 13 18 HT_ HW_ hHeld ?_
  refine tz 16 21 HT_ HW_ hHeld ?_
  refine tz 18 23 HT_ HW_ hHeld ?_
  refine one_ (i := 4) (N := some 9) #[true, true, true, true, true, true, true, true, true, false, true, true, true, true, false, true, true, true, true, false, false, false, false] rfl rfl (one_of HT_.out (by kernel_rfl)) (by decide) (fun K hK => ?_)
  refine gs _ Try.func54 (cmp_Compare_int64.calls a0_0 a1_0 t194 _ A3.out) ?_
  rintro e w' ⟨rfl, ⟨nd, rfl⟩⟩
  refine ⟨_, rfl, ?_⟩
  refine hK.out _ _ ⟨(blk_cell BK192.out 0).trans rfl, (blk_cell BK192.out 1).trans rfl, (blk_cell BK192.out 2).trans rfl, (blk_cell BK192.out 3).trans rfl, (blk_cell BK193.out 0).trans rfl, (blk_cell BK193.out 1).trans rfl, (blk_cell BK193.out 2).trans rfl, (blk_cell BK193.out 3).trans rfl⟩ (fun hHeld => ?_)
  clear hK K
  refine norm_ (a' := ?_) ?_ ?_
  rotate_left
  · show Act.put _ (some 9) _ = _
    simp only [Act.put, List.setIfInBounds_toArray, List.set_cons_zero, List.set_cons_succ, i64_w, i32_w]
    rfl
  refine one_ (i := 9) (N := some 14) #[true, true, true, true, true, true, true, true, true, true, true, true, true, true, false, true, true, true, true, false, false, false, false] rfl rfl (one_of HT_.out (by kernel_rfl)) (by decide) (fun K hK => ?_)
  refine gs _ Try.func54 (cmp_Compare_int64.calls a0_1 a1_1 t195 _ A4.out) ?_
  rintro e w' ⟨rfl, ⟨nd, rfl⟩⟩
  refine ⟨_, rfl, ?_⟩
  refine hK.out _ _ ⟨(blk_cell BK192.out 0).trans rfl, (blk_cell BK192.out 1).trans rfl, (blk_cell BK192.out 2).trans rfl, (blk_cell BK192.out 3).trans rfl, (blk_cell BK193.out 0).trans rfl, (blk_cell BK193.out 1).trans rfl, (blk_cell BK193.out 2).trans rfl, (blk_cell BK193.out 3).trans rfl⟩ (fun hHeld => ?_)
  clear hK K
  refine norm_ (a' := ?_) ?_ ?_
  rotate_left
  · show Act.put _ (some 14) _ = _
    simp only [Act.put, List.setIfInBounds_toArray, List.set_cons_zero, List.set_cons_succ, i64_w, i32_w]
    rfl
  refine one_ (i := 14) (N := some 19) #[true, true, true, true, true, true, true, true, true, true, true, true, true, true, true, true, true, true, true, false, false, false, false] rfl rfl (one_of HT_.out (by kernel_rfl)) (by decide) (fun K hK => ?_)
  refine gs _ Try.func54 (cmp_Compare_int64.calls a0_2 a1_2 t196 _ A5.out) ?_
  rintro e w' ⟨rfl, ⟨nd, rfl⟩⟩
  refine ⟨_, rfl, ?_⟩
  refine hK.out _ _ ⟨(blk_cell BK192.out 0).trans rfl, (blk_cell BK192.out 1).trans rfl, (blk_cell BK192.out 2).trans rfl, (blk_cell BK192.out 3).trans rfl, (blk_cell BK193.out 0).trans rfl, (blk_cell BK193.out 1).trans rfl, (blk_cell BK193.out 2).trans rfl, (blk_cell BK193.out 3).trans rfl⟩ (fun hHeld => ?_)
  clear hK K
  refine norm_ (a' := ?_) ?_ ?_
  rotate_left
  · show Act.put _ (some 19) _ = _
    simp only [Act.put, List.setIfInBounds_toArray, List.set_cons_zero, List.set_cons_succ, i64_w, i32_w]
    rfl
  refine one_ (i := 19) (N := some 24) #[true, true, true, true, true, true, true, true, true, true, true, true, true, true, true, true, true, true, true, true, false, false, false] rfl rfl (one_of HT_.out (by kernel_rfl)) (by decide) (fun K hK => ?_)
  refine gs _ Try.func54 (cmp_Compare_int64.calls a0_3 a1_3 t197 _ A6.out) ?_
  rintro e w' ⟨rfl, ⟨nd, rfl⟩⟩
  refine ⟨_, rfl, ?_⟩
  refine hK.out _ _ ⟨(blk_cell BK192.out 0).trans rfl, (blk_cell BK192.out 1).trans rfl, (blk_cell BK192.out 2).trans rfl, (blk_cell BK192.out 3).trans rfl, (blk_cell BK193.out 0).trans rfl, (blk_cell BK193.out 1).trans rfl, (blk_cell BK193.out 2).trans rfl, (blk_cell BK193.out 3).trans rfl⟩ (fun hHeld => ?_)
  clear hK K
  refine norm_ (a' := ?_) ?_ ?_
  rotate_left
  · show Act.put _ (some 24) _ = _
    simp only [Act.put, List.setIfInBounds_toArray, List.set_cons_zero, List.set_cons_succ, i64_w, i32_w]
    rfl
  refine one_ (i := 20) (N := some 25) #[true, true, true, true, true, true, true, true, true, true, true, true, true, true, true, true, true, true, true, true, true, false, false] rfl rfl (one_of HT_.out (by kernel_rfl)) (by decide) (fun K hK => ?_)
  refine Kd.R_lit_step (Kd.int .i64) _ 3 ?hg (N := 25) ?hd (xs := ([t194, t195, t196, t197] : List Int)) (inner := [.int .i64 t194, .int .i64 t195, .int .i64 t196, .int .i64 t197]) (ok := fun _ => True) (okp := fun _ => True) ?hr ?hp (fun _ hk => hk) trivial (Below.refl _ _) (Nat.le_refl _) (by simp) ?_; (case hd => rfl); (case hg => rfl); (case hr => first | (go_simp; done) | (go_simp; rfl)); (case hp => exact (Reps.one (show Kd.M (Kd.int .i64) _ _ _ t194 [.int .i64 t194] from rfl) (Reps.one (show Kd.M (Kd.int .i64) _ _ _ t195 [.int .i64 t195] from rfl) (Reps.one (show Kd.M (Kd.int .i64) _ _ _ t196 [.int .i64 t196] from rfl) (Reps.one (show Kd.M (Kd.int .i64) _ _ _ t197 [.int .i64 t197] from rfl) (Reps.none _ _))))))
  intro v199 w11 ho12 hb hg_ hnew_
  clear hg_ hnew_
  (first | rw [← Ny198.out] at ho12 | (simp only [Int.reduceToNat] at ho12; rw [← Ny198.out] at ho12))
  have HO200 := Aside0.mk (Kd.R_lower ho12 (below_size (bnow HB)))
  replace BK192 := bb BK192 hb
  replace BK193 := bb BK193 hb
  replace HB := bst HB hb
  clear hb ho12
  obtain ⟨Ao13, co13, eo13⟩ := Kd.R_slice HO200.out
  (first | subst eo13 | (injection eo13 with f1_ f2_ f3_; have f4_ := f1_.symm; have f5_ := f3_.symm; clear f1_ f2_ f3_; subst f4_; subst f5_))
  refine hK.out _ _ ⟨(blk_cell BK192.out 0).trans rfl, (blk_cell BK192.out 1).trans rfl, (blk_cell BK192.out 2).trans rfl, (blk_cell BK192.out 3).trans rfl, (blk_cell BK193.out 0).trans rfl, (blk_cell BK193.out 1).trans rfl, (blk_cell BK193.out 2).trans rfl, (blk_cell BK193.out 3).trans rfl⟩ (fun hHeld => ?_)
  clear hK K
  refine norm_ (a' := ?_) ?_ ?_
  rotate_left
  · show Act.put _ (some 25) _ = _
    simp only [Act.put, List.setIfInBounds_toArray, List.set_cons_zero, List.set_cons_succ, i64_w, i32_w]
    rfl
  refine one_ (i := 21) (N := some 26) #[true, true, true, true, true, true, true, true, true, true, true, true, true, true, true, true, true, true, true, true, true, true, false] rfl rfl (one_of HT_.out (by kernel_rfl)) (by decide) (fun K hK => ?_)
  refine gs _ Try.func51 (cmp_Or_int.calls k _ _ y198 t201 _ ?side1 ?side2 A7.out) ?_
  (case side1 => repeat (first | exact (Kd.R_reads' HO200.out).2.2 | (with_reducible refine Kd.C_alloc ?_ _) | (with_reducible refine Kd.C_drewN ?_ _) | (with_reducible refine Kd.C_drew ?_)))
  (case side2 => exact (Kd.R_reads' HO200.out).2.1)
  rintro e w' ⟨rfl, ⟨nd, rfl⟩⟩
  refine ⟨_, rfl, ?_⟩
  refine hK.out _ _ ⟨(blk_cell BK192.out 0).trans rfl, (blk_cell BK192.out 1).trans rfl, (blk_cell BK192.out 2).trans rfl, (blk_cell BK192.out 3).trans rfl, (blk_cell BK193.out 0).trans rfl, (blk_cell BK193.out 1).trans rfl, (blk_cell BK193.out 2).trans rfl, (blk_cell BK193.out 3).trans rfl⟩ (fun hHeld => ?_)
  clear hK K
  refine norm_ (a' := ?_) ?_ ?_
  rotate_left
  · show Act.put _ (some 26) _ = _
    simp only [Act.put, List.setIfInBounds_toArray, List.set_cons_zero, List.set_cons_succ, i64_w, i32_w]
    rfl
  refine pz 22 4 HT_ ?_
  refine done_ (done_of HT_.out (by kernel_rfl)) ?_
  try go_wp2
  go_ret
  exact rt HB
end
section
/-! ### api_GrMatrix_41: function 41 -/
def api_GrMatrix_41.l0 : Nat → List (S25) → Int → Int → Int → Int → Int → Option (Int × Int × Int × Int)
  | 0, _, _, _, _, _, _ => none
  | k + 1, x0, x6, x205000, x205001, x205002, x205003 => if x6 < (x0.length : Int) then (if 0 ≤ x6 then ((grids_order.f k ((rd_T25 x0 x6).f0) ((rd_T25 x0 x6).f1) ((rd_T25 x0 x6).f2) ((rd_T25 x0 x6).f3) x205000 x205001 x205002 x205003).bind fun t206 => (if t206 < 0 then ((some (wrap64 (x6 + 1))).bind fun z208 => (api_GrMatrix_41.l0 k x0 z208 ((rd_T25 x0 x6).f0) ((rd_T25 x0 x6).f1) ((rd_T25 x0 x6).f2) ((rd_T25 x0 x6).f3))) else ((some (wrap64 (x6 + 1))).bind fun z209 => (api_GrMatrix_41.l0 k x0 z209 x205000 x205001 x205002 x205003)))) else (none)) else (some (x205000, x205001, x205002, x205003))
def api_GrMatrix_41.f (k : Nat) (l0 : List (S25))  : Option (Int × Int × Int × Int) := if (l0.length : Int) < 1 then (none) else (if 0 < (l0.length : Int) then (api_GrMatrix_41.l0 k l0 1 ((rd_T25 l0 0).f0) ((rd_T25 l0 0).f1) ((rd_T25 l0 0).f2) ((rd_T25 l0 0).f3)) else (none))
theorem api_GrMatrix_41.mono_l : ∀ k, (∀ y0 y1 y2 y3 y4 y5, LeO (api_GrMatrix_41.l0 k y0 y1 y2 y3 y4 y5) (api_GrMatrix_41.l0 (k + 1) y0 y1 y2 y3 y4 y5))
  | 0 => fun _ _ _ _ _ _ r h => by simp [api_GrMatrix_41.l0] at h
  | k + 1 => by
    have ih0 := api_GrMatrix_41.mono_l k
    · intro y0 y1 y2 y3 y4 y5
      unfold api_GrMatrix_41.l0
      repeat' first
      | (with_reducible exact ih0 _ _ _ _ _ _)
      | (with_reducible exact grids_order.mono _ _ _ _ _ _ _ _ _)
      | (with_reducible exact LeO.refl _)
      | (with_reducible exact LeO.none _)
      | (with_reducible refine LeO.ite ?_ ?_)
      | (with_reducible refine LeO.bind ?_ (fun _ => ?_))
      | exact ih0 _ _ _ _ _ _
      | exact grids_order.mono _ _ _ _ _ _ _ _ _
      | exact LeO.none _
      | refine LeO.ite ?_ ?_
      | refine LeO.bind ?_ (fun _ => ?_)
theorem api_GrMatrix_41.mono : ∀ a0 k, LeO (api_GrMatrix_41.f k a0) (api_GrMatrix_41.f (k + 1) a0) := by
  intro a0 k
  have ih0 := api_GrMatrix_41.mono_l k
  unfold api_GrMatrix_41.f
  repeat' first
      | (with_reducible exact ih0 _ _ _ _ _ _)
      | (with_reducible exact grids_order.mono _ _ _ _ _ _ _ _ _)
      | (with_reducible exact LeO.refl _)
      | (with_reducible exact LeO.none _)
      | (with_reducible refine LeO.ite ?_ ?_)
      | (with_reducible refine LeO.bind ?_ (fun _ => ?_))
      | exact ih0 _ _ _ _ _ _
      | exact grids_order.mono _ _ _ _ _ _ _ _ _
      | exact LeO.none _
      | refine LeO.ite ?_ ?_
      | refine LeO.bind ?_ (fun _ => ?_)
def api_GrMatrix_41.T7 : Bool × List (List Nat × List Nat) := (true, [([], []), ([], []), ([], []), ([1, 2], [1, 2]), ([3], [3]), ([], []), ([0, 4, 5], [0, 4, 5]), ([6], [6])])
def api_GrMatrix_41.B7 : List Nat := [0, 0, 0, 6, 14, 0, 63, 127]
theorem api_GrMatrix_41.tab7 : rtab .any (opsOf Try.f41 7) = api_GrMatrix_41.T7 := by kernel_rfl
theorem api_GrMatrix_41.bits7 : waitsOk api_GrMatrix_41.T7.2 api_GrMatrix_41.B7 = true := by kernel_rfl
set_option maxHeartbeats 8000000 in
set_option maxRecDepth 100000 in
theorem api_GrMatrix_41.calls (k : Nat) (A0 : Option Addr) (c0 : Nat) (l0 : List (S25))  (r1 : Int) (r2 : Int) (r3 : Int) (r4 : Int) (w : World) (hr0 : Kd.C k25 w A0 l0.length l0) (hc0 : l0.length ≤ c0) (h : api_GrMatrix_41.f k l0 = some (r1, r2, r3, r4)) :
    Calls Try.prog 41 #[.slice A0 l0.length c0, .func (.func 42) #[] #[]] w fun e w' => e = .returned (.agg #[.int .i64 r1, .int .i64 r2, .int .i64 r3, .int .i64 r4]) ∧ Below w.heap.size w w' := by
  have hu25 := Try.underlying25
  have HR0 := Aside0.mk hr0
  have HC0 := Aside0.mk hc0
  clear hr0 hc0
  have HB := Aside0.mk (Below.refl w.heap.size w)
  have H : (if (l0.length : Int) < 1 then (none) else (if 0 < (l0.length : Int) then (api_GrMatrix_41.l0 k l0 1 ((rd_T25 l0 0).f0) ((rd_T25 l0 0).f1) ((rd_T25 l0 0).f2) ((rd_T25 l0 0).f3)) else (none))) = some (r1, r2, r3, r4) := h
  clear h
  by_cases c3 : (l0.length : Int) < 1
  · rw [if_pos c3] at H
    exact absurd H (by simp)
  · rw [if_neg c3] at H
    have c3b0 : decide ((l0.length : Int) < 1) = false := decide_eq_false c3
    have c3b1 : decide (l0.length < 1) = false := decide_eq_false (by omega)
    clear c3
    by_cases c4 : 0 < (l0.length : Int)
    · rw [if_pos c4] at H
      have c4b0 : decide (0 < (l0.length : Int)) = true := decide_eq_true c4
      have c4b1 : decide (0 < l0.length) = true := decide_eq_true (by omega)
      clear c4
      have H' := Aside0.mk H
      clear H
      go_enter Try.func41, Try.ntmps41
      go_wp2_with (first | ((with_reducible refine gate_dst (N := 4) rfl ?_); refine bx 4 #[.int .i64 0, .int .i64 0, .int .i64 0, .int .i64 0] 25 fun gb202 hg w5 BK202 hb => ?_; have GW202 := gw hg HB; have GE202 := gw hg HB; replace HB := bst HB hb; clear hb hg; have p203 : 0 ≤ (0 : Int) := (by omega); have q203 : 0 < (l0.length : Int) := of_decide_eq_true (by first | (with_reducible assumption) | assumption); obtain ⟨ad203, e203, hx203_0, hx203_1, hx203_2, hx203_3⟩ := at_T25 HR0.out 0 p203 q203; cases e203; have qi203 : (0 < l0.length) = True := eq_true (by omega); (try rw [show ((0 : Int)).toNat = 0 from rfl] at hx203_0); (try rw [show 0 * 4 = 0 from rfl] at hx203_0); (try rw [Addr.add_zero'] at hx203_0); (try rw [show ((0 : Int)).toNat = 0 from rfl] at hx203_1); (try rw [show 0 * 4 = 0 from rfl] at hx203_1); (try rw [Addr.add_zero'] at hx203_1); (try rw [show ((0 : Int)).toNat = 0 from rfl] at hx203_2); (try rw [show 0 * 4 = 0 from rfl] at hx203_2); (try rw [Addr.add_zero'] at hx203_2); (try rw [show ((0 : Int)).toNat = 0 from rfl] at hx203_3); (try rw [show 0 * 4 = 0 from rfl] at hx203_3); (try rw [Addr.add_zero'] at hx203_3); replace hx203_0 := (HB.out.cell (World.block_lt_of_cell? w _ hx203_0)).trans hx203_0; replace hx203_1 := (HB.out.cell (World.block_lt_of_cell? w _ hx203_1)).trans hx203_1; replace hx203_2 := (HB.out.cell (World.block_lt_of_cell? w _ hx203_2)).trans hx203_2; replace hx203_3 := (HB.out.cell (World.block_lt_of_cell? w _ hx203_3)).trans hx203_3; replace p203 := eq_true p203; replace q203 := eq_true q203) | ((with_reducible refine gate_dst (N := 5) rfl ?_); refine bx 5 #[.int .i64 0, .int .i64 0, .int .i64 0, .int .i64 0] 25 fun gb204 hg w6 BK204 hb => ?_; have GW204 := gw hg HB; have GE204 := gw hg HB; have NB202_204 := nlt hg BK202; have NB204_202 := ngt hg BK202; replace BK202 := bb BK202 hb; replace HB := bst HB hb; clear hb hg; have hnb7 := NB204_202.out; have hnc7 := NB202_204.out; have ⟨hcz8_0, hcz8_1, hcz8_2, hcz8_3, hfz8_0, hfz8_1, hfz8_2, hfz8_3⟩ := cf4 BK204) | ((with_reducible refine gate_store (t := 25) (p := 5) rfl ?_); refine sx 25 5 (((((w6.setCell ⟨gb204, 0, none⟩ (.int .i64 ((rd_T25 l0 0).f0))).setCell ⟨gb204, 1, none⟩ (.int .i64 ((rd_T25 l0 0).f1))).setCell ⟨gb204, 2, none⟩ (.int .i64 ((rd_T25 l0 0).f2))).setCell ⟨gb204, 3, none⟩ (.int .i64 ((rd_T25 l0 0).f3)))) fun w9 hw => ?_; replace BK202 := fw hw BK202; replace BK204 := pw4 hw BK204; replace HB := bw hw HB; clear hw))
      (try simp only [Act.put, List.setIfInBounds_toArray, List.set_cons_zero, List.set_cons_succ])
      go_loopg [6] k (fun kq v6 w' => ∃ (x6_1 : Int) (x205000_1 : Int) (x205001_1 : Int) (x205002_1 : Int) (x205003_1 : Int), v6 = .int .i64 x6_1 ∧ Aside0 (api_GrMatrix_41.l0 kq l0 x6_1 x205000_1 x205001_1 x205002_1 x205003_1 = some (r1, r2, r3, r4)) ∧ Aside0 (kq ≤ k) ∧ Aside0 (w'.heap[gb202]? = some (.cells #[.int .i64 0, .int .i64 0, .int .i64 0, .int .i64 0] 25 (0, 0))) ∧ Aside0 (w'.heap[gb204]? = some (.cells #[.int .i64 x205000_1, .int .i64 x205001_1, .int .i64 x205002_1, .int .i64 x205003_1] 25 (0, 0))) ∧ Aside0 (Below w.heap.size w w'))
      case atStart => exact ⟨(1), ((rd_T25 l0 0).f0), ((rd_T25 l0 0).f1), ((rd_T25 l0 0).f2), ((rd_T25 l0 0).f3), (by first | rfl | (simp; done) | (simp [*]; done)), H', ⟨Nat.le_refl _⟩, ⟨pk BK202⟩, ⟨pk BK204⟩, ⟨bnow HB⟩⟩
      case round =>
        clear H'
        try clear p2; try clear q2; try clear hx2; try clear qi2; try clear c3; try clear c3b0; try clear c3b1; try clear c4; try clear c4b0; try clear c4b1; try clear c7; try clear hcz8_0; try clear hcz8_1; try clear hcz8_2; try clear hcz8_3; try clear hfz8_0; try clear hfz8_1; try clear hfz8_2; try clear hfz8_3; try clear hx203_0; try clear hx203_1; try clear hx203_2; try clear hx203_3; try clear p203; try clear q203
        obtain ⟨x6_1, x205000_1, x205001_1, x205002_1, x205003_1, rfl, HA, HK1, BK202, BK204, HB⟩ := hrel
        cases gk with
        | zero => exact absurd HA.out (by simp [api_GrMatrix_41.l0])
        | succ k1 =>
          have H := HA.out
          clear HA
          simp only [api_GrMatrix_41.l0] at H
          by_cases c10 : x6_1 < (l0.length : Int)
          · rw [if_pos c10] at H
            have c10b0 : decide (x6_1 < (l0.length : Int)) = true := decide_eq_true c10
            clear c10
            by_cases c11 : 0 ≤ x6_1
            · rw [if_pos c11] at H
              have c11b0 : decide (0 ≤ x6_1) = true := decide_eq_true c11
              clear c11
              obtain ⟨t206, A12, H⟩ := ob H
              by_cases c13 : t206 < 0
              · rw [if_pos c13] at H
                have c13b0 : decide (t206 < 0) = true := decide_eq_true c13
                clear c13
                obtain ⟨z208, E140, H⟩ := oc H
                have E14w : (IntKind.i64.wrap (x6_1 + 1)) = z208 := (i64_w _).trans E140
                have H' := Aside0.mk H
                clear H
                try go_wp2
                replace BK202 := bd BK202
                replace BK204 := bd BK204
                replace HB := bdn HB
                have p205 : 0 ≤ (x6_1 : Int) := of_decide_eq_true (by first | (with_reducible assumption) | assumption)
                have q205 : x6_1 < (l0.length : Int) := of_decide_eq_true (by first | (with_reducible assumption) | assumption)
                obtain ⟨ad205, e205, hx205_0, hx205_1, hx205_2, hx205_3⟩ := at_T25 HR0.out x6_1 p205 q205
                have hw205_3 := hx205_3
                have hw205_2 := hx205_2
                have hw205_1 := hx205_1
                have hw205_0 := hx205_0
                obtain rfl : ad203 = ad205 := (by injection e205)
                replace hx205_0 := (HB.out.cell (World.block_lt_of_cell? w _ hx205_0)).trans hx205_0
                replace hx205_1 := (HB.out.cell (World.block_lt_of_cell? w _ hx205_1)).trans hx205_1
                replace hx205_2 := (HB.out.cell (World.block_lt_of_cell? w _ hx205_2)).trans hx205_2
                replace hx205_3 := (HB.out.cell (World.block_lt_of_cell? w _ hx205_3)).trans hx205_3
                replace p205 := eq_true p205
                replace q205 := eq_true q205
                refine start_ (n := 8) (S := fun w' => w'.cell? ⟨gb204, 0, none⟩ = some (.int .i64 x205000_1) ∧ w'.cell? ⟨gb204, 1, none⟩ = some (.int .i64 x205001_1) ∧ w'.cell? ⟨gb204, 2, none⟩ = some (.int .i64 x205002_1) ∧ w'.cell? ⟨gb204, 3, none⟩ = some (.int .i64 x205003_1) ∧ w'.cell? (ad203.add ((x6_1).toNat * 4)) = some (.int .i64 ((rd_T25 l0 x6_1).f0)) ∧ w'.cell? ⟨(ad203.add ((x6_1).toNat * 4)).block, (ad203.add ((x6_1).toNat * 4)).off + 1, none⟩ = some (.int .i64 ((rd_T25 l0 x6_1).f1)) ∧ w'.cell? ⟨(ad203.add ((x6_1).toNat * 4)).block, (ad203.add ((x6_1).toNat * 4)).off + 2, none⟩ = some (.int .i64 ((rd_T25 l0 x6_1).f2)) ∧ w'.cell? ⟨(ad203.add ((x6_1).toNat * 4)).block, (ad203.add ((x6_1).toNat * 4)).off + 3, none⟩ = some (.int .i64 ((rd_T25 l0 x6_1).f3))) (ds := []) #[false, false, false, false, false, false, false, false] (by kernel_rfl) rfl rfl ⟨(blk_cell BK204.out 0).trans rfl, (blk_cell BK204.out 1).trans rfl, (blk_cell BK204.out 2).trans rfl, (blk_cell BK204.out 3).trans rfl, ((HB.out.cell (World.block_lt_of_cell? w _ hw205_0)).trans hw205_0), ((HB.out.cell (World.block_lt_of_cell? w _ hw205_1)).trans hw205_1), ((HB.out.cell (World.block_lt_of_cell? w _ hw205_2)).trans hw205_2), ((HB.out.cell (World.block_lt_of_cell? w _ hw205_3)).trans hw205_3)⟩ (fun hHeld => ?_); refine with_tabW api_GrMatrix_41.tab7 api_GrMatrix_41.bits7 (fun HT_ HW_ => ?_)
                generalize wr.drew = w15 at BK202 BK204 HB hx205_0 hx205_1 hx205_2 hx205_3 hHeld ⊢
                refine pz 0 20 HT_ ?_
                refine pz 1 21 HT_ ?_
                refine pz 2 22 HT_ ?_
                refine pz 3 23 HT_ ?_
                refine tz 4 24 HT_ HW_ hHeld ?_
                refine tz 5 25 HT_ HW_ hHeld ?_
                refine one_ (i := 6) (N := some 26) #[true, true, true, true, true, true, true, false] rfl rfl (one_of HT_.out (by kernel_rfl)) (by decide) (fun K hK => ?_)
                refine goesV_ Try.func42 (by kernel_rfl) rfl #[.agg #[.int .i64 ((rd_T25 l0 x6_1).f0), .int .i64 ((rd_T25 l0 x6_1).f1), .int .i64 ((rd_T25 l0 x6_1).f2), .int .i64 ((rd_T25 l0 x6_1).f3)], .agg #[.int .i64 x205000_1, .int .i64 x205001_1, .int .i64 x205002_1, .int .i64 x205003_1]] (by rfl) rfl rfl (by rfl) am ?_
                with_reducible refine (grids_order.calls k1 ((rd_T25 l0 x6_1).f0) ((rd_T25 l0 x6_1).f1) ((rd_T25 l0 x6_1).f2) ((rd_T25 l0 x6_1).f3) x205000_1 x205001_1 x205002_1 x205003_1 t206 _ A12.out).mono ?_
                rintro e w16 ⟨rfl, hb⟩
                refine ⟨_, rfl, ?_⟩
                replace BK202 := bb BK202 hb
                replace BK204 := bb BK204 hb
                replace HB := bst HB hb
                (try clear hb)
                (try clear hb2)
                (try clear hk)
                (try clear hi)
                refine hK.out _ _ ⟨(blk_cell BK204.out 0).trans rfl, (blk_cell BK204.out 1).trans rfl, (blk_cell BK204.out 2).trans rfl, (blk_cell BK204.out 3).trans rfl, ((HB.out.cell (World.block_lt_of_cell? w _ hw205_0)).trans hw205_0), ((HB.out.cell (World.block_lt_of_cell? w _ hw205_1)).trans hw205_1), ((HB.out.cell (World.block_lt_of_cell? w _ hw205_2)).trans hw205_2), ((HB.out.cell (World.block_lt_of_cell? w _ hw205_3)).trans hw205_3)⟩ (fun hHeld => ?_)
                clear hK K
                refine norm_ (a' := ?_) ?_ ?_
                rotate_left
                · show Act.put _ (some 26) _ = _
                  simp only [Act.put, List.setIfInBounds_toArray, List.set_cons_zero, List.set_cons_succ, i64_w, i32_w]
                  rfl
                refine pz 7 27 HT_ ?_
                refine done_ (done_of HT_.out (by kernel_rfl)) ?_
                have p207 : 0 ≤ (x6_1 : Int) := of_decide_eq_true (by first | (with_reducible assumption) | assumption)
                have q207 : x6_1 < (l0.length : Int) := of_decide_eq_true (by first | (with_reducible assumption) | assumption)
                obtain ⟨ad207, e207, hx207_0, hx207_1, hx207_2, hx207_3⟩ := at_T25 HR0.out x6_1 p207 q207
                obtain rfl : ad203 = ad207 := (by injection e207)
                replace hx207_0 := (HB.out.cell (World.block_lt_of_cell? w _ hx207_0)).trans hx207_0
                replace hx207_1 := (HB.out.cell (World.block_lt_of_cell? w _ hx207_1)).trans hx207_1
                replace hx207_2 := (HB.out.cell (World.block_lt_of_cell? w _ hx207_2)).trans hx207_2
                replace hx207_3 := (HB.out.cell (World.block_lt_of_cell? w _ hx207_3)).trans hx207_3
                replace p207 := eq_true p207
                replace q207 := eq_true q207
                have hnb17 := NB204_202.out
                have hnc17 := NB202_204.out
                have ⟨hcz18_0, hcz18_1, hcz18_2, hcz18_3, hfz18_0, hfz18_1, hfz18_2, hfz18_3⟩ := cf4 BK204
                try go_wp2_with (first | ((with_reducible refine gate_store (t := 25) (p := 5) rfl ?_); refine sx 25 5 (((((w16.setCell ⟨gb204, 0, none⟩ (.int .i64 ((rd_T25 l0 x6_1).f0))).setCell ⟨gb204, 1, none⟩ (.int .i64 ((rd_T25 l0 x6_1).f1))).setCell ⟨gb204, 2, none⟩ (.int .i64 ((rd_T25 l0 x6_1).f2))).setCell ⟨gb204, 3, none⟩ (.int .i64 ((rd_T25 l0 x6_1).f3)))) fun w19 hw => ?_; replace BK202 := fw hw BK202; replace BK204 := pw4 hw BK204; replace HB := bw hw HB; clear hw))
                go_roundg k1
                case measure => have := HK1.out; omega
                case rel => exact ⟨(z208), ((rd_T25 l0 x6_1).f0), ((rd_T25 l0 x6_1).f1), ((rd_T25 l0 x6_1).f2), ((rd_T25 l0 x6_1).f3), (by first | rfl | (simp; done) | (simp [*]; done)), H', ⟨by have := HK1.out; omega⟩, ⟨pk BK202⟩, ⟨pk BK204⟩, ⟨bnow HB⟩⟩
              · rw [if_neg c13] at H
                have c13b0 : decide (t206 < 0) = false := decide_eq_false c13
                clear c13
                obtain ⟨z209, E200, H⟩ := oc H
                have E20w : (IntKind.i64.wrap (x6_1 + 1)) = z209 := (i64_w _).trans E200
                have H' := Aside0.mk H
                clear H
                try go_wp2
                replace BK202 := bd BK202
                replace BK204 := bd BK204
                replace HB := bdn HB
                have p205 : 0 ≤ (x6_1 : Int) := of_decide_eq_true (by first | (with_reducible assumption) | assumption)
                have q205 : x6_1 < (l0.length : Int) := of_decide_eq_true (by first | (with_reducible assumption) | assumption)
                obtain ⟨ad205, e205, hx205_0, hx205_1, hx205_2, hx205_3⟩ := at_T25 HR0.out x6_1 p205 q205
                have hw205_3 := hx205_3
                have hw205_2 := hx205_2
                have hw205_1 := hx205_1
                have hw205_0 := hx205_0
                obtain rfl : ad203 = ad205 := (by injection e205)
                replace hx205_0 := (HB.out.cell (World.block_lt_of_cell? w _ hx205_0)).trans hx205_0
                replace hx205_1 := (HB.out.cell (World.block_lt_of_cell? w _ hx205_1)).trans hx205_1
                replace hx205_2 := (HB.out.cell (World.block_lt_of_cell? w _ hx205_2)).trans hx205_2
                replace hx205_3 := (HB.out.cell (World.block_lt_of_cell? w _ hx205_3)).trans hx205_3
                replace p205 := eq_true p205
                replace q205 := eq_true q205
                refine start_ (n := 8) (S := fun w' => w'.cell? ⟨gb204, 0, none⟩ = some (.int .i64 x205000_1) ∧ w'.cell? ⟨gb204, 1, none⟩ = some (.int .i64 x205001_1) ∧ w'.cell? ⟨gb204, 2, none⟩ = some (.int .i64 x205002_1) ∧ w'.cell? ⟨gb204, 3, none⟩ = some (.int .i64 x205003_1) ∧ w'.cell? (ad203.add ((x6_1).toNat * 4)) = some (.int .i64 ((rd_T25 l0 x6_1).f0)) ∧ w'.cell? ⟨(ad203.add ((x6_1).toNat * 4)).block, (ad203.add ((x6_1).toNat * 4)).off + 1, none⟩ = some (.int .i64 ((rd_T25 l0 x6_1).f1)) ∧ w'.cell? ⟨(ad203.add ((x6_1).toNat * 4)).block, (ad203.add ((x6_1).toNat * 4)).off + 2, none⟩ = some (.int .i64 ((rd_T25 l0 x6_1).f2)) ∧ w'.cell? ⟨(ad203.add ((x6_1).toNat * 4)).block, (ad203.add ((x6_1).toNat * 4)).off + 3, none⟩ = some (.int .i64 ((rd_T25 l0 x6_1).f3))) (ds := []) #[false, false, false, false, false, false, false, false] (by kernel_rfl) rfl rfl ⟨(blk_cell BK204.out 0).trans rfl, (blk_cell BK204.out 1).trans rfl, (blk_cell BK204.out 2).trans rfl, (blk_cell BK204.out 3).trans rfl, ((HB.out.cell (World.block_lt_of_cell? w _ hw205_0)).trans hw205_0), ((HB.out.cell (World.block_lt_of_cell? w _ hw205_1)).trans hw205_1), ((HB.out.cell (World.block_lt_of_cell? w _ hw205_2)).trans hw205_2), ((HB.out.cell (World.block_lt_of_cell? w _ hw205_3)).trans hw205_3)⟩ (fun hHeld => ?_); refine with_tabW api_GrMatrix_41.tab7 api_GrMatrix_41.bits7 (fun HT_ HW_ => ?_)
                generalize wr.drew = w21 at BK202 BK204 HB hx205_0 hx205_1 hx205_2 hx205_3 hHeld ⊢
                refine pz 0 20 HT_ ?_
                refine pz 1 21 HT_ ?_
                refine pz 2 22 HT_ ?_
                refine pz 3 23 HT_ ?_
                refine tz 4 24 HT_ HW_ hHeld ?_
                refine tz 5 25 HT_ HW_ hHeld ?_
                refine one_ (i := 6) (N := some 26) #[true, true, true, true, true, true, true, false] rfl rfl (one_of HT_.out (by kernel_rfl)) (by decide) (fun K hK => ?_)
                refine goesV_ Try.func42 (by kernel_rfl) rfl #[.agg #[.int .i64 ((rd_T25 l0 x6_1).f0), .int .i64 ((rd_T25 l0 x6_1).f1), .int .i64 ((rd_T25 l0 x6_1).f2), .int .i64 ((rd_T25 l0 x6_1).f3)], .agg #[.int .i64 x205000_1, .int .i64 x205001_1, .int .i64 x205002_1, .int .i64 x205003_1]] (by rfl) rfl rfl (by rfl) am ?_
                with_reducible refine (grids_order.calls k1 ((rd_T25 l0 x6_1).f0) ((rd_T25 l0 x6_1).f1) ((rd_T25 l0 x6_1).f2) ((rd_T25 l0 x6_1).f3) x205000_1 x205001_1 x205002_1 x205003_1 t206 _ A12.out).mono ?_
                rintro e w22 ⟨rfl, hb⟩
                refine ⟨_, rfl, ?_⟩
                replace BK202 := bb BK202 hb
                replace BK204 := bb BK204 hb
                replace HB := bst HB hb
                (try clear hb)
                (try clear hb2)
                (try clear hk)
                (try clear hi)
                refine hK.out _ _ ⟨(blk_cell BK204.out 0).trans rfl, (blk_cell BK204.out 1).trans rfl, (blk_cell BK204.out 2).trans rfl, (blk_cell BK204.out 3).trans rfl, ((HB.out.cell (World.block_lt_of_cell? w _ hw205_0)).trans hw205_0), ((HB.out.cell (World.block_lt_of_cell? w _ hw205_1)).trans hw205_1), ((HB.out.cell (World.block_lt_of_cell? w _ hw205_2)).trans hw205_2), ((HB.out.cell (World.block_lt_of_cell? w _ hw205_3)).trans hw205_3)⟩ (fun hHeld => ?_)
                clear hK K
                refine norm_ (a' := ?_) ?_ ?_
                rotate_left
                · show Act.put _ (some 26) _ = _
                  simp only [Act.put, List.setIfInBounds_toArray, List.set_cons_zero, List.set_cons_succ, i64_w, i32_w]
                  rfl
                refine pz 7 27 HT_ ?_
                refine done_ (done_of HT_.out (by kernel_rfl)) ?_
                try go_wp2
                go_roundg k1
                case measure => have := HK1.out; omega
                case rel => exact ⟨(z209), (x205000_1), (x205001_1), (x205002_1), (x205003_1), (by first | rfl | (simp; done) | (simp [*]; done)), H', ⟨by have := HK1.out; omega⟩, ⟨pk BK202⟩, ⟨pk BK204⟩, ⟨bnow HB⟩⟩
            · rw [if_neg c11] at H
              exact absurd H (by simp)
          · rw [if_neg c10] at H
            have c10b0 : decide (x6_1 < (l0.length : Int)) = false := decide_eq_false c10
            clear c10
            simp only [Option.some.injEq, Prod.mk.injEq] at H
            obtain ⟨rfl, rfl, rfl, rfl⟩ := H
            have hnb23 := NB204_202.out
            have hnc23 := NB202_204.out
            have ⟨hcz24_0, hcz24_1, hcz24_2, hcz24_3, hfz24_0, hfz24_1, hfz24_2, hfz24_3⟩ := cf4 BK204
            have ⟨hcz25_0, hcz25_1, hcz25_2, hcz25_3, hfz25_0, hfz25_1, hfz25_2, hfz25_3⟩ := cf4 BK202
            go_wp2_with (first | ((with_reducible refine gate_store (t := 25) (p := 4) rfl ?_); refine sx 25 4 (((((wr.setCell ⟨gb202, 0, none⟩ (.int .i64 x205000_1)).setCell ⟨gb202, 1, none⟩ (.int .i64 x205001_1)).setCell ⟨gb202, 2, none⟩ (.int .i64 x205002_1)).setCell ⟨gb202, 3, none⟩ (.int .i64 x205003_1))) fun w26 hw => ?_; replace BK202 := pw4 hw BK202; replace BK204 := fw hw BK204; replace HB := bw hw HB; clear hw))
            refine bodyPost_ret (results_cell_row rfl _ _ gb202 25 #[.int .i64 x205000_1, .int .i64 x205001_1, .int .i64 x205002_1, .int .i64 x205003_1] (0, 0) _ rfl (pk BK202) Try.underlying25 rfl (by kernel_rfl)) rfl ?_
            exact rt HB
    · rw [if_neg c4] at H
      exact absurd H (by simp)
end
section
/-! ### grids_Reduce: function 11 -/
def grids_Reduce.l0 : Nat → List (S25) → Int → Int → Int → Int → Int → Int → Int → Int → Int → Option (Int × Int × Int × Int × Int × Int × Int × Int)
  | 0, _, _, _, _, _, _, _, _, _, _ => none
  | k + 1, x8, x25, x26, x222000, x222001, x222002, x223000, x223001, x223002, x223003 => if x26 < x25 then (if 0 ≤ x26 then (if x26 < (x8.length : Int) then ((grids_times.f x223000 x223001 x223002 x223003 ((rd_T25 x8 x26).f0) ((rd_T25 x8 x26).f1) ((rd_T25 x8 x26).f2) ((rd_T25 x8 x26).f3)).bind fun bt227 => ((some (wrap64 (x26 + 1))).bind fun z232 => (grids_Reduce.l0 k (x8.set (x26 : Int).toNat (⟨bt227.1, bt227.2.1, bt227.2.2.1, bt227.2.2.2⟩ : S25)) x25 z232 x222000 x222001 x222002 x223000 x223001 x223002 x223003))) else (none)) else (none)) else ((api_GrMatrix_41.f k x8).bind fun bt233 => (some (x222000, x222001, x222002, bt233.1, bt233.2.1, bt233.2.2.1, bt233.2.2.2, 0)))
def grids_Reduce.f (k : Nat) (a0_0 : Int) (a0_1 : Int) (a0_2 : Int) : Option (Int × Int × Int × Int × Int × Int × Int × Int) := (grids_Check.f k a0_0 a0_1 a0_2).bind fun t213 => (if t213 = 0 then ((grids_reduce.f k a0_0 a0_1 a0_2).bind fun bt214 => ((grids_group.f k bt214.1 bt214.2.1 bt214.2.2.1).bind fun t223 => (grids_Reduce.l0 k t223 (t223.length : Int) 0 bt214.1 bt214.2.1 bt214.2.2.1 bt214.2.2.2.1 bt214.2.2.2.2.1 bt214.2.2.2.2.2.1 bt214.2.2.2.2.2.2))) else (some (0, 0, 0, 0, 0, 0, 0, t213)))
theorem grids_Reduce.mono_l : ∀ k, (∀ y0 y1 y2 y3 y4 y5 y6 y7 y8 y9, LeO (grids_Reduce.l0 k y0 y1 y2 y3 y4 y5 y6 y7 y8 y9) (grids_Reduce.l0 (k + 1) y0 y1 y2 y3 y4 y5 y6 y7 y8 y9))
  | 0 => fun _ _ _ _ _ _ _ _ _ _ r h => by simp [grids_Reduce.l0] at h
  | k + 1 => by
    have ih0 := grids_Reduce.mono_l k
    · intro y0 y1 y2 y3 y4 y5 y6 y7 y8 y9
      unfold grids_Reduce.l0
      repeat' first
      | (with_reducible exact ih0 _ _ _ _ _ _ _ _ _ _)
      | (with_reducible exact api_GrMatrix_41.mono _ _)
      | (with_reducible exact grids_Check.mono _ _ _ _)
      | (with_reducible exact grids_group.mono _ _ _ _)
      | (with_reducible exact grids_reduce.mono _ _ _ _)
      | (with_reducible exact LeO.refl _)
      | (with_reducible exact LeO.none _)
      | (with_reducible refine LeO.ite ?_ ?_)
      | (with_reducible refine LeO.bind ?_ (fun _ => ?_))
      | exact ih0 _ _ _ _ _ _ _ _ _ _
      | exact api_GrMatrix_41.mono _ _
      | exact grids_Check.mono _ _ _ _
      | exact grids_group.mono _ _ _ _
      | exact grids_reduce.mono _ _ _ _
      | exact LeO.none _
      | refine LeO.ite ?_ ?_
      | refine LeO.bind ?_ (fun _ => ?_)
theorem grids_Reduce.mono : ∀ a0 a1 a2 k, LeO (grids_Reduce.f k a0 a1 a2) (grids_Reduce.f (k + 1) a0 a1 a2) := by
  intro a0 a1 a2 k
  have ih0 := grids_Reduce.mono_l k
  unfold grids_Reduce.f
  repeat' first
      | (with_reducible exact ih0 _ _ _ _ _ _ _ _ _ _)
      | (with_reducible exact api_GrMatrix_41.mono _ _)
      | (with_reducible exact grids_Check.mono _ _ _ _)
      | (with_reducible exact grids_group.mono _ _ _ _)
      | (with_reducible exact grids_reduce.mono _ _ _ _)
      | (with_reducible exact LeO.refl _)
      | (with_reducible exact LeO.none _)
      | (with_reducible refine LeO.ite ?_ ?_)
      | (with_reducible refine LeO.bind ?_ (fun _ => ?_))
      | exact ih0 _ _ _ _ _ _ _ _ _ _
      | exact api_GrMatrix_41.mono _ _
      | exact grids_Check.mono _ _ _ _
      | exact grids_group.mono _ _ _ _
      | exact grids_reduce.mono _ _ _ _
      | exact LeO.none _
      | refine LeO.ite ?_ ?_
      | refine LeO.bind ?_ (fun _ => ?_)
def grids_Reduce.T9 : Bool × List (List Nat × List Nat) := (true, [([], []), ([], []), ([], []), ([], []), ([], []), ([3, 4], [3, 4]), ([5], [5]), ([2, 6], [2, 6]), ([0, 1, 0, 1, 2, 3, 4, 5, 6, 7], [0, 1]), ([8, 7, 7, 0, 1, 2, 3, 4, 5, 6, 7], [7, 8])])
def grids_Reduce.B9 : List Nat := [0, 0, 0, 0, 0, 24, 56, 124, 255, 511]
theorem grids_Reduce.tab9 : rtab .any (opsOf Try.f11 9) = grids_Reduce.T9 := by kernel_rfl
theorem grids_Reduce.bits9 : waitsOk grids_Reduce.T9.2 grids_Reduce.B9 = true := by kernel_rfl
set_option maxHeartbeats 8000000 in
set_option maxRecDepth 100000 in
theorem grids_Reduce.calls (k : Nat) (a0_0 : Int) (a0_1 : Int) (a0_2 : Int) (r1 : Int) (r2 : Int) (r3 : Int) (r4 : Int) (r5 : Int) (r6 : Int) (r7 : Int) (r8 : Int) (w : World) (h : grids_Reduce.f k a0_0 a0_1 a0_2 = some (r1, r2, r3, r4, r5, r6, r7, r8)) :
    Calls Try.prog 11 #[.agg #[.int .i64 a0_0, .int .i64 a0_1, .int .i64 a0_2]] w fun e w' => e = .returned (.tuple #[.agg #[.int .i64 r1, .int .i64 r2, .int .i64 r3], .agg #[.int .i64 r4, .int .i64 r5, .int .i64 r6, .int .i64 r7], .int .i64 r8]) ∧ Below w.heap.size w w' := by
  have hu23 := Try.underlying23
  have hu25 := Try.underlying25
  have HB := Aside0.mk (Below.refl w.heap.size w)
  have H : ((grids_Check.f k a0_0 a0_1 a0_2).bind fun t213 => (if t213 = 0 then ((grids_reduce.f k a0_0 a0_1 a0_2).bind fun bt214 => ((grids_group.f k bt214.1 bt214.2.1 bt214.2.2.1).bind fun t223 => (grids_Reduce.l0 k t223 (t223.length : Int) 0 bt214.1 bt214.2.1 bt214.2.2.1 bt214.2.2.2.1 bt214.2.2.2.2.1 bt214.2.2.2.2.2.1 bt214.2.2.2.2.2.2))) else (some (0, 0, 0, 0, 0, 0, 0, t213)))) = some (r1, r2, r3, r4, r5, r6, r7, r8) := h
  clear h
  obtain ⟨t213, A2, H⟩ := ob H
  by_cases c3 : t213 = 0
  · rw [if_pos c3] at H
    have c3b0 : (t213 == 0) = true := beq_iff_eq.mpr c3
    have c3b1 : (t213 != 0) = false := bne_eq_false_iff_eq.mpr c3
    clear c3
    obtain ⟨⟨t214, t215, t216, t217, t218, t219, t220⟩, A4, H⟩ := ob H
    obtain ⟨t223, A5, H⟩ := ob H
    have H' := Aside0.mk H
    clear H
    go_enter Try.func11, Try.ntmps11
    go_wp2_with (first | ((with_reducible refine gate_dst (N := 1) rfl ?_); refine bx 1 #[.int .i64 a0_0, .int .i64 a0_1, .int .i64 a0_2] 23 fun gb210 hg w6 BK210 hb => ?_; have GW210 := gw hg HB; have GE210 := gw hg HB; replace HB := bst HB hb; clear hb hg) | ((with_reducible refine gate_dst (N := 2) rfl ?_); refine bx 2 #[.int .i64 0, .int .i64 0, .int .i64 0] 23 fun gb211 hg w7 BK211 hb => ?_; have GW211 := gw hg HB; have GE211 := gw hg HB; have NB210_211 := nlt hg BK210; have NB211_210 := ngt hg BK210; replace BK210 := bb BK210 hb; replace HB := bst HB hb; clear hb hg) | ((with_reducible refine gate_dst (N := 3) rfl ?_); refine bx 3 #[.int .i64 0, .int .i64 0, .int .i64 0, .int .i64 0] 25 fun gb212 hg w8 BK212 hb => ?_; have GW212 := gw hg HB; have GE212 := gw hg HB; have NB210_212 := nlt hg BK210; have NB212_210 := ngt hg BK210; have NB211_212 := nlt hg BK211; have NB212_211 := ngt hg BK211; replace BK210 := bb BK210 hb; replace BK211 := bb BK211 hb; replace HB := bst HB hb; clear hb hg; have hnb9 := NB210_211.out; have hnc9 := NB211_210.out; have hnb10 := NB210_212.out; have hnc10 := NB212_210.out; have ⟨hcz11_0, hcz11_1, hcz11_2, hfz11_0, hfz11_1, hfz11_2⟩ := cf3 BK210) | ((with_reducible refine gate_callee (f := 14) rfl ?_); refine gl 11 Try.func14 (grids_Check.calls k a0_0 a0_1 a0_2 t213 _ A2.out) ?_; rintro e w12 ⟨rfl, hb⟩; refine ⟨_, rfl, ?_⟩; replace BK210 := bb BK210 hb; replace BK211 := bb BK211 hb; replace BK212 := bb BK212 hb; replace HB := bst HB hb; clear hb; have ⟨hcz13_0, hcz13_1, hcz13_2, hfz13_0, hfz13_1, hfz13_2⟩ := cf3 BK210) | ((with_reducible refine gate_callee (f := 38) rfl ?_); refine gl 19 Try.func38 (grids_reduce.calls k a0_0 a0_1 a0_2 t214 t215 t216 t217 t218 t219 t220 _ A4.out) ?_; rintro e w14 ⟨rfl, hb⟩; refine ⟨_, rfl, ?_⟩; replace BK210 := bb BK210 hb; replace BK211 := bb BK211 hb; replace BK212 := bb BK212 hb; replace HB := bst HB hb; clear hb) | ((with_reducible refine gate_dst (N := 6) rfl ?_); refine bx 6 #[.int .i64 0, .int .i64 0, .int .i64 0] 23 fun gb221 hg w15 BK221 hb => ?_; have GW221 := gw hg HB; have GE221 := gw hg HB; have NB210_221 := nlt hg BK210; have NB221_210 := ngt hg BK210; have NB211_221 := nlt hg BK211; have NB221_211 := ngt hg BK211; have NB212_221 := nlt hg BK212; have NB221_212 := ngt hg BK212; replace BK210 := bb BK210 hb; replace BK211 := bb BK211 hb; replace BK212 := bb BK212 hb; replace HB := bst HB hb; clear hb hg) | ((with_reducible refine gate_dst (N := 7) rfl ?_); refine bx 7 #[.int .i64 0, .int .i64 0, .int .i64 0, .int .i64 0] 25 fun gb222 hg w16 BK222 hb => ?_; have GW222 := gw hg HB; have GE222 := gw hg HB; have NB210_222 := nlt hg BK210; have NB222_210 := ngt hg BK210; have NB211_222 := nlt hg BK211; have NB222_211 := ngt hg BK211; have NB212_222 := nlt hg BK212; have NB222_212 := ngt hg BK212; have NB221_222 := nlt hg BK221; have NB222_221 := ngt hg BK221; replace BK210 := bb BK210 hb; replace BK211 := bb BK211 hb; replace BK212 := bb BK212 hb; replace BK221 := bb BK221 hb; replace HB := bst HB hb; clear hb hg; have hnb17 := NB221_210.out; have hnc17 := NB210_221.out; have hnb18 := NB221_211.out; have hnc18 := NB211_221.out; have hnb19 := NB221_212.out; have hnc19 := NB212_221.out; have hnb20 := NB221_222.out; have hnc20 := NB222_221.out; have ⟨hcz21_0, hcz21_1, hcz21_2, hfz21_0, hfz21_1, hfz21_2⟩ := cf3 BK221) | ((with_reducible refine gate_store (t := 23) (p := 6) rfl ?_); refine sx 23 6 ((((w16.setCell ⟨gb221, 0, none⟩ (.int .i64 t214)).setCell ⟨gb221, 1, none⟩ (.int .i64 t215)).setCell ⟨gb221, 2, none⟩ (.int .i64 t216))) fun w22 hw => ?_; replace BK210 := fw hw BK210; replace BK211 := fw hw BK211; replace BK212 := fw hw BK212; replace BK221 := pw3 hw BK221; replace BK222 := fw hw BK222; replace HB := bw hw HB; clear hw; have hnb23 := NB222_210.out; have hnc23 := NB210_222.out; have hnb24 := NB222_211.out; have hnc24 := NB211_222.out; have hnb25 := NB222_212.out; have hnc25 := NB212_222.out; have ⟨hcz26_0, hcz26_1, hcz26_2, hcz26_3, hfz26_0, hfz26_1, hfz26_2, hfz26_3⟩ := cf4 BK222) | ((with_reducible refine gate_store (t := 25) (p := 7) rfl ?_); refine sx 25 7 (((((w22.setCell ⟨gb222, 0, none⟩ (.int .i64 t217)).setCell ⟨gb222, 1, none⟩ (.int .i64 t218)).setCell ⟨gb222, 2, none⟩ (.int .i64 t219)).setCell ⟨gb222, 3, none⟩ (.int .i64 t220))) fun w27 hw => ?_; replace BK210 := fw hw BK210; replace BK211 := fw hw BK211; replace BK212 := fw hw BK212; replace BK221 := fw hw BK221; replace BK222 := pw4 hw BK222; replace HB := bw hw HB; clear hw; have ⟨hcz28_0, hcz28_1, hcz28_2, hfz28_0, hfz28_1, hfz28_2⟩ := cf3 BK221) | ((with_reducible refine gate_callee (f := 39) rfl ?_); refine goesL_ (some 23) rfl rfl Try.func39 (by kernel_rfl) rfl #[.agg #[.int .i64 t214, .int .i64 t215, .int .i64 t216]] rfl am ?_; (with_reducible refine (grids_group.calls k t214 t215 t216 t223 _ A5.out).mono ?_); rintro e w29 ⟨v224, rfl, ho0, hb⟩; refine ⟨_, rfl, ?_⟩; have HO225 := Aside0.mk (Kd.R_lower (Kd.R_newB (Kd.R_newB ho0 (g := gb212) (o := .cells #[.int .i64 0, .int .i64 0, .int .i64 0, .int .i64 0] 25 (0, 0)) (pk BK212)) (g := gb222) (o := .cells #[.int .i64 t217, .int .i64 t218, .int .i64 t219, .int .i64 t220] 25 (0, 0)) (pk BK222)) (below_size (bnow HB))); replace BK210 := bb BK210 hb; replace BK211 := bb BK211 hb; replace BK212 := bb BK212 hb; replace BK221 := bb BK221 hb; replace BK222 := bb BK222 hb; replace HB := bst HB hb; (try clear hb); (try clear hb2); (try clear hk); (try clear hi); (try clear ho0); obtain ⟨Ao30, co30, eo30⟩ := Kd.R_slice HO225.out; subst eo30))
    (try simp only [Act.put, List.setIfInBounds_toArray, List.set_cons_zero, List.set_cons_succ])
    go_loopg [26] k (fun kq v26 w' => ∃ (x8_1 : List (S25)) (x26_1 : Int) (x213000_1 : Int) (x213001_1 : Int) (x213002_1 : Int) (x213003_1 : Int) (x223000_1 : Int) (x223001_1 : Int) (x223002_1 : Int) (x223003_1 : Int), v26 = .int .i64 x26_1 ∧ Aside0 (grids_Reduce.l0 kq x8_1 (t223.length : Int) x26_1 t214 t215 t216 x223000_1 x223001_1 x223002_1 x223003_1 = some (r1, r2, r3, r4, r5, r6, r7, r8)) ∧ Aside0 (kq ≤ k) ∧ Aside0 (Kd.R k25 25 w' w.heap.size (fun k_ => k_ ≠ gb212 ∧ k_ ≠ gb222) (.slice Ao30 t223.length co30) x8_1) ∧ Aside0 (w'.heap[gb210]? = some (.cells #[.int .i64 a0_0, .int .i64 a0_1, .int .i64 a0_2] 23 (0, 0))) ∧ Aside0 (w'.heap[gb211]? = some (.cells #[.int .i64 0, .int .i64 0, .int .i64 0] 23 (0, 0))) ∧ Aside0 (w'.heap[gb212]? = some (.cells #[.int .i64 x213000_1, .int .i64 x213001_1, .int .i64 x213002_1, .int .i64 x213003_1] 25 (0, 0))) ∧ Aside0 (w'.heap[gb221]? = some (.cells #[.int .i64 t214, .int .i64 t215, .int .i64 t216] 23 (0, 0))) ∧ Aside0 (w'.heap[gb222]? = some (.cells #[.int .i64 x223000_1, .int .i64 x223001_1, .int .i64 x223002_1, .int .i64 x223003_1] 25 (0, 0))) ∧ Aside0 (Below w.heap.size w w'))
    case atStart => exact ⟨(t223), (0), (0), (0), (0), (0), (t217), (t218), (t219), (t220), (by first | rfl | (simp; done) | (simp [*]; done)), H', ⟨Nat.le_refl _⟩, ⟨by (with_reducible repeat (first | apply Kd.R_alloc | apply Kd.R_drewN | apply Kd.R_drew)); exact Kd.R_mono HO225.out (fun _ hk => ⟨hk.1.2, hk.2⟩)⟩, ⟨pk BK210⟩, ⟨pk BK211⟩, ⟨pk BK212⟩, ⟨pk BK221⟩, ⟨pk BK222⟩, ⟨bnow HB⟩⟩
    case round =>
      clear H'
      try clear c1; try clear c2; try clear p2; try clear c3; try clear c3b0; try clear c3b1; try clear c9; try clear c10; try clear c11; try clear c14; try clear c17; try clear c18; try clear c19; try clear c20; try clear c23; try clear c24; try clear c25; try clear hcz11_0; try clear hcz11_1; try clear hcz11_2; try clear hcz13_0; try clear hcz13_1; try clear hcz13_2; try clear hcz21_0; try clear hcz21_1; try clear hcz21_2; try clear hcz26_0; try clear hcz26_1; try clear hcz26_2; try clear hcz26_3; try clear hcz28_0; try clear hcz28_1; try clear hcz28_2; try clear hfz11_0; try clear hfz11_1; try clear hfz11_2; try clear hfz13_0; try clear hfz13_1; try clear hfz13_2; try clear hfz21_0; try clear hfz21_1; try clear hfz21_2; try clear hfz26_0; try clear hfz26_1; try clear hfz26_2; try clear hfz26_3; try clear hfz28_0; try clear hfz28_1; try clear hfz28_2
      obtain ⟨x8_1, x26_1, x213000_1, x213001_1, x213002_1, x213003_1, x223000_1, x223001_1, x223002_1, x223003_1, rfl, HA, HK1, HO_8, BK210, BK211, BK212, BK221, BK222, HB⟩ := hrel
      have hl8_1 := (Kd.R_reads' HO_8.out).1
      rw [hl8_1] at HO_8
      (try simp only [hl8_1])
      (try simp only [hl8_1] at BK210)
      (try simp only [hl8_1] at BK211)
      (try simp only [hl8_1] at BK212)
      (try simp only [hl8_1] at BK221)
      (try simp only [hl8_1] at BK222)
      cases gk with
      | zero => exact absurd HA.out (by simp [grids_Reduce.l0])
      | succ k1 =>
        have H := HA.out
        clear HA
        simp only [grids_Reduce.l0] at H
        by_cases c31 : x26_1 < (t223.length : Int)
        · rw [if_pos c31] at H
          have c31b0 : decide (x26_1 < (t223.length : Int)) = true := decide_eq_true c31
          (try (have c31h0 := c31b0; simp only [hl8_1] at c31h0))
          clear c31
          by_cases c32 : 0 ≤ x26_1
          · rw [if_pos c32] at H
            have c32b0 : decide (0 ≤ x26_1) = true := decide_eq_true c32
            clear c32
            by_cases c33 : x26_1 < (x8_1.length : Int)
            · rw [if_pos c33] at H
              have c33b0 : decide (x26_1 < (x8_1.length : Int)) = true := decide_eq_true c33
              (try (have c33h0 := c33b0; simp only [hl8_1] at c33h0))
              clear c33
              obtain ⟨⟨t227, t228, t229, t230⟩, A34, H⟩ := ob H
              obtain ⟨y231, hy231⟩ : ∃ y_ : List (S25), y_ = (x8_1.set (x26_1 : Int).toNat (⟨t227, t228, t229, t230⟩ : S25)) := ⟨_, rfl⟩
              replace H : ((some (wrap64 (x26_1 + 1))).bind fun z232 => (grids_Reduce.l0 k1 y231 (t223.length : Int) z232 t214 t215 t216 x223000_1 x223001_1 x223002_1 x223003_1)) = some (r1, r2, r3, r4, r5, r6, r7, r8) := by first | (rw [hy231]; with_reducible exact H) | (have H2_ := (Option.bind_some _ _).symm.trans H; rw [hy231]; with_reducible exact H2_) | (have H2_ := (Option.bind_some _ _).symm.trans H; with_reducible exact H2_) | with_reducible exact H | (rw [hy231]; exact H) | exact H
              have Ny231 := Aside0.mk hy231
              clear hy231
              obtain ⟨z232, E360, H⟩ := oc H
              have E36w : (IntKind.i64.wrap (x26_1 + 1)) = z232 := (i64_w _).trans E360
              have H' := Aside0.mk H
              clear H
              try go_wp2
              replace HO_8 := Aside0.mk (Kd.R_drew HO_8.out)
              replace BK210 := bd BK210
              replace BK211 := bd BK211
              replace BK212 := bd BK212
              replace BK221 := bd BK221
              replace BK222 := bd BK222
              replace HB := bdn HB
              have p226 : 0 ≤ (x26_1 : Int) := of_decide_eq_true (by first | (with_reducible assumption) | assumption)
              have q226 : x26_1 < (x8_1.length : Int) := of_decide_eq_true (by first | (with_reducible assumption) | assumption)
              obtain ⟨ad226, e226, hx226_0, hx226_1, hx226_2, hx226_3⟩ := at_T25 (Kd.R_reads' HO_8.out).2.2 x26_1 p226 q226
              cases e226
              replace p226 := eq_true p226
              replace q226 := eq_true q226
              refine start_ (n := 10) (S := fun w' => w'.cell? ⟨gb222, 0, none⟩ = some (.int .i64 x223000_1) ∧ w'.cell? ⟨gb222, 1, none⟩ = some (.int .i64 x223001_1) ∧ w'.cell? ⟨gb222, 2, none⟩ = some (.int .i64 x223002_1) ∧ w'.cell? ⟨gb222, 3, none⟩ = some (.int .i64 x223003_1) ∧ w'.cell? (ad226.add ((x26_1).toNat * 4)) = some (.int .i64 ((rd_T25 x8_1 x26_1).f0)) ∧ w'.cell? ⟨(ad226.add ((x26_1).toNat * 4)).block, (ad226.add ((x26_1).toNat * 4)).off + 1, none⟩ = some (.int .i64 ((rd_T25 x8_1 x26_1).f1)) ∧ w'.cell? ⟨(ad226.add ((x26_1).toNat * 4)).block, (ad226.add ((x26_1).toNat * 4)).off + 2, none⟩ = some (.int .i64 ((rd_T25 x8_1 x26_1).f2)) ∧ w'.cell? ⟨(ad226.add ((x26_1).toNat * 4)).block, (ad226.add ((x26_1).toNat * 4)).off + 3, none⟩ = some (.int .i64 ((rd_T25 x8_1 x26_1).f3))) (ds := [9]) #[false, false, false, false, false, false, false, false, false, false] (by kernel_rfl) rfl rfl ⟨(blk_cell BK222.out 0).trans rfl, (blk_cell BK222.out 1).trans rfl, (blk_cell BK222.out 2).trans rfl, (blk_cell BK222.out 3).trans rfl, hx226_0, hx226_1, hx226_2, hx226_3⟩ (fun hHeld => ?_); refine with_tabW grids_Reduce.tab9 grids_Reduce.bits9 (fun HT_ HW_ => ?_)
              generalize wr.drew = w37 at HO_8 BK210 BK211 BK212 BK221 BK222 HB hx226_0 hx226_1 hx226_2 hx226_3 hHeld ⊢
              refine pz 0 29 HT_ ?_
              refine pz 1 30 HT_ ?_
              refine pz 3 32 HT_ ?_
              refine pz 4 33 HT_ ?_
              refine pz 5 34 HT_ ?_
              refine tz 2 31 HT_ HW_ hHeld ?_
              refine tz 6 35 HT_ HW_ hHeld ?_
              refine one_ (i := 7) (N := some 36) #[true, true, true, true, true, true, true, true, false, false] rfl rfl (one_of HT_.out (by kernel_rfl)) (by decide) (fun K hK => ?_)
              refine gs _ Try.func40 (grids_times.calls x223000_1 x223001_1 x223002_1 x223003_1 ((rd_T25 x8_1 x26_1).f0) ((rd_T25 x8_1 x26_1).f1) ((rd_T25 x8_1 x26_1).f2) ((rd_T25 x8_1 x26_1).f3) t227 t228 t229 t230 _ A34.out) ?_
              rintro e w38 ⟨rfl, hb⟩
              have HS4_ := (hb.cell (World.block_lt_of_cell? _ _ (hHeld.2.2.2.2.1))).trans (hHeld.2.2.2.2.1)
              have HS5_ := (hb.cell (World.block_lt_of_cell? _ _ (hHeld.2.2.2.2.2.1))).trans (hHeld.2.2.2.2.2.1)
              have HS6_ := (hb.cell (World.block_lt_of_cell? _ _ (hHeld.2.2.2.2.2.2.1))).trans (hHeld.2.2.2.2.2.2.1)
              have HS7_ := (hb.cell (World.block_lt_of_cell? _ _ (hHeld.2.2.2.2.2.2.2))).trans (hHeld.2.2.2.2.2.2.2)
              refine ⟨_, rfl, ?_⟩
              have n0_ := Aside0.mk (Kd.R_below (by (with_reducible repeat (first | apply Kd.R_alloc | apply Kd.R_drewN | apply Kd.R_drew)); exact HO_8.out) hb)
              have n1_ := bb BK210 hb
              have n2_ := bb BK211 hb
              have n3_ := bb BK212 hb
              have n4_ := bb BK221 hb
              have n5_ := bb BK222 hb
              have n6_ := bst HB hb
              clear HO_8
              clear BK210
              clear BK211
              clear BK212
              clear BK221
              clear BK222
              clear HB
              have HO_8 := n0_
              have BK210 := n1_
              have BK211 := n2_
              have BK212 := n3_
              have BK221 := n4_
              have BK222 := n5_
              have HB := n6_
              clear n0_ n1_ n2_ n3_ n4_ n5_ n6_
              (try clear hb)
              (try clear hb2)
              (try clear hk)
              (try clear hi)
              have p35 : 0 ≤ (x26_1 : Int) := of_decide_eq_true (by first | (with_reducible assumption) | assumption)
              have q35 : (x26_1 : Int) < ((x8_1.length : Int) : Int) := of_decide_eq_true (by first | (with_reducible assumption) | assumption)
              obtain ⟨go35, co35, eo35, gb35, gl35, cl35, HG35⟩ := Kd.R_form HO_8.out (by omega)
              (first | cases eo35 | (injection eo35 with ea_ en_ ec_; (first | subst ea_ | (injection ea_ with ea_; subst ea_)); subst ec_; clear en_))
              have GB35 := Aside0.mk gb35
              have GG35 := Aside0.mk HG35
              clear gb35 gl35 HG35
              (first | simp only [add_plain] at hx226_0 | skip)
              (first | simp only [add_plain] at hx226_1 | skip)
              (first | simp only [add_plain] at hx226_2 | skip)
              (first | simp only [add_plain] at hx226_3 | skip)
              obtain ⟨ce35, hcl35, hM35, hcc35, hfr35⟩ := Kd.R_elem HO_8.out z25 (x26_1 : Int) p35 q35
              obtain rfl := k25_openM hM35
              have hx35_0 : World.cell? _ ⟨go35, (x26_1 : Int).toNat * 4, none⟩ = some (.int .i64 ((rd_T25 x8_1 x26_1).f0)) := hcc35 0 _ rfl
              have hx35_1 : World.cell? _ ⟨go35, (x26_1 : Int).toNat * 4 + 1, none⟩ = some (.int .i64 ((rd_T25 x8_1 x26_1).f1)) := hcc35 1 _ rfl
              have hx35_2 : World.cell? _ ⟨go35, (x26_1 : Int).toNat * 4 + 2, none⟩ = some (.int .i64 ((rd_T25 x8_1 x26_1).f2)) := hcc35 2 _ rfl
              have hx35_3 : World.cell? _ ⟨go35, (x26_1 : Int).toNat * 4 + 3, none⟩ = some (.int .i64 ((rd_T25 x8_1 x26_1).f3)) := hcc35 3 _ rfl
              have hf35_0 : World.frozen? _ ⟨go35, (x26_1 : Int).toNat * 4, none⟩ = false := hfr35 0
              have hf35_1 : World.frozen? _ ⟨go35, (x26_1 : Int).toNat * 4 + 1, none⟩ = false := hfr35 1
              have hf35_2 : World.frozen? _ ⟨go35, (x26_1 : Int).toNat * 4 + 2, none⟩ = false := hfr35 2
              have hf35_3 : World.frozen? _ ⟨go35, (x26_1 : Int).toNat * 4 + 3, none⟩ = false := hfr35 3
              (try rw [World.frozen?_setCells] at hf35_0)
              (try rw [World.frozen?_setCells] at hf35_1)
              (try rw [World.frozen?_setCells] at hf35_2)
              (try rw [World.frozen?_setCells] at hf35_3)
              clear hcl35 hcc35 hfr35 hM35
              replace p35 := eq_true p35
              replace q35 := eq_true q35
              obtain ⟨ce39, hcl39, hM39, hcc39, hfr39⟩ := Kd.R_elem HO_8.out z25 (x26_1 : Int) (of_decide_eq_true (by first | (with_reducible assumption) | assumption)) (by have h_ : (x26_1 : Int) < ((x8_1.length : Int) : Int) := of_decide_eq_true (by first | (with_reducible assumption) | assumption); first | exact h_ | (have e_ := (Kd.R_reads' HO_8.out).1; omega) | simpa using h_)
              obtain rfl := k25_openM hM39
              have HP39 := (Kd.R_seg HO_8.out (x26_1 : Int) (of_decide_eq_true (by first | (with_reducible assumption) | assumption)) (by have h_ : (x26_1 : Int) < ((x8_1.length : Int) : Int) := of_decide_eq_true (by first | (with_reducible assumption) | assumption); first | exact h_ | (have e_ := (Kd.R_reads' HO_8.out).1; omega) | simpa using h_) (seg := [.int .i64 t227, .int .i64 t228, .int .i64 t229, .int .i64 t230]) (j := 0) hcl39 hcc39 (show 4 ≤ 4 from by decide) (x' := (⟨t227, t228, t229, t230⟩ : S25)) (k25_mkM _ _ _ (⟨t227, t228, t229, t230⟩ : S25) ) (fun _ hk => hk)).1
              rw [← Ny231.out] at HP39
              have HQ39 := Aside0.mk HP39
              clear hcl39 hcc39 hfr39 hM39 HP39
              refine hK.out _ _ ⟨(blk_cell BK222.out 0).trans rfl, (blk_cell BK222.out 1).trans rfl, (blk_cell BK222.out 2).trans rfl, (blk_cell BK222.out 3).trans rfl, HS4_, HS5_, HS6_, HS7_⟩ (fun hHeld => ?_)
              clear hK K
              refine norm_ (a' := ?_) ?_ ?_
              rotate_left
              · show Act.put _ (some 36) _ = _
                simp only [Act.put, List.setIfInBounds_toArray, List.set_cons_zero, List.set_cons_succ, i64_w, i32_w]
                rfl
              refine pz 8 37 HT_ ?_
              refine last_ (i := 9) (N := none) #[true, true, true, true, true, true, true, true, true, true] rfl rfl (one_of HT_.out (by kernel_rfl)) (by decide) (fun K hK => ?_)
              refine skip_ (w1 := ?_) (by rfl) rfl ?_ ?_
              rotate_left
              · go_simp
                rfl
              refine hK.out _ _ ?_
              clear hK K
              refine done_ (done_of HT_.out (by kernel_rfl)) ?_
              try go_wp2
              (try simp only [← hl8_1])
              go_roundg k1
              case measure => have := HK1.out; omega
              case rel => exact ⟨(y231), (z232), (x213000_1), (x213001_1), (x213002_1), (x213003_1), (x223000_1), (x223001_1), (x223002_1), (x223003_1), (by first | rfl | (simp; done) | (simp [*]; done)), H', ⟨by have := HK1.out; omega⟩, ⟨by (try simp only [hl8_1]); (with_reducible repeat (first | apply Kd.R_alloc | apply Kd.R_drewN | apply Kd.R_drew)); exact HQ39.out⟩, ⟨by (try simp only [hl8_1]); (with_reducible repeat (first | refine blk_drewN ?_ _ | refine blk_drew ?_ | refine blk_alloc ?_ _)); refine blk_far ?_ (by have h_ := Kd.R_ne HO_8.out BK210.out (by decide); intro e_; exact h_ (by rw [e_]; rfl)) _; (with_reducible repeat (first | refine blk_drewN ?_ _ | refine blk_drew ?_ | refine blk_alloc ?_ _)); refine blk_far ?_ (by have h_ := Kd.R_ne HO_8.out BK210.out (by decide); intro e_; exact h_ (by rw [e_]; rfl)) _; (with_reducible repeat (first | refine blk_drewN ?_ _ | refine blk_drew ?_ | refine blk_alloc ?_ _)); refine blk_far ?_ (by have h_ := Kd.R_ne HO_8.out BK210.out (by decide); intro e_; exact h_ (by rw [e_]; rfl)) _; (with_reducible repeat (first | refine blk_drewN ?_ _ | refine blk_drew ?_ | refine blk_alloc ?_ _)); refine blk_far ?_ (by have h_ := Kd.R_ne HO_8.out BK210.out (by decide); intro e_; exact h_ (by rw [e_]; rfl)) _; (with_reducible repeat (first | refine blk_drewN ?_ _ | refine blk_drew ?_ | refine blk_alloc ?_ _)); exact BK210.out⟩, ⟨by (try simp only [hl8_1]); (with_reducible repeat (first | refine blk_drewN ?_ _ | refine blk_drew ?_ | refine blk_alloc ?_ _)); refine blk_far ?_ (by have h_ := Kd.R_ne HO_8.out BK211.out (by decide); intro e_; exact h_ (by rw [e_]; rfl)) _; (with_reducible repeat (first | refine blk_drewN ?_ _ | refine blk_drew ?_ | refine blk_alloc ?_ _)); refine blk_far ?_ (by have h_ := Kd.R_ne HO_8.out BK211.out (by decide); intro e_; exact h_ (by rw [e_]; rfl)) _; (with_reducible repeat (first | refine blk_drewN ?_ _ | refine blk_drew ?_ | refine blk_alloc ?_ _)); refine blk_far ?_ (by have h_ := Kd.R_ne HO_8.out BK211.out (by decide); intro e_; exact h_ (by rw [e_]; rfl)) _; (with_reducible repeat (first | refine blk_drewN ?_ _ | refine blk_drew ?_ | refine blk_alloc ?_ _)); refine blk_far ?_ (by have h_ := Kd.R_ne HO_8.out BK211.out (by decide); intro e_; exact h_ (by rw [e_]; rfl)) _; (with_reducible repeat (first | refine blk_drewN ?_ _ | refine blk_drew ?_ | refine blk_alloc ?_ _)); exact BK211.out⟩, ⟨by (try simp only [hl8_1]); (with_reducible repeat (first | refine blk_drewN ?_ _ | refine blk_drew ?_ | refine blk_alloc ?_ _)); refine blk_far ?_ (by have h_ := Kd.R_away HO_8.out (fun _ hk => hk.1); intro e_; exact h_ (by rw [e_]; rfl)) _; (with_reducible repeat (first | refine blk_drewN ?_ _ | refine blk_drew ?_ | refine blk_alloc ?_ _)); refine blk_far ?_ (by have h_ := Kd.R_away HO_8.out (fun _ hk => hk.1); intro e_; exact h_ (by rw [e_]; rfl)) _; (with_reducible repeat (first | refine blk_drewN ?_ _ | refine blk_drew ?_ | refine blk_alloc ?_ _)); refine blk_far ?_ (by have h_ := Kd.R_away HO_8.out (fun _ hk => hk.1); intro e_; exact h_ (by rw [e_]; rfl)) _; (with_reducible repeat (first | refine blk_drewN ?_ _ | refine blk_drew ?_ | refine blk_alloc ?_ _)); refine blk_far ?_ (by have h_ := Kd.R_away HO_8.out (fun _ hk => hk.1); intro e_; exact h_ (by rw [e_]; rfl)) _; (with_reducible repeat (first | refine blk_drewN ?_ _ | refine blk_drew ?_ | refine blk_alloc ?_ _)); exact BK212.out⟩, ⟨by (try simp only [hl8_1]); (with_reducible repeat (first | refine blk_drewN ?_ _ | refine blk_drew ?_ | refine blk_alloc ?_ _)); refine blk_far ?_ (by have h_ := Kd.R_ne HO_8.out BK221.out (by decide); intro e_; exact h_ (by rw [e_]; rfl)) _; (with_reducible repeat (first | refine blk_drewN ?_ _ | refine blk_drew ?_ | refine blk_alloc ?_ _)); refine blk_far ?_ (by have h_ := Kd.R_ne HO_8.out BK221.out (by decide); intro e_; exact h_ (by rw [e_]; rfl)) _; (with_reducible repeat (first | refine blk_drewN ?_ _ | refine blk_drew ?_ | refine blk_alloc ?_ _)); refine blk_far ?_ (by have h_ := Kd.R_ne HO_8.out BK221.out (by decide); intro e_; exact h_ (by rw [e_]; rfl)) _; (with_reducible repeat (first | refine blk_drewN ?_ _ | refine blk_drew ?_ | refine blk_alloc ?_ _)); refine blk_far ?_ (by have h_ := Kd.R_ne HO_8.out BK221.out (by decide); intro e_; exact h_ (by rw [e_]; rfl)) _; (with_reducible repeat (first | refine blk_drewN ?_ _ | refine blk_drew ?_ | refine blk_alloc ?_ _)); exact BK221.out⟩, ⟨by (try simp only [hl8_1]); (with_reducible repeat (first | refine blk_drewN ?_ _ | refine blk_drew ?_ | refine blk_alloc ?_ _)); refine blk_far ?_ (by have h_ := Kd.R_away HO_8.out (fun _ hk => hk.2); intro e_; exact h_ (by rw [e_]; rfl)) _; (with_reducible repeat (first | refine blk_drewN ?_ _ | refine blk_drew ?_ | refine blk_alloc ?_ _)); refine blk_far ?_ (by have h_ := Kd.R_away HO_8.out (fun _ hk => hk.2); intro e_; exact h_ (by rw [e_]; rfl)) _; (with_reducible repeat (first | refine blk_drewN ?_ _ | refine blk_drew ?_ | refine blk_alloc ?_ _)); refine blk_far ?_ (by have h_ := Kd.R_away HO_8.out (fun _ hk => hk.2); intro e_; exact h_ (by rw [e_]; rfl)) _; (with_reducible repeat (first | refine blk_drewN ?_ _ | refine blk_drew ?_ | refine blk_alloc ?_ _)); refine blk_far ?_ (by have h_ := Kd.R_away HO_8.out (fun _ hk => hk.2); intro e_; exact h_ (by rw [e_]; rfl)) _; (with_reducible repeat (first | refine blk_drewN ?_ _ | refine blk_drew ?_ | refine blk_alloc ?_ _)); exact BK222.out⟩, ⟨by repeat (first | (with_reducible first | exact HB.out | apply below_alloc | apply pw_below_drewN | apply below_drew1 | refine below_set ?_ GB35.out | refine below_set ?_ GB35.out | refine below_set ?_ GB35.out | refine below_set ?_ GB35.out | refine below_set ?_ GE210.out | refine below_set ?_ GE211.out | refine below_set ?_ GE212.out | refine below_set ?_ GE221.out | refine below_set ?_ GE222.out) | exact HB.out)⟩⟩
            · rw [if_neg c33] at H
              exact absurd H (by simp)
          · rw [if_neg c32] at H
            exact absurd H (by simp)
        · rw [if_neg c31] at H
          have c31b0 : decide (x26_1 < (t223.length : Int)) = false := decide_eq_false c31
          (try (have c31h0 := c31b0; simp only [hl8_1] at c31h0))
          clear c31
          obtain ⟨⟨t233, t234, t235, t236⟩, A40, H⟩ := ob H
          simp only [Option.some.injEq, Prod.mk.injEq] at H
          obtain ⟨rfl, rfl, rfl, rfl, rfl, rfl, rfl, rfl⟩ := H
          try go_wp2
          replace HO_8 := Aside0.mk (Kd.R_drew HO_8.out)
          replace BK210 := bd BK210
          replace BK211 := bd BK211
          replace BK212 := bd BK212
          replace BK221 := bd BK221
          replace BK222 := bd BK222
          replace HB := bdn HB
          refine start_ (n := 6) (S := fun w' => w'.cell? ⟨gb221, 0, none⟩ = some (.int .i64 t214) ∧ w'.cell? ⟨gb221, 1, none⟩ = some (.int .i64 t215) ∧ w'.cell? ⟨gb221, 2, none⟩ = some (.int .i64 t216)) (ds := []) #[false, false, false, false, false, false] (by kernel_rfl) rfl rfl ⟨(blk_cell BK221.out 0).trans rfl, (blk_cell BK221.out 1).trans rfl, (blk_cell BK221.out 2).trans rfl⟩ (fun hHeld => ?_)
          generalize wr.drew = w41 at HO_8 BK210 BK211 BK212 BK221 BK222 HB hHeld ⊢
          refine pure_ (i := 1) (N := some 40) (v := ?_) (a' := ?_) #[false, true, false, false, false, false] rfl rfl (by kernel_rfl) (fun _ _ _ h => h) (Or.inl ⟨by rfl, ?_⟩) ?_ ?_
          rotate_left
          · intro w'
            go_simp
            with_reducible rfl
          rotate_left
          · simp only [Act.put, List.setIfInBounds_toArray, List.set_cons_zero, List.set_cons_succ, i64_w, i32_w]
            rfl
          refine take_ (i := 0) (N := some 39) (v := ?_) (a' := ?_) #[true, true, false, false, false, false] rfl rfl (by kernel_rfl) (fun _ _ _ h => h) (Or.inl ⟨by rfl, ?_⟩) hHeld ?_ ?_
          rotate_left
          · rintro w' ⟨s0, s1, s2⟩
            go_simp
            with_reducible rfl
          rotate_left
          · simp only [Act.put, List.setIfInBounds_toArray, List.set_cons_zero, List.set_cons_succ, i64_w, i32_w]
            rfl
          refine one_ (i := 2) (N := some 41) #[true, true, true, false, false, false] rfl rfl (by kernel_rfl) (by decide) (fun K hK => ?_)
          refine gs _ Try.func41 (api_GrMatrix_41.calls k1 _ _ x8_1  t233 t234 t235 t236 _ ?side1 ?side2 A40.out) ?_
          (case side1 => repeat (first | exact (Kd.R_reads' HO_8.out).2.2 | (with_reducible refine Kd.C_alloc ?_ _) | (with_reducible refine Kd.C_drewN ?_ _) | (with_reducible refine Kd.C_drew ?_)))
          (case side2 => exact (Kd.R_reads' HO_8.out).2.1)
          rintro e w42 ⟨rfl, hb⟩
          refine ⟨_, rfl, ?_⟩
          have n0_ := Aside0.mk (Kd.R_below (by (with_reducible repeat (first | apply Kd.R_alloc | apply Kd.R_drewN | apply Kd.R_drew)); exact HO_8.out) hb)
          have n1_ := bb BK210 hb
          have n2_ := bb BK211 hb
          have n3_ := bb BK212 hb
          have n4_ := bb BK221 hb
          have n5_ := bb BK222 hb
          have n6_ := bst HB hb
          clear HO_8
          clear BK210
          clear BK211
          clear BK212
          clear BK221
          clear BK222
          clear HB
          have HO_8 := n0_
          have BK210 := n1_
          have BK211 := n2_
          have BK212 := n3_
          have BK221 := n4_
          have BK222 := n5_
          have HB := n6_
          clear n0_ n1_ n2_ n3_ n4_ n5_ n6_
          (try clear hb)
          (try clear hb2)
          (try clear hk)
          (try clear hi)
          refine hK.out _ _ ⟨(blk_cell BK221.out 0).trans rfl, (blk_cell BK221.out 1).trans rfl, (blk_cell BK221.out 2).trans rfl⟩ (fun hHeld => ?_)
          clear hK K
          refine norm_ (a' := ?_) ?_ ?_
          rotate_left
          · show Act.put _ (some 41) _ = _
            simp only [Act.put, List.setIfInBounds_toArray, List.set_cons_zero, List.set_cons_succ, i64_w, i32_w]
            rfl
          refine one_ (i := 3) (N := none) #[true, true, true, true, false, false] rfl rfl (by kernel_rfl) (by decide) (fun K hK => ?_)
          have hs43 : w42.cell? ⟨gb211, 0, none⟩ = some (.int .i64 0) := (blk_cell BK211.out 0).trans rfl
          have hfs43 := blk_frozen BK211.out 0
          have hns43_0 := NB210_211.out
          have hns43_2 := NB212_211.out
          have hns43_3 := NB221_211.out
          have hns43_4 := NB222_211.out
          have hms43_0 := NB211_210.out
          have hms43_2 := NB211_212.out
          have hms43_3 := NB211_221.out
          have hms43_4 := NB211_222.out
          have hs44 : w42.cell? ⟨gb211, 1, none⟩ = some (.int .i64 0) := (blk_cell BK211.out 1).trans rfl
          have hfs44 := blk_frozen BK211.out 1
          have hns44_0 := NB210_211.out
          have hns44_2 := NB212_211.out
          have hns44_3 := NB221_211.out
          have hns44_4 := NB222_211.out
          have hms44_0 := NB211_210.out
          have hms44_2 := NB211_212.out
          have hms44_3 := NB211_221.out
          have hms44_4 := NB211_222.out
          have hs45 : w42.cell? ⟨gb211, 2, none⟩ = some (.int .i64 0) := (blk_cell BK211.out 2).trans rfl
          have hfs45 := blk_frozen BK211.out 2
          have hns45_0 := NB210_211.out
          have hns45_2 := NB212_211.out
          have hns45_3 := NB221_211.out
          have hns45_4 := NB222_211.out
          have hms45_0 := NB211_210.out
          have hms45_2 := NB211_212.out
          have hms45_3 := NB211_221.out
          have hms45_4 := NB211_222.out
          refine skip_ (w1 := ?_) (by rfl) rfl ?_ ?_
          rotate_left
          · go_simp
            rfl
          refine hK.out _ _ ⟨((cell_far (p := ⟨gb211, _, none⟩) NB221_211.out _).trans (((cell_far (p := ⟨gb211, _, none⟩) NB221_211.out _).trans (((cell_far (p := ⟨gb211, _, none⟩) NB221_211.out _).trans (hHeld.1)))))), ((cell_far (p := ⟨gb211, _, none⟩) NB221_211.out _).trans (((cell_far (p := ⟨gb211, _, none⟩) NB221_211.out _).trans (((cell_far (p := ⟨gb211, _, none⟩) NB221_211.out _).trans (hHeld.2.1)))))), ((cell_far (p := ⟨gb211, _, none⟩) NB221_211.out _).trans (((cell_far (p := ⟨gb211, _, none⟩) NB221_211.out _).trans (((cell_far (p := ⟨gb211, _, none⟩) NB221_211.out _).trans (hHeld.2.2))))))⟩ (fun hHeld => ?_)
          clear hK K
          refine one_ (i := 4) (N := none) #[true, true, true, true, true, false] rfl rfl (by kernel_rfl) (by decide) (fun K hK => ?_)
          have hs46 : w42.cell? ⟨gb212, 0, none⟩ = some (.int .i64 x213000_1) := (blk_cell BK212.out 0).trans rfl
          have hfs46 := blk_frozen BK212.out 0
          have hns46_0 := NB210_212.out
          have hns46_1 := NB211_212.out
          have hns46_3 := NB221_212.out
          have hns46_4 := NB222_212.out
          have hms46_0 := NB212_210.out
          have hms46_1 := NB212_211.out
          have hms46_3 := NB212_221.out
          have hms46_4 := NB212_222.out
          have hs47 : w42.cell? ⟨gb212, 1, none⟩ = some (.int .i64 x213001_1) := (blk_cell BK212.out 1).trans rfl
          have hfs47 := blk_frozen BK212.out 1
          have hns47_0 := NB210_212.out
          have hns47_1 := NB211_212.out
          have hns47_3 := NB221_212.out
          have hns47_4 := NB222_212.out
          have hms47_0 := NB212_210.out
          have hms47_1 := NB212_211.out
          have hms47_3 := NB212_221.out
          have hms47_4 := NB212_222.out
          have hs48 : w42.cell? ⟨gb212, 2, none⟩ = some (.int .i64 x213002_1) := (blk_cell BK212.out 2).trans rfl
          have hfs48 := blk_frozen BK212.out 2
          have hns48_0 := NB210_212.out
          have hns48_1 := NB211_212.out
          have hns48_3 := NB221_212.out
          have hns48_4 := NB222_212.out
          have hms48_0 := NB212_210.out
          have hms48_1 := NB212_211.out
          have hms48_3 := NB212_221.out
          have hms48_4 := NB212_222.out
          have hs49 : w42.cell? ⟨gb212, 3, none⟩ = some (.int .i64 x213003_1) := (blk_cell BK212.out 3).trans rfl
          have hfs49 := blk_frozen BK212.out 3
          have hns49_0 := NB210_212.out
          have hns49_1 := NB211_212.out
          have hns49_3 := NB221_212.out
          have hns49_4 := NB222_212.out
          have hms49_0 := NB212_210.out
          have hms49_1 := NB212_211.out
          have hms49_3 := NB212_221.out
          have hms49_4 := NB212_222.out
          refine skip_ (w1 := ?_) (by rfl) rfl ?_ ?_
          rotate_left
          · go_simp
            rfl
          refine hK.out _ _ ⟨((cell_far (p := ⟨gb212, _, none⟩) NB221_212.out _).trans (((cell_far (p := ⟨gb212, _, none⟩) NB221_212.out _).trans (((cell_far (p := ⟨gb212, _, none⟩) NB221_212.out _).trans (((cell_far (p := ⟨gb212, _, none⟩) NB221_212.out _).trans (hHeld.1)))))))), ((cell_far (p := ⟨gb212, _, none⟩) NB221_212.out _).trans (((cell_far (p := ⟨gb212, _, none⟩) NB221_212.out _).trans (((cell_far (p := ⟨gb212, _, none⟩) NB221_212.out _).trans (((cell_far (p := ⟨gb212, _, none⟩) NB221_212.out _).trans (hHeld.2.1)))))))), ((cell_far (p := ⟨gb212, _, none⟩) NB221_212.out _).trans (((cell_far (p := ⟨gb212, _, none⟩) NB221_212.out _).trans (((cell_far (p := ⟨gb212, _, none⟩) NB221_212.out _).trans (((cell_far (p := ⟨gb212, _, none⟩) NB221_212.out _).trans (hHeld.2.2))))))))⟩ (fun hHeld => ?_)
          clear hK K
          refine pure_ (i := 5) (N := some 4) (v := ?_) (a' := ?_) #[true, true, true, true, true, true] rfl rfl (by kernel_rfl) (fun _ _ _ h => h) (Or.inl ⟨by rfl, ?_⟩) ?_ ?_
          rotate_left
          · intro w'
            go_simp
            with_reducible rfl
          rotate_left
          · simp only [Act.put, List.setIfInBounds_toArray, List.set_cons_zero, List.set_cons_succ, i64_w, i32_w]
            rfl
          refine done_ (by kernel_rfl) ?_
          try go_wp2
          refine bodyPost_ret (results_list (rs := [.cell 2 23, .cell 3 25, .tmp 4]) rfl (by simp) (.cell gb211 23 #[.int .i64 t214, .int .i64 t215, .int .i64 t216] (0, 0) _ rfl (by (with_reducible repeat (first | refine blk_drewN ?_ _ | refine blk_drew ?_ | refine blk_alloc ?_ _)); refine blk_far ?_ NB211_212.out _; (with_reducible repeat (first | refine blk_drewN ?_ _ | refine blk_drew ?_ | refine blk_alloc ?_ _)); refine blk_far ?_ NB211_212.out _; (with_reducible repeat (first | refine blk_drewN ?_ _ | refine blk_drew ?_ | refine blk_alloc ?_ _)); refine blk_far ?_ NB211_212.out _; (with_reducible repeat (first | refine blk_drewN ?_ _ | refine blk_drew ?_ | refine blk_alloc ?_ _)); refine blk_far ?_ NB211_212.out _; (with_reducible repeat (first | refine blk_drewN ?_ _ | refine blk_drew ?_ | refine blk_alloc ?_ _)); refine blk_put (cs := #[.int .i64 t214, .int .i64 t215, .int .i64 0]) ?_ 2 _ rfl; (with_reducible repeat (first | refine blk_drewN ?_ _ | refine blk_drew ?_ | refine blk_alloc ?_ _)); refine blk_put (cs := #[.int .i64 t214, .int .i64 0, .int .i64 0]) ?_ 1 _ rfl; (with_reducible repeat (first | refine blk_drewN ?_ _ | refine blk_drew ?_ | refine blk_alloc ?_ _)); refine blk_put (cs := #[.int .i64 0, .int .i64 0, .int .i64 0]) ?_ 0 _ rfl; (with_reducible repeat (first | refine blk_drewN ?_ _ | refine blk_drew ?_ | refine blk_alloc ?_ _)); exact BK211.out) Try.underlying23 rfl (by kernel_rfl) (.cell gb212 25 #[.int .i64 t233, .int .i64 t234, .int .i64 t235, .int .i64 t236] (0, 0) _ rfl (by (with_reducible repeat (first | refine blk_drewN ?_ _ | refine blk_drew ?_ | refine blk_alloc ?_ _)); refine blk_put (cs := #[.int .i64 t233, .int .i64 t234, .int .i64 t235, .int .i64 x213003_1]) ?_ 3 _ rfl; (with_reducible repeat (first | refine blk_drewN ?_ _ | refine blk_drew ?_ | refine blk_alloc ?_ _)); refine blk_put (cs := #[.int .i64 t233, .int .i64 t234, .int .i64 x213002_1, .int .i64 x213003_1]) ?_ 2 _ rfl; (with_reducible repeat (first | refine blk_drewN ?_ _ | refine blk_drew ?_ | refine blk_alloc ?_ _)); refine blk_put (cs := #[.int .i64 t233, .int .i64 x213001_1, .int .i64 x213002_1, .int .i64 x213003_1]) ?_ 1 _ rfl; (with_reducible repeat (first | refine blk_drewN ?_ _ | refine blk_drew ?_ | refine blk_alloc ?_ _)); refine blk_put (cs := #[.int .i64 x213000_1, .int .i64 x213001_1, .int .i64 x213002_1, .int .i64 x213003_1]) ?_ 0 _ rfl; (with_reducible repeat (first | refine blk_drewN ?_ _ | refine blk_drew ?_ | refine blk_alloc ?_ _)); refine blk_far ?_ NB212_211.out _; (with_reducible repeat (first | refine blk_drewN ?_ _ | refine blk_drew ?_ | refine blk_alloc ?_ _)); refine blk_far ?_ NB212_211.out _; (with_reducible repeat (first | refine blk_drewN ?_ _ | refine blk_drew ?_ | refine blk_alloc ?_ _)); refine blk_far ?_ NB212_211.out _; (with_reducible repeat (first | refine blk_drewN ?_ _ | refine blk_drew ?_ | refine blk_alloc ?_ _)); exact BK212.out) Try.underlying25 rfl (by kernel_rfl) (.tmp .nil)))) rfl ?_
          exact rt HB
  · rw [if_neg c3] at H
    have c3b0 : (t213 == 0) = false := beq_eq_false_iff_ne.mpr c3
    have c3b1 : (t213 != 0) = true := bne_iff_ne.mpr c3
    simp only [Option.some.injEq, Prod.mk.injEq] at H
    obtain ⟨rfl, rfl, rfl, rfl, rfl, rfl, rfl, rfl⟩ := H
    go_enter Try.func11, Try.ntmps11
    go_wp2_with (first | ((with_reducible refine gate_dst (N := 1) rfl ?_); refine bx 1 #[.int .i64 a0_0, .int .i64 a0_1, .int .i64 a0_2] 23 fun gb210 hg w50 BK210 hb => ?_; have GW210 := gw hg HB; have GE210 := gw hg HB; replace HB := bst HB hb; clear hb hg) | ((with_reducible refine gate_dst (N := 2) rfl ?_); refine bx 2 #[.int .i64 0, .int .i64 0, .int .i64 0] 23 fun gb211 hg w51 BK211 hb => ?_; have GW211 := gw hg HB; have GE211 := gw hg HB; have NB210_211 := nlt hg BK210; have NB211_210 := ngt hg BK210; replace BK210 := bb BK210 hb; replace HB := bst HB hb; clear hb hg) | ((with_reducible refine gate_dst (N := 3) rfl ?_); refine bx 3 #[.int .i64 0, .int .i64 0, .int .i64 0, .int .i64 0] 25 fun gb212 hg w52 BK212 hb => ?_; have GW212 := gw hg HB; have GE212 := gw hg HB; have NB210_212 := nlt hg BK210; have NB212_210 := ngt hg BK210; have NB211_212 := nlt hg BK211; have NB212_211 := ngt hg BK211; replace BK210 := bb BK210 hb; replace BK211 := bb BK211 hb; replace HB := bst HB hb; clear hb hg; have hnb53 := NB210_211.out; have hnc53 := NB211_210.out; have hnb54 := NB210_212.out; have hnc54 := NB212_210.out; have ⟨hcz55_0, hcz55_1, hcz55_2, hfz55_0, hfz55_1, hfz55_2⟩ := cf3 BK210) | ((with_reducible refine gate_callee (f := 14) rfl ?_); refine gl 11 Try.func14 (grids_Check.calls k a0_0 a0_1 a0_2 t213 _ A2.out) ?_; rintro e w56 ⟨rfl, hb⟩; refine ⟨_, rfl, ?_⟩; replace BK210 := bb BK210 hb; replace BK211 := bb BK211 hb; replace BK212 := bb BK212 hb; replace HB := bst HB hb; clear hb; have hnb57 := NB211_212.out; have hnc57 := NB212_211.out; have ⟨hcz58_0, hcz58_1, hcz58_2, hfz58_0, hfz58_1, hfz58_2⟩ := cf3 BK211) | ((with_reducible refine gate_store (t := 23) (p := 2) rfl ?_); refine sx 23 2 ((((w56.setCell ⟨gb211, 0, none⟩ (.int .i64 0)).setCell ⟨gb211, 1, none⟩ (.int .i64 0)).setCell ⟨gb211, 2, none⟩ (.int .i64 0))) fun w59 hw => ?_; replace BK210 := fw hw BK210; replace BK211 := pw3 hw BK211; replace BK212 := fw hw BK212; replace HB := bw hw HB; clear hw; have ⟨hcz60_0, hcz60_1, hcz60_2, hcz60_3, hfz60_0, hfz60_1, hfz60_2, hfz60_3⟩ := cf4 BK212) | ((with_reducible refine gate_store (t := 25) (p := 3) rfl ?_); refine sx 25 3 (((((w59.setCell ⟨gb212, 0, none⟩ (.int .i64 0)).setCell ⟨gb212, 1, none⟩ (.int .i64 0)).setCell ⟨gb212, 2, none⟩ (.int .i64 0)).setCell ⟨gb212, 3, none⟩ (.int .i64 0))) fun w61 hw => ?_; replace BK210 := fw hw BK210; replace BK211 := fw hw BK211; replace BK212 := pw4 hw BK212; replace HB := bw hw HB; clear hw))
    refine bodyPost_ret (results_list (rs := [.cell 2 23, .cell 3 25, .tmp 4]) rfl (by simp) (.cell gb211 23 #[.int .i64 0, .int .i64 0, .int .i64 0] (0, 0) _ rfl (pk BK211) Try.underlying23 rfl (by kernel_rfl) (.cell gb212 25 #[.int .i64 0, .int .i64 0, .int .i64 0, .int .i64 0] (0, 0) _ rfl (pk BK212) Try.underlying25 rfl (by kernel_rfl) (.tmp .nil)))) rfl ?_
    exact rt HB
end
section
/-! ### torchonref06_from: function 47 -/
def torchonref06_from.f (a0 : Int) (a1 : Int) (a2 : Int) : Option (Bool) := if a0 ≥ a1 then (some (decide (a0 ≤ a2))) else (some false)
set_option maxHeartbeats 8000000 in
set_option maxRecDepth 100000 in
theorem torchonref06_from.calls (a0 : Int) (a1 : Int) (a2 : Int) (r : Bool) (w : World) (h : torchonref06_from.f a0 a1 a2 = some r) :
    Calls Try.prog 47 #[.int .i64 a0, .int .i64 a1, .int .i64 a2] w fun e w' => e = .returned (.bool r) ∧ Drawn0 w w' := by
  have H : (if a0 ≥ a1 then (some (decide (a0 ≤ a2))) else (some false)) = some r := h
  clear h
  by_cases c4 : a0 ≥ a1
  · rw [if_pos c4] at H
    have c4b0 : decide (a1 ≤ a0) = true := decide_eq_true c4
    clear c4
    obtain rfl := Option.some.inj H
    go_enter Try.func47, Try.ntmps47
    go_wp2
    go_ret
    exact ⟨by first | rfl | (simp; done) | (simp [*]; done), by repeat (first | exact Drawn0.refl _ | apply Drawn0.step)⟩
  · rw [if_neg c4] at H
    have c4b0 : decide (a1 ≤ a0) = false := decide_eq_false c4
    clear c4
    obtain rfl := Option.some.inj H
    go_enter Try.func47, Try.ntmps47
    go_wp2
    go_ret
    exact ⟨by first | rfl | (simp; done) | (simp [*]; done), by repeat (first | exact Drawn0.refl _ | apply Drawn0.step)⟩
end
section
/-! ### torchonref06_Det: function 72 -/
def torchonref06_Det.f (a0_0 : Int) (a0_1 : Int) (a0_2 : Int) : Option (Int) := (some (wrap64 (a0_0 * a0_2))).bind fun z238 => ((some (wrap64 (a0_1 * a0_1))).bind fun z239 => ((some (wrap64 (z238 - z239))).bind fun z240 => (some z240)))
set_option maxHeartbeats 8000000 in
set_option maxRecDepth 100000 in
theorem torchonref06_Det.calls (a0_0 : Int) (a0_1 : Int) (a0_2 : Int) (r : Int) (w : World) (h : torchonref06_Det.f a0_0 a0_1 a0_2 = some r) :
    Calls Try.prog 72 #[.agg #[.int .i64 a0_0, .int .i64 a0_1, .int .i64 a0_2]] w fun e w' => e = .returned (.int .i64 r) ∧ Below w.heap.size w w' := by
  have hu23 := Try.underlying23
  have HB := Aside0.mk (Below.refl w.heap.size w)
  have H : ((some (wrap64 (a0_0 * a0_2))).bind fun z238 => ((some (wrap64 (a0_1 * a0_1))).bind fun z239 => ((some (wrap64 (z238 - z239))).bind fun z240 => (some z240)))) = some r := h
  clear h
  obtain ⟨z238, E20, H⟩ := oc H
  have E2w : (IntKind.i64.wrap (a0_0 * a0_2)) = z238 := (i64_w _).trans E20
  obtain ⟨z239, E30, H⟩ := oc H
  have E3w : (IntKind.i64.wrap (a0_1 * a0_1)) = z239 := (i64_w _).trans E30
  obtain ⟨z240, E40, H⟩ := oc H
  have E4w : (IntKind.i64.wrap (z238 - z239)) = z240 := (i64_w _).trans E40
  obtain rfl := Option.some.inj H
  go_enter Try.func72, Try.ntmps72
  go_wp2_with (first | ((with_reducible refine gate_dst (N := 1) rfl ?_); refine bx 1 #[.int .i64 a0_0, .int .i64 a0_1, .int .i64 a0_2] 23 fun gb237 hg w5 BK237 hb => ?_; have GW237 := gw hg HB; have GE237 := gw hg HB; replace HB := bst HB hb; clear hb hg; have ⟨hcz6_0, hcz6_1, hcz6_2, hfz6_0, hfz6_1, hfz6_2⟩ := cf3 BK237))
  go_ret
  exact rt HB
end
section
/-! ### torchonref06_Check: function 43 -/
def torchonref06_Check.j0 : Nat → Bool → Option (Int)
  | 0, _ => none
  | k + 1, x23 => if x23 = true then (some 2) else (some 0)
def torchonref06_Check.f (k : Nat) (a0_0 : Int) (a0_1 : Int) (a0_2 : Int) : Option (Int) := (torchonref06_from.f a0_0 1 10000).bind fun t242 => (if t242 = true then ((torchonref06_from.f a0_2 1 10000).bind fun t243 => (if t243 = true then ((torchonref06_from.f a0_1 (-10000) 10000).bind fun t244 => (if t244 = true then ((torchonref06_Det.f a0_0 a0_1 a0_2).bind fun t245 => (torchonref06_Check.j0 k (decide (t245 < 1)))) else (torchonref06_Check.j0 k true))) else (torchonref06_Check.j0 k true))) else (torchonref06_Check.j0 k true))
theorem torchonref06_Check.mono_l : ∀ k, (∀ y0, LeO (torchonref06_Check.j0 k y0) (torchonref06_Check.j0 (k + 1) y0))
  | 0 => fun _ r h => by simp [torchonref06_Check.j0] at h
  | k + 1 => by
    have ih0 := torchonref06_Check.mono_l k
    · intro y0
      unfold torchonref06_Check.j0
      repeat' first
      | (with_reducible exact ih0 _)
      | (with_reducible exact LeO.refl _)
      | (with_reducible exact LeO.none _)
      | (with_reducible refine LeO.ite ?_ ?_)
      | (with_reducible refine LeO.bind ?_ (fun _ => ?_))
      | exact ih0 _
      | exact LeO.none _
      | refine LeO.ite ?_ ?_
      | refine LeO.bind ?_ (fun _ => ?_)
theorem torchonref06_Check.mono : ∀ a0 a1 a2 k, LeO (torchonref06_Check.f k a0 a1 a2) (torchonref06_Check.f (k + 1) a0 a1 a2) := by
  intro a0 a1 a2 k
  have ih0 := torchonref06_Check.mono_l k
  unfold torchonref06_Check.f
  repeat' first
      | (with_reducible exact ih0 _)
      | (with_reducible exact LeO.refl _)
      | (with_reducible exact LeO.none _)
      | (with_reducible refine LeO.ite ?_ ?_)
      | (with_reducible refine LeO.bind ?_ (fun _ => ?_))
      | exact ih0 _
      | exact LeO.none _
      | refine LeO.ite ?_ ?_
      | refine LeO.bind ?_ (fun _ => ?_)
set_option maxHeartbeats 8000000 in
set_option maxRecDepth 100000 in
theorem torchonref06_Check.calls (k : Nat) (a0_0 : Int) (a0_1 : Int) (a0_2 : Int) (r : Int) (w : World) (h : torchonref06_Check.f k a0_0 a0_1 a0_2 = some r) :
    Calls Try.prog 43 #[.agg #[.int .i64 a0_0, .int .i64 a0_1, .int .i64 a0_2]] w fun e w' => e = .returned (.int .i64 r) ∧ Below w.heap.size w w' := by
  have hu23 := Try.underlying23
  have HB := Aside0.mk (Below.refl w.heap.size w)
  have H : ((torchonref06_from.f a0_0 1 10000).bind fun t242 => (if t242 = true then ((torchonref06_from.f a0_2 1 10000).bind fun t243 => (if t243 = true then ((torchonref06_from.f a0_1 (-10000) 10000).bind fun t244 => (if t244 = true then ((torchonref06_Det.f a0_0 a0_1 a0_2).bind fun t245 => (torchonref06_Check.j0 k (decide (t245 < 1)))) else (torchonref06_Check.j0 k true))) else (torchonref06_Check.j0 k true))) else (torchonref06_Check.j0 k true))) = some r := h
  clear h
  have HC2 := Aside0.mk H
  clear H
  go_enter Try.func43, Try.ntmps43
  go_upto_region 1 with (first | ((with_reducible refine gate_dst (N := 1) rfl ?_); refine bx 1 #[.int .i64 a0_0, .int .i64 a0_1, .int .i64 a0_2] 23 fun gb241 hg w3 BK241 hb => ?_; have GW241 := gw hg HB; have GE241 := gw hg HB; replace HB := bst HB hb; clear hb hg))
  (try simp only [Act.put, List.setIfInBounds_toArray, List.set_cons_zero, List.set_cons_succ])
  go_cut [23] (fun v23 wc => ∃ (kq : Nat) (x23_1 : Bool), v23 = .bool x23_1 ∧ Aside0 (torchonref06_Check.j0 kq x23_1 = some r) ∧ Aside0 (kq ≤ k) ∧ Aside0 (wc.heap[gb241]? = some (.cells #[.int .i64 a0_0, .int .i64 a0_1, .int .i64 a0_2] 23 (0, 0))) ∧ Aside0 (Below w.heap.size w wc))
  case first =>
    have H := HC2.out
    clear HC2
    obtain ⟨t242, A4, H⟩ := ob H
    by_cases c5 : t242 = true
    · subst c5
      have H1 : ((torchonref06_from.f a0_2 1 10000).bind fun t243 => (if t243 = true then ((torchonref06_from.f a0_1 (-10000) 10000).bind fun t244 => (if t244 = true then ((torchonref06_Det.f a0_0 a0_1 a0_2).bind fun t245 => (torchonref06_Check.j0 k (decide (t245 < 1)))) else (torchonref06_Check.j0 k true))) else (torchonref06_Check.j0 k true))) = some r := by rw [if_pos rfl] at H; exact H
      clear H
      have H := H1
      clear H1
      obtain ⟨t243, A6, H⟩ := ob H
      by_cases c7 : t243 = true
      · subst c7
        have H1 : ((torchonref06_from.f a0_1 (-10000) 10000).bind fun t244 => (if t244 = true then ((torchonref06_Det.f a0_0 a0_1 a0_2).bind fun t245 => (torchonref06_Check.j0 k (decide (t245 < 1)))) else (torchonref06_Check.j0 k true))) = some r := by rw [if_pos rfl] at H; exact H
        clear H
        have H := H1
        clear H1
        obtain ⟨t244, A8, H⟩ := ob H
        by_cases c9 : t244 = true
        · subst c9
          have H1 : ((torchonref06_Det.f a0_0 a0_1 a0_2).bind fun t245 => (torchonref06_Check.j0 k (decide (t245 < 1)))) = some r := by rw [if_pos rfl] at H; exact H
          clear H
          have H := H1
          clear H1
          obtain ⟨t245, A10, H⟩ := ob H
          have H' := Aside0.mk H
          clear H
          have ⟨hcz11_0, hcz11_1, hcz11_2, hfz11_0, hfz11_1, hfz11_2⟩ := cf3 BK241
          go_wp2_with (first | ((with_reducible refine gate_callee (f := 47) rfl ?_); refine goesL_ (some 5) rfl rfl Try.func47 (by kernel_rfl) rfl #[.int .i64 a0_0, .int .i64 1, .int .i64 10000] rfl am ?_; (with_reducible refine (torchonref06_from.calls a0_0 1 10000 true _ A4.out).mono ?_); rintro e w' ⟨rfl, ⟨nd, rfl⟩⟩; refine ⟨_, rfl, ?_⟩) | (go_at_call 47; (with_reducible refine (torchonref06_from.calls a0_2 1 10000 true _ A6.out).mono ?_); rintro e w' ⟨rfl, ⟨nd, rfl⟩⟩) | (go_at_call 47; (with_reducible refine (torchonref06_from.calls a0_1 (-10000) 10000 true _ A8.out).mono ?_); rintro e w' ⟨rfl, ⟨nd, rfl⟩⟩) | (go_at_call 72; (with_reducible refine (torchonref06_Det.calls a0_0 a0_1 a0_2 t245 _ A10.out).mono ?_); rintro e w12 ⟨rfl, hb⟩; replace BK241 := bb BK241 hb; replace HB := bst HB hb; clear hb))
          go_meet
          case rel => exact ⟨_, (decide (t245 < 1)), (by first | rfl | (simp; done) | (simp [*]; done)), H', ⟨by first | omega | exact Nat.le_refl _⟩, ⟨pk BK241⟩, ⟨bnow HB⟩⟩
        · replace c9 := Bool.eq_false_iff.mpr c9
          subst c9
          have H1 : (torchonref06_Check.j0 k true) = some r := by rw [if_neg (show ¬ (false = true) by decide)] at H; exact H
          clear H
          have H := H1
          clear H1
          have H' := Aside0.mk H
          clear H
          have ⟨hcz13_0, hcz13_1, hcz13_2, hfz13_0, hfz13_1, hfz13_2⟩ := cf3 BK241
          go_wp2_with (first | ((with_reducible refine gate_callee (f := 47) rfl ?_); refine goesL_ (some 5) rfl rfl Try.func47 (by kernel_rfl) rfl #[.int .i64 a0_0, .int .i64 1, .int .i64 10000] rfl am ?_; (with_reducible refine (torchonref06_from.calls a0_0 1 10000 true _ A4.out).mono ?_); rintro e w' ⟨rfl, ⟨nd, rfl⟩⟩; refine ⟨_, rfl, ?_⟩) | (go_at_call 47; (with_reducible refine (torchonref06_from.calls a0_2 1 10000 true _ A6.out).mono ?_); rintro e w' ⟨rfl, ⟨nd, rfl⟩⟩) | (go_at_call 47; (with_reducible refine (torchonref06_from.calls a0_1 (-10000) 10000 false _ A8.out).mono ?_); rintro e w' ⟨rfl, ⟨nd, rfl⟩⟩))
          go_meet
          case rel => exact ⟨_, (true), (by first | rfl | (simp; done) | (simp [*]; done)), H', ⟨by first | omega | exact Nat.le_refl _⟩, ⟨pk BK241⟩, ⟨bnow HB⟩⟩
      · replace c7 := Bool.eq_false_iff.mpr c7
        subst c7
        have H1 : (torchonref06_Check.j0 k true) = some r := by rw [if_neg (show ¬ (false = true) by decide)] at H; exact H
        clear H
        have H := H1
        clear H1
        have H' := Aside0.mk H
        clear H
        have ⟨hcz14_0, hcz14_1, hcz14_2, hfz14_0, hfz14_1, hfz14_2⟩ := cf3 BK241
        go_wp2_with (first | ((with_reducible refine gate_callee (f := 47) rfl ?_); refine goesL_ (some 5) rfl rfl Try.func47 (by kernel_rfl) rfl #[.int .i64 a0_0, .int .i64 1, .int .i64 10000] rfl am ?_; (with_reducible refine (torchonref06_from.calls a0_0 1 10000 true _ A4.out).mono ?_); rintro e w' ⟨rfl, ⟨nd, rfl⟩⟩; refine ⟨_, rfl, ?_⟩) | (go_at_call 47; (with_reducible refine (torchonref06_from.calls a0_2 1 10000 false _ A6.out).mono ?_); rintro e w' ⟨rfl, ⟨nd, rfl⟩⟩))
        go_meet
        case rel => exact ⟨_, (true), (by first | rfl | (simp; done) | (simp [*]; done)), H', ⟨by first | omega | exact Nat.le_refl _⟩, ⟨pk BK241⟩, ⟨bnow HB⟩⟩
    · replace c5 := Bool.eq_false_iff.mpr c5
      subst c5
      have H1 : (torchonref06_Check.j0 k true) = some r := by rw [if_neg (show ¬ (false = true) by decide)] at H; exact H
      clear H
      have H := H1
      clear H1
      have H' := Aside0.mk H
      clear H
      have ⟨hcz15_0, hcz15_1, hcz15_2, hfz15_0, hfz15_1, hfz15_2⟩ := cf3 BK241
      go_wp2_with (first | ((with_reducible refine gate_callee (f := 47) rfl ?_); refine goesL_ (some 5) rfl rfl Try.func47 (by kernel_rfl) rfl #[.int .i64 a0_0, .int .i64 1, .int .i64 10000] rfl am ?_; (with_reducible refine (torchonref06_from.calls a0_0 1 10000 false _ A4.out).mono ?_); rintro e w' ⟨rfl, ⟨nd, rfl⟩⟩; refine ⟨_, rfl, ?_⟩))
      go_meet
      case rel => exact ⟨_, (true), (by first | rfl | (simp; done) | (simp [*]; done)), H', ⟨by first | omega | exact Nat.le_refl _⟩, ⟨pk BK241⟩, ⟨bnow HB⟩⟩
  case rest =>
    clear HC2
    try clear p2; try clear c4; try clear c5; try clear c7; try clear c9; try clear hcz11_0; try clear hcz11_1; try clear hcz11_2; try clear hcz13_0; try clear hcz13_1; try clear hcz13_2; try clear hcz14_0; try clear hcz14_1; try clear hcz14_2; try clear hcz15_0; try clear hcz15_1; try clear hcz15_2; try clear hfz11_0; try clear hfz11_1; try clear hfz11_2; try clear hfz13_0; try clear hfz13_1; try clear hfz13_2; try clear hfz14_0; try clear hfz14_1; try clear hfz14_2; try clear hfz15_0; try clear hfz15_1; try clear hfz15_2
    obtain ⟨kq, x23_1, rfl, HA, HJ1, BK241, HB⟩ := hcut
    cases kq with
    | zero => exact absurd HA.out (by simp [torchonref06_Check.j0])
    | succ kj1 =>
      have H := HA.out
      clear HA
      simp only [torchonref06_Check.j0] at H
      by_cases c16 : x23_1 = true
      · subst c16
        have H1 : (some 2) = some r := by rw [if_pos rfl] at H; exact H
        clear H
        have H := H1
        clear H1
        obtain rfl := Option.some.inj H
        go_wp2
        go_ret
        exact rt HB
      · replace c16 := Bool.eq_false_iff.mpr c16
        subst c16
        have H1 : (some 0) = some r := by rw [if_neg (show ¬ (false = true) by decide)] at H; exact H
        clear H
        have H := H1
        clear H1
        obtain rfl := Option.some.inj H
        go_wp2
        go_ret
        exact rt HB
end
section
/-! ### torchonref06_Reduced: function 44 -/
mutual
def torchonref06_Reduced.l0 : Nat → Int → Int → Int → Option (Int × Int × Int)
  | 0, _, _, _ => none
  | k + 1, x247000, x247001, x247002 => if x247001 ≥ 0 then ((some (wrap64 (2 * x247001))).bind fun z248 => (if z248 ≤ x247000 then (torchonref06_Reduced.j1 k (!(decide (x247000 ≤ x247002))) x247000 x247001 x247002) else (torchonref06_Reduced.j1 k (!false) x247000 x247001 x247002))) else (torchonref06_Reduced.j1 k (!false) x247000 x247001 x247002)
def torchonref06_Reduced.j1 : Nat → Bool → Int → Int → Int → Option (Int × Int × Int)
  | 0, _, _, _, _ => none
  | k + 1, x21, x247000, x247001, x247002 => if x21 = true then (if x247000 > x247002 then (torchonref06_Reduced.l0 k x247002 x247001 x247000) else (if x247001 < 0 then ((some (wrap64 (-x247001))).bind fun z249 => (torchonref06_Reduced.l0 k x247000 z249 x247002)) else ((some (wrap64 (2 * x247001))).bind fun z250 => ((some (wrap64 (x247002 - z250))).bind fun z251 => ((some (wrap64 (z251 + x247000))).bind fun z252 => ((some (wrap64 (x247001 - x247000))).bind fun z253 => (torchonref06_Reduced.l0 k x247000 z253 z252))))))) else (some (x247000, x247001, x247002))
end
def torchonref06_Reduced.f (k : Nat) (a0_0 : Int) (a0_1 : Int) (a0_2 : Int) : Option (Int × Int × Int) := torchonref06_Reduced.l0 k a0_0 a0_1 a0_2
theorem torchonref06_Reduced.mono_l : ∀ k, (∀ y0 y1 y2, LeO (torchonref06_Reduced.l0 k y0 y1 y2) (torchonref06_Reduced.l0 (k + 1) y0 y1 y2)) ∧ (∀ y0 y1 y2 y3, LeO (torchonref06_Reduced.j1 k y0 y1 y2 y3) (torchonref06_Reduced.j1 (k + 1) y0 y1 y2 y3))
  | 0 => ⟨fun _ _ _ r h => by simp [torchonref06_Reduced.l0] at h, fun _ _ _ _ r h => by simp [torchonref06_Reduced.j1] at h⟩
  | k + 1 => by
    obtain ⟨ih0, ih1⟩ := torchonref06_Reduced.mono_l k
    refine ⟨?_, ?_⟩
    · intro y0 y1 y2
      unfold torchonref06_Reduced.l0
      repeat' first
      | (with_reducible exact ih0 _ _ _)
      | (with_reducible exact ih1 _ _ _ _)
      | (with_reducible exact LeO.refl _)
      | (with_reducible exact LeO.none _)
      | (with_reducible refine LeO.ite ?_ ?_)
      | (with_reducible refine LeO.bind ?_ (fun _ => ?_))
      | exact ih0 _ _ _
      | exact ih1 _ _ _ _
      | exact LeO.none _
      | refine LeO.ite ?_ ?_
      | refine LeO.bind ?_ (fun _ => ?_)
    · intro y0 y1 y2 y3
      unfold torchonref06_Reduced.j1
      repeat' first
      | (with_reducible exact ih0 _ _ _)
      | (with_reducible exact ih1 _ _ _ _)
      | (with_reducible exact LeO.refl _)
      | (with_reducible exact LeO.none _)
      | (with_reducible refine LeO.ite ?_ ?_)
      | (with_reducible refine LeO.bind ?_ (fun _ => ?_))
      | exact ih0 _ _ _
      | exact ih1 _ _ _ _
      | exact LeO.none _
      | refine LeO.ite ?_ ?_
      | refine LeO.bind ?_ (fun _ => ?_)
theorem torchonref06_Reduced.mono : ∀ a0 a1 a2 k, LeO (torchonref06_Reduced.f k a0 a1 a2) (torchonref06_Reduced.f (k + 1) a0 a1 a2) := by
  intro a0 a1 a2 k
  obtain ⟨ih0, ih1⟩ := torchonref06_Reduced.mono_l k
  unfold torchonref06_Reduced.f
  repeat' first
      | (with_reducible exact ih0 _ _ _)
      | (with_reducible exact ih1 _ _ _ _)
      | (with_reducible exact LeO.refl _)
      | (with_reducible exact LeO.none _)
      | (with_reducible refine LeO.ite ?_ ?_)
      | (with_reducible refine LeO.bind ?_ (fun _ => ?_))
      | exact ih0 _ _ _
      | exact ih1 _ _ _ _
      | exact LeO.none _
      | refine LeO.ite ?_ ?_
      | refine LeO.bind ?_ (fun _ => ?_)
set_option maxHeartbeats 8000000 in
set_option maxRecDepth 100000 in
theorem torchonref06_Reduced.calls (k : Nat) (a0_0 : Int) (a0_1 : Int) (a0_2 : Int) (r1 : Int) (r2 : Int) (r3 : Int) (w : World) (h : torchonref06_Reduced.f k a0_0 a0_1 a0_2 = some (r1, r2, r3)) :
    Calls Try.prog 44 #[.agg #[.int .i64 a0_0, .int .i64 a0_1, .int .i64 a0_2]] w fun e w' => e = .returned (.agg #[.int .i64 r1, .int .i64 r2, .int .i64 r3]) ∧ Below w.heap.size w w' := by
  have hu23 := Try.underlying23
  have HB := Aside0.mk (Below.refl w.heap.size w)
  have H : (torchonref06_Reduced.l0 k a0_0 a0_1 a0_2) = some (r1, r2, r3) := h
  clear h
  have H' := Aside0.mk H
  clear H
  go_enter Try.func44, Try.ntmps44
  go_wp2_with (first | ((with_reducible refine gate_dst (N := 1) rfl ?_); refine bx 1 #[.int .i64 a0_0, .int .i64 a0_1, .int .i64 a0_2] 23 fun gb246 hg w2 BK246 hb => ?_; have GW246 := gw hg HB; have GE246 := gw hg HB; replace HB := bst HB hb; clear hb hg) | ((with_reducible refine gate_dst (N := 2) rfl ?_); refine bx 2 #[.int .i64 0, .int .i64 0, .int .i64 0] 23 fun gb247 hg w3 BK247 hb => ?_; have GW247 := gw hg HB; have GE247 := gw hg HB; have NB246_247 := nlt hg BK246; have NB247_246 := ngt hg BK246; replace BK246 := bb BK246 hb; replace HB := bst HB hb; clear hb hg))
  (try simp only [Act.put, List.setIfInBounds_toArray, List.set_cons_zero, List.set_cons_succ])
  go_loopg [] k (fun kq w' => ∃ (x247000_1 : Int) (x247001_1 : Int) (x247002_1 : Int), Aside0 (torchonref06_Reduced.l0 kq x247000_1 x247001_1 x247002_1 = some (r1, r2, r3)) ∧ Aside0 (kq ≤ k) ∧ Aside0 (w'.heap[gb246]? = some (.cells #[.int .i64 x247000_1, .int .i64 x247001_1, .int .i64 x247002_1] 23 (0, 0))) ∧ Aside0 (w'.heap[gb247]? = some (.cells #[.int .i64 0, .int .i64 0, .int .i64 0] 23 (0, 0))) ∧ Aside0 (Below w.heap.size w w'))
  case atStart => exact ⟨(a0_0), (a0_1), (a0_2), H', ⟨Nat.le_refl _⟩, ⟨pk BK246⟩, ⟨pk BK247⟩, ⟨bnow HB⟩⟩
  case round =>
    clear H'
    try clear p2
    obtain ⟨x247000_1, x247001_1, x247002_1, HA, HK1, BK246, BK247, HB⟩ := hrel
    cases gk with
    | zero => exact absurd HA.out (by simp [torchonref06_Reduced.l0])
    | succ k1 =>
      have H := HA.out
      clear HA
      simp only [torchonref06_Reduced.l0] at H
      have HC4 := Aside0.mk H
      clear H
      go_upto_region 1 with (fail)
      go_cut [21] (fun v21 wc => ∃ (kq : Nat) (x21_3 : Bool), v21 = .bool x21_3 ∧ Aside0 (torchonref06_Reduced.j1 kq x21_3 x247000_1 x247001_1 x247002_1 = some (r1, r2, r3)) ∧ Aside0 (kq ≤ k1) ∧ Aside0 (wc.heap[gb246]? = some (.cells #[.int .i64 x247000_1, .int .i64 x247001_1, .int .i64 x247002_1] 23 (0, 0))) ∧ Aside0 (wc.heap[gb247]? = some (.cells #[.int .i64 0, .int .i64 0, .int .i64 0] 23 (0, 0))) ∧ Aside0 (Below w.heap.size w wc))
      case first =>
        have H := HC4.out
        clear HC4
        by_cases c5 : x247001_1 ≥ 0
        · rw [if_pos c5] at H
          have c5b0 : decide (0 ≤ x247001_1) = true := decide_eq_true c5
          clear c5
          (first | rw [c5b0] | (simp only [i64_w, i32_w]; rw [c5b0]) | skip)
          obtain ⟨z248, E60, H⟩ := oc H
          have E6w : (IntKind.i64.wrap (2 * x247001_1)) = z248 := (i64_w _).trans E60
          by_cases c7 : z248 ≤ x247000_1
          · rw [if_pos c7] at H
            have c7b0 : decide (z248 ≤ x247000_1) = true := decide_eq_true c7
            clear c7
            have H' := Aside0.mk H
            clear H
            have hnb8 := NB246_247.out
            have hnc8 := NB247_246.out
            have ⟨hcz9_0, hcz9_1, hcz9_2, hfz9_0, hfz9_1, hfz9_2⟩ := cf3 BK246
            go_wp2
            go_meet
            case rel => exact ⟨_, (!(decide (x247000_1 ≤ x247002_1))), (by first | rfl | (simp; done) | (simp [*]; done)), H', ⟨by have := HK1.out; first | omega | exact Nat.le_refl _⟩, ⟨pk BK246⟩, ⟨pk BK247⟩, ⟨bnow HB⟩⟩
          · rw [if_neg c7] at H
            have c7b0 : decide (z248 ≤ x247000_1) = false := decide_eq_false c7
            clear c7
            have H' := Aside0.mk H
            clear H
            have hnb10 := NB246_247.out
            have hnc10 := NB247_246.out
            have ⟨hcz11_0, hcz11_1, hcz11_2, hfz11_0, hfz11_1, hfz11_2⟩ := cf3 BK246
            go_wp2
            go_meet
            case rel => exact ⟨_, (!false), (by first | rfl | (simp; done) | (simp [*]; done)), H', ⟨by have := HK1.out; first | omega | exact Nat.le_refl _⟩, ⟨pk BK246⟩, ⟨pk BK247⟩, ⟨bnow HB⟩⟩
        · rw [if_neg c5] at H
          have c5b0 : decide (0 ≤ x247001_1) = false := decide_eq_false c5
          clear c5
          (first | rw [c5b0] | (simp only [i64_w, i32_w]; rw [c5b0]) | skip)
          have H' := Aside0.mk H
          clear H
          have hnb12 := NB246_247.out
          have hnc12 := NB247_246.out
          have ⟨hcz13_0, hcz13_1, hcz13_2, hfz13_0, hfz13_1, hfz13_2⟩ := cf3 BK246
          go_wp2
          go_meet
          case rel => exact ⟨_, (!false), (by first | rfl | (simp; done) | (simp [*]; done)), H', ⟨by have := HK1.out; first | omega | exact Nat.le_refl _⟩, ⟨pk BK246⟩, ⟨pk BK247⟩, ⟨bnow HB⟩⟩
      case rest =>
        clear HC4
        try clear c1; try clear p2; try clear c4; try clear c5; try clear c5b0; try clear c7; try clear c7b0; try clear c8; try clear c10; try clear c12; try clear hcz11_0; try clear hcz11_1; try clear hcz11_2; try clear hcz13_0; try clear hcz13_1; try clear hcz13_2; try clear hcz9_0; try clear hcz9_1; try clear hcz9_2; try clear hfz11_0; try clear hfz11_1; try clear hfz11_2; try clear hfz13_0; try clear hfz13_1; try clear hfz13_2; try clear hfz9_0; try clear hfz9_1; try clear hfz9_2; try clear p2
        obtain ⟨kq, x21_3, rfl, HA, HJ3, BK246, BK247, HB⟩ := hcut
        cases kq with
        | zero => exact absurd HA.out (by simp [torchonref06_Reduced.j1])
        | succ kj3 =>
          have H := HA.out
          clear HA
          simp only [torchonref06_Reduced.j1] at H
          by_cases c14 : x21_3 = true
          · subst c14
            have H1 : (if x247000_1 > x247002_1 then (torchonref06_Reduced.l0 kj3 x247002_1 x247001_1 x247000_1) else (if x247001_1 < 0 then ((some (wrap64 (-x247001_1))).bind fun z249 => (torchonref06_Reduced.l0 kj3 x247000_1 z249 x247002_1)) else ((some (wrap64 (2 * x247001_1))).bind fun z250 => ((some (wrap64 (x247002_1 - z250))).bind fun z251 => ((some (wrap64 (z251 + x247000_1))).bind fun z252 => ((some (wrap64 (x247001_1 - x247000_1))).bind fun z253 => (torchonref06_Reduced.l0 kj3 x247000_1 z253 z252))))))) = some (r1, r2, r3) := by rw [if_pos rfl] at H; exact H
            clear H
            have H := H1
            clear H1
            by_cases c15 : x247000_1 > x247002_1
            · rw [if_pos c15] at H
              have c15b0 : decide (x247002_1 < x247000_1) = true := decide_eq_true c15
              clear c15
              have H' := Aside0.mk H
              clear H
              have hnb16 := NB246_247.out
              have hnc16 := NB247_246.out
              have ⟨hcz17_0, hcz17_1, hcz17_2, hfz17_0, hfz17_1, hfz17_2⟩ := cf3 BK246
              go_wp2
              go_roundg kj3
              case measure => have := HK1.out; have := HJ3.out; omega
              case rel => exact ⟨(x247002_1), (x247001_1), (x247000_1), H', ⟨by have := HK1.out; have := HJ3.out; omega⟩, ⟨by (with_reducible repeat (first | refine blk_drewN ?_ _ | refine blk_drew ?_ | refine blk_alloc ?_ _)); refine blk_put (cs := #[.int .i64 x247002_1, .int .i64 x247001_1, .int .i64 x247002_1]) ?_ 2 _ rfl; (with_reducible repeat (first | refine blk_drewN ?_ _ | refine blk_drew ?_ | refine blk_alloc ?_ _)); refine blk_put (cs := #[.int .i64 x247000_1, .int .i64 x247001_1, .int .i64 x247002_1]) ?_ 0 _ rfl; (with_reducible repeat (first | refine blk_drewN ?_ _ | refine blk_drew ?_ | refine blk_alloc ?_ _)); exact BK246.out⟩, ⟨by (with_reducible repeat (first | refine blk_drewN ?_ _ | refine blk_drew ?_ | refine blk_alloc ?_ _)); refine blk_far ?_ NB247_246.out _; (with_reducible repeat (first | refine blk_drewN ?_ _ | refine blk_drew ?_ | refine blk_alloc ?_ _)); refine blk_far ?_ NB247_246.out _; (with_reducible repeat (first | refine blk_drewN ?_ _ | refine blk_drew ?_ | refine blk_alloc ?_ _)); exact BK247.out⟩, ⟨bnow HB⟩⟩
            · rw [if_neg c15] at H
              have c15b0 : decide (x247002_1 < x247000_1) = false := decide_eq_false c15
              clear c15
              by_cases c18 : x247001_1 < 0
              · rw [if_pos c18] at H
                have c18b0 : decide (x247001_1 < 0) = true := decide_eq_true c18
                clear c18
                obtain ⟨z249, E190, H⟩ := oc H
                have E19w : (IntKind.i64.wrap (-x247001_1)) = z249 := (i64_w _).trans E190
                have H' := Aside0.mk H
                clear H
                have hnb20 := NB246_247.out
                have hnc20 := NB247_246.out
                have ⟨hcz21_0, hcz21_1, hcz21_2, hfz21_0, hfz21_1, hfz21_2⟩ := cf3 BK246
                go_wp2
                go_roundg kj3
                case measure => have := HK1.out; have := HJ3.out; omega
                case rel => exact ⟨(x247000_1), (z249), (x247002_1), H', ⟨by have := HK1.out; have := HJ3.out; omega⟩, ⟨by (with_reducible repeat (first | refine blk_drewN ?_ _ | refine blk_drew ?_ | refine blk_alloc ?_ _)); refine blk_put (cs := #[.int .i64 x247000_1, .int .i64 x247001_1, .int .i64 x247002_1]) ?_ 1 _ rfl; (with_reducible repeat (first | refine blk_drewN ?_ _ | refine blk_drew ?_ | refine blk_alloc ?_ _)); exact BK246.out⟩, ⟨by (with_reducible repeat (first | refine blk_drewN ?_ _ | refine blk_drew ?_ | refine blk_alloc ?_ _)); refine blk_far ?_ NB247_246.out _; (with_reducible repeat (first | refine blk_drewN ?_ _ | refine blk_drew ?_ | refine blk_alloc ?_ _)); exact BK247.out⟩, ⟨bnow HB⟩⟩
              · rw [if_neg c18] at H
                have c18b0 : decide (x247001_1 < 0) = false := decide_eq_false c18
                clear c18
                obtain ⟨z250, E220, H⟩ := oc H
                have E22w : (IntKind.i64.wrap (2 * x247001_1)) = z250 := (i64_w _).trans E220
                obtain ⟨z251, E230, H⟩ := oc H
                have E23w : (IntKind.i64.wrap (x247002_1 - z250)) = z251 := (i64_w _).trans E230
                obtain ⟨z252, E240, H⟩ := oc H
                have E24w : (IntKind.i64.wrap (z251 + x247000_1)) = z252 := (i64_w _).trans E240
                obtain ⟨z253, E250, H⟩ := oc H
                have E25w : (IntKind.i64.wrap (x247001_1 - x247000_1)) = z253 := (i64_w _).trans E250
                have H' := Aside0.mk H
                clear H
                have hnb26 := NB246_247.out
                have hnc26 := NB247_246.out
                have ⟨hcz27_0, hcz27_1, hcz27_2, hfz27_0, hfz27_1, hfz27_2⟩ := cf3 BK246
                go_wp2
                go_roundg kj3
                case measure => have := HK1.out; have := HJ3.out; omega
                case rel => exact ⟨(x247000_1), (z253), (z252), H', ⟨by have := HK1.out; have := HJ3.out; omega⟩, ⟨by (with_reducible repeat (first | refine blk_drewN ?_ _ | refine blk_drew ?_ | refine blk_alloc ?_ _)); refine blk_put (cs := #[.int .i64 x247000_1, .int .i64 x247001_1, .int .i64 z252]) ?_ 1 _ rfl; (with_reducible repeat (first | refine blk_drewN ?_ _ | refine blk_drew ?_ | refine blk_alloc ?_ _)); refine blk_put (cs := #[.int .i64 x247000_1, .int .i64 x247001_1, .int .i64 x247002_1]) ?_ 2 _ rfl; (with_reducible repeat (first | refine blk_drewN ?_ _ | refine blk_drew ?_ | refine blk_alloc ?_ _)); exact BK246.out⟩, ⟨by (with_reducible repeat (first | refine blk_drewN ?_ _ | refine blk_drew ?_ | refine blk_alloc ?_ _)); refine blk_far ?_ NB247_246.out _; (with_reducible repeat (first | refine blk_drewN ?_ _ | refine blk_drew ?_ | refine blk_alloc ?_ _)); refine blk_far ?_ NB247_246.out _; (with_reducible repeat (first | refine blk_drewN ?_ _ | refine blk_drew ?_ | refine blk_alloc ?_ _)); exact BK247.out⟩, ⟨bnow HB⟩⟩
          · replace c14 := Bool.eq_false_iff.mpr c14
            subst c14
            have H1 : (some (x247000_1, x247001_1, x247002_1)) = some (r1, r2, r3) := by rw [if_neg (show ¬ (false = true) by decide)] at H; exact H
            clear H
            have H := H1
            clear H1
            simp only [Option.some.injEq, Prod.mk.injEq] at H
            obtain ⟨rfl, rfl, rfl⟩ := H
            have hnb28 := NB246_247.out
            have hnc28 := NB247_246.out
            have ⟨hcz29_0, hcz29_1, hcz29_2, hfz29_0, hfz29_1, hfz29_2⟩ := cf3 BK246
            have ⟨hcz30_0, hcz30_1, hcz30_2, hfz30_0, hfz30_1, hfz30_2⟩ := cf3 BK247
            go_wp2_with (first | ((with_reducible refine gate_store (t := 23) (p := 2) rfl ?_); refine sx 23 2 ((((wc.setCell ⟨gb247, 0, none⟩ (.int .i64 x247000_1)).setCell ⟨gb247, 1, none⟩ (.int .i64 x247001_1)).setCell ⟨gb247, 2, none⟩ (.int .i64 x247002_1))) fun w31 hw => ?_; replace BK246 := fw hw BK246; replace BK247 := pw3 hw BK247; replace HB := bw hw HB; clear hw))
            refine bodyPost_ret (results_cell_row rfl _ _ gb247 23 #[.int .i64 x247000_1, .int .i64 x247001_1, .int .i64 x247002_1] (0, 0) _ rfl (pk BK247) Try.underlying23 rfl (by kernel_rfl)) rfl ?_
            exact rt HB
end
section
/-! ### torchonref06_Product: function 48 -/
def torchonref06_Product.f (a0_0 : Int) (a0_1 : Int) (a0_2 : Int) (a1_0 : Int) (a1_1 : Int) (a2_0 : Int) (a2_1 : Int) : Option (Int) := (some (wrap64 (a0_0 * a1_0))).bind fun z257 => ((some (wrap64 (z257 * a2_0))).bind fun z258 => ((some (wrap64 (a1_0 * a2_1))).bind fun z259 => ((some (wrap64 (a1_1 * a2_0))).bind fun z260 => ((some (wrap64 (z259 + z260))).bind fun z261 => ((some (wrap64 (a0_1 * z261))).bind fun z262 => ((some (wrap64 (z258 + z262))).bind fun z263 => ((some (wrap64 (a0_2 * a1_1))).bind fun z264 => ((some (wrap64 (z264 * a2_1))).bind fun z265 => ((some (wrap64 (z263 + z265))).bind fun z266 => (some z266))))))))))
set_option maxHeartbeats 8000000 in
set_option maxRecDepth 100000 in
theorem torchonref06_Product.calls (a0_0 : Int) (a0_1 : Int) (a0_2 : Int) (a1_0 : Int) (a1_1 : Int) (a2_0 : Int) (a2_1 : Int) (r : Int) (w : World) (h : torchonref06_Product.f a0_0 a0_1 a0_2 a1_0 a1_1 a2_0 a2_1 = some r) :
    Calls Try.prog 48 #[.agg #[.int .i64 a0_0, .int .i64 a0_1, .int .i64 a0_2], .agg #[.int .i64 a1_0, .int .i64 a1_1], .agg #[.int .i64 a2_0, .int .i64 a2_1]] w fun e w' => e = .returned (.int .i64 r) ∧ Below w.heap.size w w' := by
  have hu23 := Try.underlying23
  have hu37 := Try.underlying37
  have HB := Aside0.mk (Below.refl w.heap.size w)
  have H : ((some (wrap64 (a0_0 * a1_0))).bind fun z257 => ((some (wrap64 (z257 * a2_0))).bind fun z258 => ((some (wrap64 (a1_0 * a2_1))).bind fun z259 => ((some (wrap64 (a1_1 * a2_0))).bind fun z260 => ((some (wrap64 (z259 + z260))).bind fun z261 => ((some (wrap64 (a0_1 * z261))).bind fun z262 => ((some (wrap64 (z258 + z262))).bind fun z263 => ((some (wrap64 (a0_2 * a1_1))).bind fun z264 => ((some (wrap64 (z264 * a2_1))).bind fun z265 => ((some (wrap64 (z263 + z265))).bind fun z266 => (some z266))))))))))) = some r := h
  clear h
  obtain ⟨z257, E40, H⟩ := oc H
  have E4w : (IntKind.i64.wrap (a0_0 * a1_0)) = z257 := (i64_w _).trans E40
  obtain ⟨z258, E50, H⟩ := oc H
  have E5w : (IntKind.i64.wrap (z257 * a2_0)) = z258 := (i64_w _).trans E50
  obtain ⟨z259, E60, H⟩ := oc H
  have E6w : (IntKind.i64.wrap (a1_0 * a2_1)) = z259 := (i64_w _).trans E60
  obtain ⟨z260, E70, H⟩ := oc H
  have E7w : (IntKind.i64.wrap (a1_1 * a2_0)) = z260 := (i64_w _).trans E70
  obtain ⟨z261, E80, H⟩ := oc H
  have E8w : (IntKind.i64.wrap (z259 + z260)) = z261 := (i64_w _).trans E80
  obtain ⟨z262, E90, H⟩ := oc H
  have E9w : (IntKind.i64.wrap (a0_1 * z261)) = z262 := (i64_w _).trans E90
  obtain ⟨z263, E100, H⟩ := oc H
  have E10w : (IntKind.i64.wrap (z258 + z262)) = z263 := (i64_w _).trans E100
  obtain ⟨z264, E110, H⟩ := oc H
  have E11w : (IntKind.i64.wrap (a0_2 * a1_1)) = z264 := (i64_w _).trans E110
  obtain ⟨z265, E120, H⟩ := oc H
  have E12w : (IntKind.i64.wrap (z264 * a2_1)) = z265 := (i64_w _).trans E120
  obtain ⟨z266, E130, H⟩ := oc H
  have E13w : (IntKind.i64.wrap (z263 + z265)) = z266 := (i64_w _).trans E130
  obtain rfl := Option.some.inj H
  go_enter Try.func48, Try.ntmps48
  go_wp2_with (first | ((with_reducible refine gate_dst (N := 3) rfl ?_); refine bx 3 #[.int .i64 a0_0, .int .i64 a0_1, .int .i64 a0_2] 23 fun gb254 hg w14 BK254 hb => ?_; have GW254 := gw hg HB; have GE254 := gw hg HB; replace HB := bst HB hb; clear hb hg) | ((with_reducible refine gate_dst (N := 4) rfl ?_); refine bx 4 #[.int .i64 a1_0, .int .i64 a1_1] 37 fun gb255 hg w15 BK255 hb => ?_; have GW255 := gw hg HB; have GE255 := gw hg HB; have NB254_255 := nlt hg BK254; have NB255_254 := ngt hg BK254; replace BK254 := bb BK254 hb; replace HB := bst HB hb; clear hb hg) | ((with_reducible refine gate_dst (N := 5) rfl ?_); refine bx 5 #[.int .i64 a2_0, .int .i64 a2_1] 37 fun gb256 hg w16 BK256 hb => ?_; have GW256 := gw hg HB; have GE256 := gw hg HB; have NB254_256 := nlt hg BK254; have NB256_254 := ngt hg BK254; have NB255_256 := nlt hg BK255; have NB256_255 := ngt hg BK255; replace BK254 := bb BK254 hb; replace BK255 := bb BK255 hb; replace HB := bst HB hb; clear hb hg; have hnb17 := NB254_255.out; have hnc17 := NB255_254.out; have hnb18 := NB254_256.out; have hnc18 := NB256_254.out; have ⟨hcz19_0, hcz19_1, hcz19_2, hfz19_0, hfz19_1, hfz19_2⟩ := cf3 BK254; have hnb20 := NB255_256.out; have hnc20 := NB256_255.out; have ⟨hcz21_0, hcz21_1, hfz21_0, hfz21_1⟩ := cf2 BK255; have ⟨hcz22_0, hcz22_1, hfz22_0, hfz22_1⟩ := cf2 BK256))
  go_ret
  exact rt HB
end
section
/-! ### torchonref06_root: function 83 -/
def torchonref06_root.l0 : Nat → Int → Int → Int → Option (Int)
  | 0, _, _, _ => none
  | k + 1, x0, x3, x4 => (some (wrap64 (x4 - x3))).bind fun z267 => (if z267 > 1 then ((some (wrap64 (x3 + x4))).bind fun z268 => ((some (wrap64 (Int.tdiv z268 2))).bind fun z269 => ((some (wrap64 (z269 * z269))).bind fun z270 => (if z270 ≤ x0 then (torchonref06_root.l0 k x0 z269 x4) else (torchonref06_root.l0 k x0 x3 z269))))) else (some x3))
def torchonref06_root.f (k : Nat) (a0 : Int) : Option (Int) := torchonref06_root.l0 k a0 0 20000
theorem torchonref06_root.mono_l : ∀ k, (∀ y0 y1 y2, LeO (torchonref06_root.l0 k y0 y1 y2) (torchonref06_root.l0 (k + 1) y0 y1 y2))
  | 0 => fun _ _ _ r h => by simp [torchonref06_root.l0] at h
  | k + 1 => by
    have ih0 := torchonref06_root.mono_l k
    · intro y0 y1 y2
      unfold torchonref06_root.l0
      repeat' first
      | (with_reducible exact ih0 _ _ _)
      | (with_reducible exact LeO.refl _)
      | (with_reducible exact LeO.none _)
      | (with_reducible refine LeO.ite ?_ ?_)
      | (with_reducible refine LeO.bind ?_ (fun _ => ?_))
      | exact ih0 _ _ _
      | exact LeO.none _
      | refine LeO.ite ?_ ?_
      | refine LeO.bind ?_ (fun _ => ?_)
theorem torchonref06_root.mono : ∀ a0 k, LeO (torchonref06_root.f k a0) (torchonref06_root.f (k + 1) a0) := by
  intro a0 k
  have ih0 := torchonref06_root.mono_l k
  unfold torchonref06_root.f
  repeat' first
      | (with_reducible exact ih0 _ _ _)
      | (with_reducible exact LeO.refl _)
      | (with_reducible exact LeO.none _)
      | (with_reducible refine LeO.ite ?_ ?_)
      | (with_reducible refine LeO.bind ?_ (fun _ => ?_))
      | exact ih0 _ _ _
      | exact LeO.none _
      | refine LeO.ite ?_ ?_
      | refine LeO.bind ?_ (fun _ => ?_)
set_option maxHeartbeats 8000000 in
set_option maxRecDepth 100000 in
theorem torchonref06_root.calls (k : Nat) (a0 : Int) (r : Int) (w : World) (h : torchonref06_root.f k a0 = some r) :
    Calls Try.prog 83 #[.int .i64 a0] w fun e w' => e = .returned (.int .i64 r) ∧ Drawn0 w w' := by
  have H : (torchonref06_root.l0 k a0 0 20000) = some r := h
  clear h
  have H' := Aside0.mk H
  clear H
  go_enter Try.func83, Try.ntmps83
  go_wp2
  go_loopg [3, 4] k (fun kq v3 v4 w' => ∃ (x3_1 : Int) (x4_1 : Int), v3 = .int .i64 x3_1 ∧ v4 = .int .i64 x4_1 ∧ Aside0 (torchonref06_root.l0 kq a0 x3_1 x4_1 = some r) ∧ Aside0 (kq ≤ k) ∧ Drawn0 w w')
  case atStart => exact ⟨(0), (20000), (by first | rfl | (simp; done) | (simp [*]; done)), (by first | rfl | (simp; done) | (simp [*]; done)), H', ⟨Nat.le_refl _⟩, by repeat (first | exact Drawn0.refl _ | apply Drawn0.step)⟩
  case round =>
    clear H'
    obtain ⟨x3_1, x4_1, rfl, rfl, HA, HK1, ⟨m1, rfl⟩⟩ := hrel
    cases gk with
    | zero => exact absurd HA.out (by simp [torchonref06_root.l0])
    | succ k1 =>
      have H := HA.out
      clear HA
      simp only [torchonref06_root.l0] at H
      obtain ⟨z267, E20, H⟩ := oc H
      have E2w : (IntKind.i64.wrap (x4_1 - x3_1)) = z267 := (i64_w _).trans E20
      by_cases c3 : z267 > 1
      · rw [if_pos c3] at H
        have c3b0 : decide (1 < z267) = true := decide_eq_true c3
        clear c3
        obtain ⟨z268, E40, H⟩ := oc H
        have E4w : (IntKind.i64.wrap (x3_1 + x4_1)) = z268 := (i64_w _).trans E40
        obtain ⟨z269, E50, H⟩ := oc H
        have E5w : (IntKind.i64.wrap (Int.tdiv z268 2)) = z269 := (i64_w _).trans E50
        obtain ⟨z270, E60, H⟩ := oc H
        have E6w : (IntKind.i64.wrap (z269 * z269)) = z270 := (i64_w _).trans E60
        by_cases c7 : z270 ≤ a0
        · rw [if_pos c7] at H
          have c7b0 : decide (z270 ≤ a0) = true := decide_eq_true c7
          clear c7
          have H' := Aside0.mk H
          clear H
          go_wp2
          go_roundg k1
          case measure => have := HK1.out; omega
          case rel => exact ⟨(z269), (x4_1), (by first | rfl | (simp; done) | (simp [*]; done)), (by first | rfl | (simp; done) | (simp [*]; done)), H', ⟨by have := HK1.out; omega⟩, by repeat (first | exact Drawn0.refl _ | apply Drawn0.step)⟩
        · rw [if_neg c7] at H
          have c7b0 : decide (z270 ≤ a0) = false := decide_eq_false c7
          clear c7
          have H' := Aside0.mk H
          clear H
          go_wp2
          go_roundg k1
          case measure => have := HK1.out; omega
          case rel => exact ⟨(x3_1), (z269), (by first | rfl | (simp; done) | (simp [*]; done)), (by first | rfl | (simp; done) | (simp [*]; done)), H', ⟨by have := HK1.out; omega⟩, by repeat (first | exact Drawn0.refl _ | apply Drawn0.step)⟩
      · rw [if_neg c3] at H
        have c3b0 : decide (1 < z267) = false := decide_eq_false c3
        clear c3
        obtain rfl := Option.some.inj H
        go_wp2
        go_ret
        exact ⟨by first | rfl | (simp; done) | (simp [*]; done), by repeat (first | exact Drawn0.refl _ | apply Drawn0.step)⟩
end
end Go.Proofs.Ytmcajdepoohlhaa.G
