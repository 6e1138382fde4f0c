/- Functions of the program as plain Lean functions, and their contracts (printed by a program of this session). No condition beyond what each states. -/
import Derived.Test.YtmcajdepoohlhaaProg
import Derived.Below
import Derived.Deep.Draws
import Derived.Deep.AppendLies
import Derived.Maps.AppendAt
import Derived.OwnWalk
import Derived.Laws.BytesArg
import Derived.Laws.MakeOwn
import Derived.Laws.OwnMore
import Derived.Deep.OwnRows
import Derived.Tactics
import Derived.Lib.ConvBytes
import Derived.Laws.Slices
import Derived.WalkKit
import Derived.KernelRfl
import Derived.RowKit3
import Derived.Deep.LoopGhost
import Derived.Deep.QuietTactic
import Derived.BigQuiet
import Derived.WideLaws
import Derived.Deep.DeepCutAuto
import Derived.Deep.CutBlock
import Derived.Deep.RegionHeld3
import Derived.Laws.Rows
import Derived.Lib.AppendStr
import Derived.ArgAppend
import Derived.Laws.IdiomCopy
import Derived.OrdersHeld
import Derived.Laws.BitsLemmas
import Derived.RowKit
import Derived.Test.YtmcajdepoohlhaaCTurnsFn
import Derived.Test.YtmcajdepoohlhaaCTurnsZ
import Derived.Test.YtmcajdepoohlhaaCTurnsWWords
import Derived.Test.YtmcajdepoohlhaaCTurnsWLast
import Derived.Test.YtmcajdepoohlhaaCTurnsWTab
import Derived.Test.YtmcajdepoohlhaaCTurnsWFour
import Derived.Test.YtmcajdepoohlhaaCTurnsWQPut
import Derived.Test.YtmcajdepoohlhaaCTurnsWApart
import Derived.Test.YtmcajdepoohlhaaCTurnsWArr
import Derived.Test.YtmcajdepoohlhaaCTurnsWZeros
import Derived.Test.YtmcajdepoohlhaaCTurnsWFoot
import Derived.Test.YtmcajdepoohlhaaCTurnsWKept
import Derived.Test.YtmcajdepoohlhaaCTurnsWShare
import Derived.Test.YtmcajdepoohlhaaCTurnsWN
import Derived.Test.YtmcajdepoohlhaaCTurnsWFootNe
import Derived.Test.YtmcajdepoohlhaaCTurnsWAt
import Derived.Test.YtmcajdepoohlhaaCTurnsWEqStruct
import Derived.Test.YtmcajdepoohlhaaCTurnsWRepsOne
import Derived.Test.YtmcajdepoohlhaaCTurnsWInv
import Derived.Test.YtmcajdepoohlhaaCTurnsWInvWords
import Derived.Test.YtmcajdepoohlhaaCTurnsWGuard
import Derived.Test.YtmcajdepoohlhaaCTurnsWNEv
import Derived.Test.YtmcajdepoohlhaaCTurnsWMore
namespace Go.Proofs.Ytmcajdepoohlhaa.G
open Go.RowKit Go.Proofs.YtmcajdepoohlhaaW.PrintWords Go.Proofs.YtmcajdepoohlhaaW.PrintLast Go.Proofs.YtmcajdepoohlhaaW.PrintMore
attribute [local go_sem] max2_int min2_int max_two min_two max_three min_three max_four min_four
set_option linter.unusedVariables false
set_option linter.unusedSimpArgs false
section
def errW : Option Int → Value
  | none => .nilIface
  | some c => .iface 0 (.int .i64 c)
theorem errW_none : errW none = .nilIface := rfl
theorem errW_some (c : Int) : errW (some c) = .iface 0 (.int .i64 c) := rfl
theorem info3 : (Try.prog.info? 3).map (fun i => (i.zero, i.size, i.bytes)) = some (some (.int .i64 0), 1, 8) := by kernel_rfl
theorem info25 : (Try.prog.info? 25).map (fun i => (i.zero, i.size, i.bytes)) = some (some (.agg #[(.int .i64 0), (.int .i64 0), (.int .i64 0), (.int .i64 0)]), 4, 32) := by kernel_rfl
theorem info37 : (Try.prog.info? 37).map (fun i => (i.zero, i.size, i.bytes)) = some (some (.agg #[(.int .i64 0), (.int .i64 0)]), 2, 16) := by kernel_rfl
-- the values' own types
/-! #### struct type 25 -/
structure S25 where
  f0 : Int
  f1 : Int
  f2 : Int
  f3 : Int
def z25 : S25 := ⟨(0 : Int), (0 : Int), (0 : Int), (0 : Int)⟩
def k25 : Kd S25 := Kd.iso (Kd.pair (Kd.int .i64) (Kd.pair (Kd.int .i64) (Kd.pair (Kd.int .i64) (Kd.int .i64)))) (fun x : S25 => (x.f0, x.f1, x.f2, x.f3))
theorem k25_open {w : World} {x : S25} {cs : List Value} (h : k25.K w x cs) : cs = [.int .i64 x.f0, .int .i64 x.f1, .int .i64 x.f2, .int .i64 x.f3] := by
  obtain ⟨_, _, rfl, rfl, ⟨_, _, rfl, rfl, ⟨_, _, rfl, rfl, rfl⟩⟩⟩ := h
  exact rfl
theorem k25_openM {w : World} {base : Nat} {ok : Nat → Prop} {x : S25} {cs : List Value} (h : k25.M w base ok x cs) : cs = [.int .i64 x.f0, .int .i64 x.f1, .int .i64 x.f2, .int .i64 x.f3] := by
  obtain ⟨_, _, rfl, rfl, ⟨_, _, rfl, rfl, ⟨_, _, rfl, rfl, rfl⟩⟩⟩ := h
  exact rfl
theorem k25_mk (w : World) (x : S25)  : k25.K w x [.int .i64 x.f0, .int .i64 x.f1, .int .i64 x.f2, .int .i64 x.f3] := ⟨[.int .i64 x.f0], [.int .i64 x.f1, .int .i64 x.f2, .int .i64 x.f3], rfl, rfl, ⟨[.int .i64 x.f1], [.int .i64 x.f2, .int .i64 x.f3], rfl, rfl, ⟨[.int .i64 x.f2], [.int .i64 x.f3], rfl, rfl, rfl⟩⟩⟩
theorem k25_mkM (w : World) (base : Nat) (ok : Nat → Prop) (x : S25)  : k25.M w base ok x [.int .i64 x.f0, .int .i64 x.f1, .int .i64 x.f2, .int .i64 x.f3] := ⟨[.int .i64 x.f0], [.int .i64 x.f1, .int .i64 x.f2, .int .i64 x.f3], rfl, rfl, ⟨[.int .i64 x.f1], [.int .i64 x.f2, .int .i64 x.f3], rfl, rfl, ⟨[.int .i64 x.f2], [.int .i64 x.f3], rfl, rfl, rfl⟩⟩⟩
def rd_T25 (xs : List S25) (i : Int) : S25 := xs.getD i.toNat z25
theorem at_T25 {w : World} {A : Option Addr} {n : Nat} {xs : List S25} (h : Kd.C k25 w A n xs) (i : Int) (h0 : 0 ≤ i) (h1 : i < n) : ∃ ad , A = some ad ∧ w.cell? (ad.add (i.toNat * 4)) = some (.int .i64 (rd_T25 xs i).f0) ∧ w.cell? ⟨(ad.add (i.toNat * 4)).block, (ad.add (i.toNat * 4)).off + 1, none⟩ = some (.int .i64 (rd_T25 xs i).f1) ∧ w.cell? ⟨(ad.add (i.toNat * 4)).block, (ad.add (i.toNat * 4)).off + 2, none⟩ = some (.int .i64 (rd_T25 xs i).f2) ∧ w.cell? ⟨(ad.add (i.toNat * 4)).block, (ad.add (i.toNat * 4)).off + 3, none⟩ = some (.int .i64 (rd_T25 xs i).f3) := by
  obtain ⟨ad, c, e, _, hK, hc0⟩ := Kd.C_get h z25 i h0 h1
  have hc : ∀ j u, c[j]? = some u → w.cell? (ad.add (i.toNat * 4 + j)) = some u := hc0
  obtain rfl := k25_open hK
  exact ⟨ad, e, hc 0 _ rfl, by rw [← add_field _ _ 1 (by omega)]; exact hc 1 _ rfl, by rw [← add_field _ _ 2 (by omega)]; exact hc 2 _ rfl, by rw [← add_field _ _ 3 (by omega)]; exact hc 3 _ rfl⟩
/-! #### struct type 37 -/
structure S37 where
  f0 : Int
  f1 : Int
def z37 : S37 := ⟨(0 : Int), (0 : Int)⟩
def k37 : Kd S37 := Kd.iso (Kd.pair (Kd.int .i64) (Kd.int .i64)) (fun x : S37 => (x.f0, x.f1))
theorem k37_open {w : World} {x : S37} {cs : List Value} (h : k37.K w x cs) : cs = [.int .i64 x.f0, .int .i64 x.f1] := by
  obtain ⟨_, _, rfl, rfl, rfl⟩ := h
  exact rfl
theorem k37_openM {w : World} {base : Nat} {ok : Nat → Prop} {x : S37} {cs : List Value} (h : k37.M w base ok x cs) : cs = [.int .i64 x.f0, .int .i64 x.f1] := by
  obtain ⟨_, _, rfl, rfl, rfl⟩ := h
  exact rfl
theorem k37_mk (w : World) (x : S37)  : k37.K w x [.int .i64 x.f0, .int .i64 x.f1] := ⟨[.int .i64 x.f0], [.int .i64 x.f1], rfl, rfl, rfl⟩
theorem k37_mkM (w : World) (base : Nat) (ok : Nat → Prop) (x : S37)  : k37.M w base ok x [.int .i64 x.f0, .int .i64 x.f1] := ⟨[.int .i64 x.f0], [.int .i64 x.f1], rfl, rfl, rfl⟩
def rd_T37 (xs : List S37) (i : Int) : S37 := xs.getD i.toNat z37
theorem at_T37 {w : World} {A : Option Addr} {n : Nat} {xs : List S37} (h : Kd.C k37 w A n xs) (i : Int) (h0 : 0 ≤ i) (h1 : i < n) : ∃ ad , A = some ad ∧ w.cell? (ad.add (i.toNat * 2)) = some (.int .i64 (rd_T37 xs i).f0) ∧ w.cell? ⟨(ad.add (i.toNat * 2)).block, (ad.add (i.toNat * 2)).off + 1, none⟩ = some (.int .i64 (rd_T37 xs i).f1) := by
  obtain ⟨ad, c, e, _, hK, hc0⟩ := Kd.C_get h z37 i h0 h1
  have hc : ∀ j u, c[j]? = some u → w.cell? (ad.add (i.toNat * 2 + j)) = some u := hc0
  obtain rfl := k37_open hK
  exact ⟨ad, e, hc 0 _ rfl, by rw [← add_field _ _ 1 (by omega)]; exact hc 1 _ rfl⟩
end
section
theorem eqA37 (d : Nat) (w : World) (x0 y0 : Int) (x1 y1 : Int) :
    (Op.equalIn (d + 2) 37 (.agg #[.int .i64 x0, .int .i64 x1]) (.agg #[.int .i64 y0, .int .i64 y1])).run Try.prog w = .ok (x0 == y0 && (x1 == y1)) w := by
  refine eqA_of Try.underlying37 (by kernel_rfl) ?_
  refine eqf_cons (by rfl) (by go_simp; rfl) (by go_simp; rfl) (by go_simp) ?_
  exact eqf_last (by rfl) (by go_simp; rfl) (by go_simp; rfl) (by go_simp)
end
section
/-! ### cmp_Or_int: function 51 -/
def cmp_Or_int.l0 : Nat → Int → List Int → Int → Int → Option (Int)
  | 0, _, _, _, _ => none
  | k + 1, x3, x6, x7, x8 => if x8 < x7 then (if 0 ≤ x8 then (if x8 < (x6.length : Int) then (if (rd x6 x8) = x3 then ((some (wrap64 (x8 + 1))).bind fun z189 => (cmp_Or_int.l0 k x3 x6 x7 z189)) else (some (rd x6 x8))) else (none)) else (none)) else (some x3)
def cmp_Or_int.f (k : Nat) (l0 : List Int) : Option (Int) := cmp_Or_int.l0 k 0 l0 (l0.length : Int) 0
theorem cmp_Or_int.mono_l : ∀ k, (∀ y0 y1 y2 y3, LeO (cmp_Or_int.l0 k y0 y1 y2 y3) (cmp_Or_int.l0 (k + 1) y0 y1 y2 y3))
  | 0 => fun _ _ _ _ r h => by simp [cmp_Or_int.l0] at h
  | k + 1 => by
    have ih0 := cmp_Or_int.mono_l k
    · intro y0 y1 y2 y3
      unfold cmp_Or_int.l0
      repeat' first
      | (with_reducible exact ih0 _ _ _ _)
      | (with_reducible exact LeO.refl _)
      | (with_reducible exact LeO.none _)
      | (with_reducible refine LeO.ite ?_ ?_)
      | (with_reducible refine LeO.bind ?_ (fun _ => ?_))
      | exact ih0 _ _ _ _
      | exact LeO.none _
      | refine LeO.ite ?_ ?_
      | refine LeO.bind ?_ (fun _ => ?_)
theorem cmp_Or_int.mono : ∀ a0 k, LeO (cmp_Or_int.f k a0) (cmp_Or_int.f (k + 1) a0) := by
  intro a0 k
  have ih0 := cmp_Or_int.mono_l k
  unfold cmp_Or_int.f
  repeat' first
      | (with_reducible exact ih0 _ _ _ _)
      | (with_reducible exact LeO.refl _)
      | (with_reducible exact LeO.none _)
      | (with_reducible refine LeO.ite ?_ ?_)
      | (with_reducible refine LeO.bind ?_ (fun _ => ?_))
      | exact ih0 _ _ _ _
      | exact LeO.none _
      | refine LeO.ite ?_ ?_
      | refine LeO.bind ?_ (fun _ => ?_)
set_option maxHeartbeats 8000000 in
set_option maxRecDepth 100000 in
theorem cmp_Or_int.calls (k : Nat) (A0 : Option Addr) (c0 : Nat) (l0 : List Int) (r : Int) (w : World) (hr0 : Kd.C (Kd.int .i64) w A0 l0.length l0) (hc0 : l0.length ≤ c0) (h : cmp_Or_int.f k l0 = some r) :
    Calls Try.prog 51 #[.slice A0 l0.length c0] w fun e w' => e = .returned (.int .i64 r) ∧ Drawn0 w w' := by
  have HR0 := Aside0.mk hr0
  have HC0 := Aside0.mk hc0
  clear hr0 hc0
  have H : (cmp_Or_int.l0 k 0 l0 (l0.length : Int) 0) = some r := h
  clear h
  have H' := Aside0.mk H
  clear H
  go_enter Try.func51, Try.ntmps51
  go_wp2
  go_loopg [8] k (fun kq v8 w' => ∃ (x8_1 : Int), v8 = .int .i64 x8_1 ∧ Aside0 (cmp_Or_int.l0 kq 0 l0 (l0.length : Int) x8_1 = some r) ∧ Aside0 (kq ≤ k) ∧ Drawn0 w w')
  case atStart => exact ⟨(0), (by first | rfl | (simp; done) | (simp [*]; done)), H', ⟨Nat.le_refl _⟩, by repeat (first | exact Drawn0.refl _ | apply Drawn0.step)⟩
  case round =>
    clear H'
    obtain ⟨x8_1, rfl, HA, HK1, ⟨m1, rfl⟩⟩ := hrel
    cases gk with
    | zero => exact absurd HA.out (by simp [cmp_Or_int.l0])
    | succ k1 =>
      have H := HA.out
      clear HA
      simp only [cmp_Or_int.l0] at H
      by_cases c2 : x8_1 < (l0.length : Int)
      · rw [if_pos c2] at H
        have c2b0 : decide (x8_1 < (l0.length : Int)) = true := decide_eq_true c2
        clear c2
        by_cases c3 : 0 ≤ x8_1
        · rw [if_pos c3] at H
          have c3b0 : decide (0 ≤ x8_1) = true := decide_eq_true c3
          clear c3
          by_cases c4 : x8_1 < (l0.length : Int)
          · rw [if_pos c4] at H
            have c4b0 : decide (x8_1 < (l0.length : Int)) = true := decide_eq_true c4
            clear c4
            by_cases c5 : (rd l0 x8_1) = 0
            · rw [if_pos c5] at H
              have c5b0 : ((rd l0 x8_1) == 0) = true := beq_iff_eq.mpr c5
              have c5b1 : ((rd l0 x8_1) != 0) = false := bne_eq_false_iff_eq.mpr c5
              clear c5
              replace H := Option.bind_eq_some_iff.mp H
              obtain ⟨z189, E60, H⟩ := H
              replace H : (cmp_Or_int.l0 k1 0 l0 (l0.length : Int) z189) = some r := H
              replace E60 := Option.some.inj E60
              have E6w : (IntKind.i64.wrap (x8_1 + 1)) = z189 := (i64_w _).trans E60
              have H' := Aside0.mk H
              clear H
              have p188 : 0 ≤ (x8_1 : Int) := of_decide_eq_true (by first | (with_reducible assumption) | assumption)
              have q188 : x8_1 < (l0.length : Int) := of_decide_eq_true (by first | (with_reducible assumption) | assumption)
              obtain ⟨ad188, e188, hx188_0⟩ := Kd.at_int HR0.out x8_1 p188 q188
              cases e188
              replace p188 := eq_true p188
              replace q188 := eq_true q188
              go_wp2
              go_roundg k1
              case measure => have := HK1.out; omega
              case rel => exact ⟨(z189), (by first | rfl | (simp; done) | (simp [*]; done)), H', ⟨by have := HK1.out; omega⟩, by repeat (first | exact Drawn0.refl _ | apply Drawn0.step)⟩
            · rw [if_neg c5] at H
              have c5b0 : ((rd l0 x8_1) == 0) = false := beq_eq_false_iff_ne.mpr c5
              have c5b1 : ((rd l0 x8_1) != 0) = true := bne_iff_ne.mpr c5
              obtain rfl := Option.some.inj H
              have p188 : 0 ≤ (x8_1 : Int) := of_decide_eq_true (by first | (with_reducible assumption) | assumption)
              have q188 : x8_1 < (l0.length : Int) := of_decide_eq_true (by first | (with_reducible assumption) | assumption)
              obtain ⟨ad188, e188, hx188_0⟩ := Kd.at_int HR0.out x8_1 p188 q188
              cases e188
              replace p188 := eq_true p188
              replace q188 := eq_true q188
              go_wp2
              go_ret
              exact ⟨by first | rfl | (simp; done) | (simp [*]; done), by repeat (first | exact Drawn0.refl _ | apply Drawn0.step)⟩
          · rw [if_neg c4] at H
            exact absurd H (by simp)
        · rw [if_neg c3] at H
          exact absurd H (by simp)
      · rw [if_neg c2] at H
        have c2b0 : decide (x8_1 < (l0.length : Int)) = false := decide_eq_false c2
        clear c2
        obtain rfl := Option.some.inj H
        go_wp2
        go_ret
        exact ⟨by first | rfl | (simp; done) | (simp [*]; done), by repeat (first | exact Drawn0.refl _ | apply Drawn0.step)⟩
end
section
/-! ### cmp_isNaN_int64: function 79 -/
def cmp_isNaN_int64.f (a0 : Int) : Option (Bool) := some (a0 != a0)
set_option maxHeartbeats 8000000 in
set_option maxRecDepth 100000 in
theorem cmp_isNaN_int64.calls (a0 : Int) (r : Bool) (w : World) (h : cmp_isNaN_int64.f a0 = some r) :
    Calls Try.prog 79 #[.int .i64 a0] w fun e w' => e = .returned (.bool r) ∧ Drawn0 w w' := by
  have H : (some (a0 != a0)) = some r := h
  clear h
  obtain rfl := Option.some.inj H
  go_enter Try.func79, Try.ntmps79
  go_wp2
  go_ret
  exact ⟨by first | rfl | (simp; done) | (simp [*]; done), by repeat (first | exact Drawn0.refl _ | apply Drawn0.step)⟩
end
section
/-! ### cmp_Compare_int64: function 54 -/
def cmp_Compare_int64.f (a0 : Int) (a1 : Int) : Option (Int) := (cmp_isNaN_int64.f a0).bind fun t190 => ((cmp_isNaN_int64.f a1).bind fun t191 => (if t190 = true then (if t191 = true then (some 0) else (some (-1))) else (if t191 = true then (some 1) else (if a0 < a1 then (some (-1)) else (if a0 > a1 then (some 1) else (some 0))))))
set_option maxHeartbeats 8000000 in
set_option maxRecDepth 100000 in
theorem cmp_Compare_int64.calls (a0 : Int) (a1 : Int) (r : Int) (w : World) (h : cmp_Compare_int64.f a0 a1 = some r) :
    Calls Try.prog 54 #[.int .i64 a0, .int .i64 a1] w fun e w' => e = .returned (.int .i64 r) ∧ Drawn0 w w' := by
  have H : ((cmp_isNaN_int64.f a0).bind fun t190 => ((cmp_isNaN_int64.f a1).bind fun t191 => (if t190 = true then (if t191 = true then (some 0) else (some (-1))) else (if t191 = true then (some 1) else (if a0 < a1 then (some (-1)) else (if a0 > a1 then (some 1) else (some 0))))))) = some r := h
  clear h
  replace H := Option.bind_eq_some_iff.mp H
  obtain ⟨t190, A30, H⟩ := H
  replace H : ((cmp_isNaN_int64.f a1).bind fun t191 => (if t190 = true then (if t191 = true then (some 0) else (some (-1))) else (if t191 = true then (some 1) else (if a0 < a1 then (some (-1)) else (if a0 > a1 then (some 1) else (some 0)))))) = some r := H
  have A3 := Aside0.mk A30
  clear A30
  replace H := Option.bind_eq_some_iff.mp H
  obtain ⟨t191, A40, H⟩ := H
  replace H : (if t190 = true then (if t191 = true then (some 0) else (some (-1))) else (if t191 = true then (some 1) else (if a0 < a1 then (some (-1)) else (if a0 > a1 then (some 1) else (some 0))))) = some r := H
  have A4 := Aside0.mk A40
  clear A40
  by_cases c5 : t190 = true
  · subst c5
    have H1 : (if t191 = true then (some 0) else (some (-1))) = some r := by rw [if_pos rfl] at H; exact H
    clear H
    have H := H1
    clear H1
    by_cases c6 : t191 = true
    · subst c6
      have H1 : (some 0) = some r := by rw [if_pos rfl] at H; exact H
      clear H
      have H := H1
      clear H1
      obtain rfl := Option.some.inj H
      go_enter Try.func54, Try.ntmps54
      go_wp2_with (first | ((with_reducible refine gate_callee (f := 79) rfl ?_); refine goesL_ (some 8) rfl rfl Try.func79 (by kernel_rfl) rfl #[.int .i64 a0] rfl am ?_; (with_reducible refine (cmp_isNaN_int64.calls a0 true _ A3.out).mono ?_); rintro e w' ⟨rfl, ⟨nd, rfl⟩⟩; refine ⟨_, rfl, ?_⟩) | ((with_reducible refine gate_callee (f := 79) rfl ?_); refine goesL_ (some 10) rfl rfl Try.func79 (by kernel_rfl) rfl #[.int .i64 a1] rfl am ?_; (with_reducible refine (cmp_isNaN_int64.calls a1 true _ A4.out).mono ?_); rintro e w' ⟨rfl, ⟨nd, rfl⟩⟩; refine ⟨_, rfl, ?_⟩))
      go_ret
      exact ⟨by first | rfl | (simp; done) | (simp [*]; done), by repeat (first | exact Drawn0.refl _ | apply Drawn0.step)⟩
    · replace c6 := Bool.eq_false_iff.mpr c6
      subst c6
      have H1 : (some (-1)) = some r := by rw [if_neg (show ¬ (false = true) by decide)] at H; exact H
      clear H
      have H := H1
      clear H1
      obtain rfl := Option.some.inj H
      go_enter Try.func54, Try.ntmps54
      go_wp2_with (first | ((with_reducible refine gate_callee (f := 79) rfl ?_); refine goesL_ (some 8) rfl rfl Try.func79 (by kernel_rfl) rfl #[.int .i64 a0] rfl am ?_; (with_reducible refine (cmp_isNaN_int64.calls a0 true _ A3.out).mono ?_); rintro e w' ⟨rfl, ⟨nd, rfl⟩⟩; refine ⟨_, rfl, ?_⟩) | ((with_reducible refine gate_callee (f := 79) rfl ?_); refine goesL_ (some 10) rfl rfl Try.func79 (by kernel_rfl) rfl #[.int .i64 a1] rfl am ?_; (with_reducible refine (cmp_isNaN_int64.calls a1 false _ A4.out).mono ?_); rintro e w' ⟨rfl, ⟨nd, rfl⟩⟩; refine ⟨_, rfl, ?_⟩))
      go_ret
      exact ⟨by first | rfl | (simp; done) | (simp [*]; done), by repeat (first | exact Drawn0.refl _ | apply Drawn0.step)⟩
  · replace c5 := Bool.eq_false_iff.mpr c5
    subst c5
    have H1 : (if t191 = true then (some 1) else (if a0 < a1 then (some (-1)) else (if a0 > a1 then (some 1) else (some 0)))) = some r := by rw [if_neg (show ¬ (false = true) by decide)] at H; exact H
    clear H
    have H := H1
    clear H1
    by_cases c7 : t191 = true
    · subst c7
      have H1 : (some 1) = some r := by rw [if_pos rfl] at H; exact H
      clear H
      have H := H1
      clear H1
      obtain rfl := Option.some.inj H
      go_enter Try.func54, Try.ntmps54
      go_wp2_with (first | ((with_reducible refine gate_callee (f := 79) rfl ?_); refine goesL_ (some 8) rfl rfl Try.func79 (by kernel_rfl) rfl #[.int .i64 a0] rfl am ?_; (with_reducible refine (cmp_isNaN_int64.calls a0 false _ A3.out).mono ?_); rintro e w' ⟨rfl, ⟨nd, rfl⟩⟩; refine ⟨_, rfl, ?_⟩) | ((with_reducible refine gate_callee (f := 79) rfl ?_); refine goesL_ (some 10) rfl rfl Try.func79 (by kernel_rfl) rfl #[.int .i64 a1] rfl am ?_; (with_reducible refine (cmp_isNaN_int64.calls a1 true _ A4.out).mono ?_); rintro e w' ⟨rfl, ⟨nd, rfl⟩⟩; refine ⟨_, rfl, ?_⟩))
      go_ret
      exact ⟨by first | rfl | (simp; done) | (simp [*]; done), by repeat (first | exact Drawn0.refl _ | apply Drawn0.step)⟩
    · replace c7 := Bool.eq_false_iff.mpr c7
      subst c7
      have H1 : (if a0 < a1 then (some (-1)) else (if a0 > a1 then (some 1) else (some 0))) = some r := by rw [if_neg (show ¬ (false = true) by decide)] at H; exact H
      clear H
      have H := H1
      clear H1
      by_cases c8 : a0 < a1
      · rw [if_pos c8] at H
        have c8b0 : decide (a0 < a1) = true := decide_eq_true c8
        clear c8
        obtain rfl := Option.some.inj H
        go_enter Try.func54, Try.ntmps54
        go_wp2_with (first | ((with_reducible refine gate_callee (f := 79) rfl ?_); refine goesL_ (some 8) rfl rfl Try.func79 (by kernel_rfl) rfl #[.int .i64 a0] rfl am ?_; (with_reducible refine (cmp_isNaN_int64.calls a0 false _ A3.out).mono ?_); rintro e w' ⟨rfl, ⟨nd, rfl⟩⟩; refine ⟨_, rfl, ?_⟩) | ((with_reducible refine gate_callee (f := 79) rfl ?_); refine goesL_ (some 10) rfl rfl Try.func79 (by kernel_rfl) rfl #[.int .i64 a1] rfl am ?_; (with_reducible refine (cmp_isNaN_int64.calls a1 false _ A4.out).mono ?_); rintro e w' ⟨rfl, ⟨nd, rfl⟩⟩; refine ⟨_, rfl, ?_⟩))
        go_ret
        exact ⟨by first | rfl | (simp; done) | (simp [*]; done), by repeat (first | exact Drawn0.refl _ | apply Drawn0.step)⟩
      · rw [if_neg c8] at H
        have c8b0 : decide (a0 < a1) = false := decide_eq_false c8
        clear c8
        by_cases c9 : a0 > a1
        · rw [if_pos c9] at H
          have c9b0 : decide (a1 < a0) = true := decide_eq_true c9
          clear c9
          obtain rfl := Option.some.inj H
          go_enter Try.func54, Try.ntmps54
          go_wp2_with (first | ((with_reducible refine gate_callee (f := 79) rfl ?_); refine goesL_ (some 8) rfl rfl Try.func79 (by kernel_rfl) rfl #[.int .i64 a0] rfl am ?_; (with_reducible refine (cmp_isNaN_int64.calls a0 false _ A3.out).mono ?_); rintro e w' ⟨rfl, ⟨nd, rfl⟩⟩; refine ⟨_, rfl, ?_⟩) | ((with_reducible refine gate_callee (f := 79) rfl ?_); refine goesL_ (some 10) rfl rfl Try.func79 (by kernel_rfl) rfl #[.int .i64 a1] rfl am ?_; (with_reducible refine (cmp_isNaN_int64.calls a1 false _ A4.out).mono ?_); rintro e w' ⟨rfl, ⟨nd, rfl⟩⟩; refine ⟨_, rfl, ?_⟩))
          go_ret
          exact ⟨by first | rfl | (simp; done) | (simp [*]; done), by repeat (first | exact Drawn0.refl _ | apply Drawn0.step)⟩
        · rw [if_neg c9] at H
          have c9b0 : decide (a1 < a0) = false := decide_eq_false c9
          clear c9
          obtain rfl := Option.some.inj H
          go_enter Try.func54, Try.ntmps54
          go_wp2_with (first | ((with_reducible refine gate_callee (f := 79) rfl ?_); refine goesL_ (some 8) rfl rfl Try.func79 (by kernel_rfl) rfl #[.int .i64 a0] rfl am ?_; (with_reducible refine (cmp_isNaN_int64.calls a0 false _ A3.out).mono ?_); rintro e w' ⟨rfl, ⟨nd, rfl⟩⟩; refine ⟨_, rfl, ?_⟩) | ((with_reducible refine gate_callee (f := 79) rfl ?_); refine goesL_ (some 10) rfl rfl Try.func79 (by kernel_rfl) rfl #[.int .i64 a1] rfl am ?_; (with_reducible refine (cmp_isNaN_int64.calls a1 false _ A4.out).mono ?_); rintro e w' ⟨rfl, ⟨nd, rfl⟩⟩; refine ⟨_, rfl, ?_⟩))
          go_ret
          exact ⟨by first | rfl | (simp; done) | (simp [*]; done), by repeat (first | exact Drawn0.refl _ | apply Drawn0.step)⟩
end
section
/-! ### grids_outside: function 46 -/
def grids_outside.f (a0 : Int) (a1 : Int) : Option (Bool) := (some (wrap64 (-a1))).bind fun z101 => (if a0 < z101 then (some true) else (some (decide (a0 > a1))))
set_option maxHeartbeats 8000000 in
set_option maxRecDepth 100000 in
theorem grids_outside.calls (a0 : Int) (a1 : Int) (r : Bool) (w : World) (h : grids_outside.f a0 a1 = some r) :
    Calls Try.prog 46 #[.int .i64 a0, .int .i64 a1] w fun e w' => e = .returned (.bool r) ∧ Drawn0 w w' := by
  have H : ((some (wrap64 (-a1))).bind fun z101 => (if a0 < z101 then (some true) else (some (decide (a0 > a1))))) = some r := h
  clear h
  replace H := Option.bind_eq_some_iff.mp H
  obtain ⟨z101, E30, H⟩ := H
  replace H : (if a0 < z101 then (some true) else (some (decide (a0 > a1)))) = some r := H
  replace E30 := Option.some.inj E30
  have E3w : (IntKind.i64.wrap (-a1)) = z101 := (i64_w _).trans E30
  by_cases c4 : a0 < z101
  · rw [if_pos c4] at H
    have c4b0 : decide (a0 < z101) = true := decide_eq_true c4
    clear c4
    obtain rfl := Option.some.inj H
    go_enter Try.func46, Try.ntmps46
    go_wp2
    go_ret
    exact ⟨by first | rfl | (simp; done) | (simp [*]; done), by repeat (first | exact Drawn0.refl _ | apply Drawn0.step)⟩
  · rw [if_neg c4] at H
    have c4b0 : decide (a0 < z101) = false := decide_eq_false c4
    clear c4
    obtain rfl := Option.some.inj H
    go_enter Try.func46, Try.ntmps46
    go_wp2
    go_ret
    exact ⟨by first | rfl | (simp; done) | (simp [*]; done), by repeat (first | exact Drawn0.refl _ | apply Drawn0.step)⟩
end
section
/-! ### grids_point_1: function 77 -/
def grids_point_1.f (a0_0 : Int) (a0_1 : Int) : Option (Bool) := (grids_outside.f a0_0 1000000).bind fun t395 => (if t395 = true then (some true) else ((grids_outside.f a0_1 1000000).bind fun t396 => (some t396)))
set_option maxHeartbeats 8000000 in
set_option maxRecDepth 100000 in
theorem grids_point_1.calls (a0_0 : Int) (a0_1 : Int) (r : Bool) (w : World) (h : grids_point_1.f a0_0 a0_1 = some r) :
    Calls Try.prog 77 #[.agg #[.int .i64 a0_0, .int .i64 a0_1]] w fun e w' => e = .returned (.bool r) ∧ Below w.heap.size w w' := by
  have hu37 := Try.underlying37
  have HB := Aside0.mk (Below.refl w.heap.size w)
  have H : ((grids_outside.f a0_0 1000000).bind fun t395 => (if t395 = true then (some true) else ((grids_outside.f a0_1 1000000).bind fun t396 => (some t396)))) = some r := h
  clear h
  replace H := Option.bind_eq_some_iff.mp H
  obtain ⟨t395, A20, H⟩ := H
  replace H : (if t395 = true then (some true) else ((grids_outside.f a0_1 1000000).bind fun t396 => (some t396))) = some r := H
  have A2 := Aside0.mk A20
  clear A20
  by_cases c3 : t395 = true
  · subst c3
    have H1 : (some true) = some r := by rw [if_pos rfl] at H; exact H
    clear H
    have H := H1
    clear H1
    obtain rfl := Option.some.inj H
    go_enter Try.func77, Try.ntmps77
    go_wp2_with (first | ((with_reducible refine gate_dst (N := 1) rfl ?_); refine box_event ?hg (N := 1) ?hd (cs := #[.int .i64 a0_0, .int .i64 a0_1]) (t := 37) ?hr ?_; (case hd => rfl); (case hg => rfl); (case hr => first | (go_simp; done) | (go_simp; rfl)); intro gb394 hg w4 hbox hb; have BK394 := Aside0.mk (hbox); have GW394 := Aside0.mk ((by rw [hg]; exact (below_size (bnow HB)) : w.heap.size ≤ gb394)); have GE394 := Aside0.mk ((by rw [hg]; exact (below_size (bnow HB)) : w.heap.size ≤ gb394)); replace HB := bst HB hb; clear hb hbox hg; have hcz5_0 : w4.cell? ⟨gb394, 0, none⟩ = some (.int .i64 a0_0) := (blk_cell BK394.out 0).trans rfl; have hcz5_1 : w4.cell? ⟨gb394, 1, none⟩ = some (.int .i64 a0_1) := (blk_cell BK394.out 1).trans rfl; have hfz5_0 := blk_frozen BK394.out 0; have hfz5_1 := blk_frozen BK394.out 1) | ((with_reducible refine gate_callee (f := 46) rfl ?_); refine goesL_ (some 5) rfl rfl Try.func46 (by kernel_rfl) rfl #[.int .i64 a0_0, .int .i64 1000000] rfl am ?_; (with_reducible refine (grids_outside.calls a0_0 1000000 true _ A2.out).mono ?_); rintro e w' ⟨rfl, ⟨nd, rfl⟩⟩; refine ⟨_, rfl, ?_⟩))
    go_ret
    exact ⟨by first | rfl | (simp [errW_none, errW_some] <;> rfl) | (simp [*, errW_none, errW_some] <;> rfl), by repeat (first | (with_reducible first | exact HB.out | apply below_alloc | apply pw_below_drewN | apply below_drew1 | refine below_set ?_ GE394.out) | exact HB.out)⟩
  · replace c3 := Bool.eq_false_iff.mpr c3
    subst c3
    have H1 : ((grids_outside.f a0_1 1000000).bind fun t396 => (some t396)) = some r := by rw [if_neg (show ¬ (false = true) by decide)] at H; exact H
    clear H
    have H := H1
    clear H1
    replace H := Option.bind_eq_some_iff.mp H
    obtain ⟨t396, A60, H⟩ := H
    replace H : (some t396) = some r := H
    have A6 := Aside0.mk A60
    clear A60
    obtain rfl := Option.some.inj H
    go_enter Try.func77, Try.ntmps77
    go_wp2_with (first | ((with_reducible refine gate_dst (N := 1) rfl ?_); refine box_event ?hg (N := 1) ?hd (cs := #[.int .i64 a0_0, .int .i64 a0_1]) (t := 37) ?hr ?_; (case hd => rfl); (case hg => rfl); (case hr => first | (go_simp; done) | (go_simp; rfl)); intro gb394 hg w7 hbox hb; have BK394 := Aside0.mk (hbox); have GW394 := Aside0.mk ((by rw [hg]; exact (below_size (bnow HB)) : w.heap.size ≤ gb394)); have GE394 := Aside0.mk ((by rw [hg]; exact (below_size (bnow HB)) : w.heap.size ≤ gb394)); replace HB := bst HB hb; clear hb hbox hg; have hcz8_0 : w7.cell? ⟨gb394, 0, none⟩ = some (.int .i64 a0_0) := (blk_cell BK394.out 0).trans rfl; have hcz8_1 : w7.cell? ⟨gb394, 1, none⟩ = some (.int .i64 a0_1) := (blk_cell BK394.out 1).trans rfl; have hfz8_0 := blk_frozen BK394.out 0; have hfz8_1 := blk_frozen BK394.out 1) | ((with_reducible refine gate_callee (f := 46) rfl ?_); refine goesL_ (some 5) rfl rfl Try.func46 (by kernel_rfl) rfl #[.int .i64 a0_0, .int .i64 1000000] rfl am ?_; (with_reducible refine (grids_outside.calls a0_0 1000000 false _ A2.out).mono ?_); rintro e w' ⟨rfl, ⟨nd, rfl⟩⟩; refine ⟨_, rfl, ?_⟩) | (go_at_call 46; (with_reducible refine (grids_outside.calls a0_1 1000000 t396 _ A6.out).mono ?_); rintro e w' ⟨rfl, ⟨nd, rfl⟩⟩))
    go_ret
    exact ⟨by first | rfl | (simp [errW_none, errW_some] <;> rfl) | (simp [*, errW_none, errW_some] <;> rfl), by repeat (first | (with_reducible first | exact HB.out | apply below_alloc | apply pw_below_drewN | apply below_drew1 | refine below_set ?_ GE394.out) | exact HB.out)⟩
end
section
/-! ### api_GrPoint_84: function 84 -/
def api_GrPoint_84.l0 : Nat → List (S37) → Int → Int → Option (Int)
  | 0, _, _, _ => none
  | k + 1, x0, x7, x8 => if x8 < x7 then (if 0 ≤ x8 then (if x8 < (x0.length : Int) then ((grids_point_1.f ((rd_T37 x0 x8).f0) ((rd_T37 x0 x8).f1)).bind fun t398 => (if t398 = true then (some x8) else ((some (wrap64 (x8 + 1))).bind fun z399 => (api_GrPoint_84.l0 k x0 x7 z399)))) else (none)) else (none)) else (some (-1))
def api_GrPoint_84.f (k : Nat) (l0 : List (S37))  : Option (Int) := api_GrPoint_84.l0 k l0 (l0.length : Int) 0
theorem api_GrPoint_84.mono_l : ∀ k, (∀ y0 y1 y2, LeO (api_GrPoint_84.l0 k y0 y1 y2) (api_GrPoint_84.l0 (k + 1) y0 y1 y2))
  | 0 => fun _ _ _ r h => by simp [api_GrPoint_84.l0] at h
  | k + 1 => by
    have ih0 := api_GrPoint_84.mono_l k
    · intro y0 y1 y2
      unfold api_GrPoint_84.l0
      repeat' first
      | (with_reducible exact ih0 _ _ _)
      | (with_reducible exact LeO.refl _)
      | (with_reducible exact LeO.none _)
      | (with_reducible refine LeO.ite ?_ ?_)
      | (with_reducible refine LeO.bind ?_ (fun _ => ?_))
      | exact ih0 _ _ _
      | exact LeO.none _
      | refine LeO.ite ?_ ?_
      | refine LeO.bind ?_ (fun _ => ?_)
theorem api_GrPoint_84.mono : ∀ a0 k, LeO (api_GrPoint_84.f k a0) (api_GrPoint_84.f (k + 1) a0) := by
  intro a0 k
  have ih0 := api_GrPoint_84.mono_l k
  unfold api_GrPoint_84.f
  repeat' first
      | (with_reducible exact ih0 _ _ _)
      | (with_reducible exact LeO.refl _)
      | (with_reducible exact LeO.none _)
      | (with_reducible refine LeO.ite ?_ ?_)
      | (with_reducible refine LeO.bind ?_ (fun _ => ?_))
      | exact ih0 _ _ _
      | exact LeO.none _
      | refine LeO.ite ?_ ?_
      | refine LeO.bind ?_ (fun _ => ?_)
set_option maxHeartbeats 8000000 in
set_option maxRecDepth 100000 in
theorem api_GrPoint_84.calls (k : Nat) (A0 : Option Addr) (c0 : Nat) (l0 : List (S37))  (r : Int) (w : World) (hr0 : Kd.C k37 w A0 l0.length l0) (hc0 : l0.length ≤ c0) (h : api_GrPoint_84.f k l0 = some r) :
    Calls Try.prog 84 #[.slice A0 l0.length c0, .func (.func 77) #[] #[]] w fun e w' => e = .returned (.int .i64 r) ∧ Below w.heap.size w w' := by
  have hu37 := Try.underlying37
  have HR0 := Aside0.mk hr0
  have HC0 := Aside0.mk hc0
  clear hr0 hc0
  have HB := Aside0.mk (Below.refl w.heap.size w)
  have H : (api_GrPoint_84.l0 k l0 (l0.length : Int) 0) = some r := h
  clear h
  have H' := Aside0.mk H
  clear H
  go_enter Try.func84, Try.ntmps84
  go_wp2
  go_loopg [8] k (fun kq v8 w' => ∃ (x8_1 : Int), v8 = .int .i64 x8_1 ∧ Aside0 (api_GrPoint_84.l0 kq l0 (l0.length : Int) x8_1 = some r) ∧ Aside0 (kq ≤ k) ∧ Aside0 (Below w.heap.size w w'))
  case atStart => exact ⟨(0), (by first | rfl | (simp; done) | (simp [*]; done)), H', ⟨Nat.le_refl _⟩, ⟨bnow HB⟩⟩
  case round =>
    clear H'
    try clear p2
    obtain ⟨x8_1, rfl, HA, HK1, HB⟩ := hrel
    cases gk with
    | zero => exact absurd HA.out (by simp [api_GrPoint_84.l0])
    | succ k1 =>
      have H := HA.out
      clear HA
      simp only [api_GrPoint_84.l0] at H
      by_cases c3 : x8_1 < (l0.length : Int)
      · rw [if_pos c3] at H
        have c3b0 : decide (x8_1 < (l0.length : Int)) = true := decide_eq_true c3
        clear c3
        by_cases c4 : 0 ≤ x8_1
        · rw [if_pos c4] at H
          have c4b0 : decide (0 ≤ x8_1) = true := decide_eq_true c4
          clear c4
          by_cases c5 : x8_1 < (l0.length : Int)
          · rw [if_pos c5] at H
            have c5b0 : decide (x8_1 < (l0.length : Int)) = true := decide_eq_true c5
            clear c5
            replace H := Option.bind_eq_some_iff.mp H
            obtain ⟨t398, A60, H⟩ := H
            replace H : (if t398 = true then (some x8_1) else ((some (wrap64 (x8_1 + 1))).bind fun z399 => (api_GrPoint_84.l0 k1 l0 (l0.length : Int) z399))) = some r := H
            have A6 := Aside0.mk A60
            clear A60
            by_cases c7 : t398 = true
            · subst c7
              have H1 : (some x8_1) = some r := by rw [if_pos rfl] at H; exact H
              clear H
              have H := H1
              clear H1
              obtain rfl := Option.some.inj H
              have p397 : 0 ≤ (x8_1 : Int) := of_decide_eq_true (by first | (with_reducible assumption) | assumption)
              have q397 : x8_1 < (l0.length : Int) := of_decide_eq_true (by first | (with_reducible assumption) | assumption)
              obtain ⟨ad397, e397, hx397_0, hx397_1⟩ := at_T37 HR0.out x8_1 p397 q397
              cases e397
              replace hx397_0 := (HB.out.cell (World.block_lt_of_cell? w _ hx397_0)).trans hx397_0
              replace hx397_1 := (HB.out.cell (World.block_lt_of_cell? w _ hx397_1)).trans hx397_1
              replace p397 := eq_true p397
              replace q397 := eq_true q397
              go_wp2_with (first | (go_at_call 77; (with_reducible refine (grids_point_1.calls ((rd_T37 l0 x8_1).f0) ((rd_T37 l0 x8_1).f1) true _ A6.out).mono ?_); rintro e w8 ⟨rfl, hb⟩; replace HB := bst HB hb; clear hb))
              go_ret
              exact ⟨by first | rfl | (simp [errW_none, errW_some] <;> rfl) | (simp [*, errW_none, errW_some] <;> rfl), by repeat (first | (with_reducible first | exact HB.out | apply below_alloc | apply pw_below_drewN | apply below_drew1) | exact HB.out)⟩
            · replace c7 := Bool.eq_false_iff.mpr c7
              subst c7
              have H1 : ((some (wrap64 (x8_1 + 1))).bind fun z399 => (api_GrPoint_84.l0 k1 l0 (l0.length : Int) z399)) = some r := by rw [if_neg (show ¬ (false = true) by decide)] at H; exact H
              clear H
              have H := H1
              clear H1
              replace H := Option.bind_eq_some_iff.mp H
              obtain ⟨z399, E90, H⟩ := H
              replace H : (api_GrPoint_84.l0 k1 l0 (l0.length : Int) z399) = some r := H
              replace E90 := Option.some.inj E90
              have E9w : (IntKind.i64.wrap (x8_1 + 1)) = z399 := (i64_w _).trans E90
              have H' := Aside0.mk H
              clear H
              have p397 : 0 ≤ (x8_1 : Int) := of_decide_eq_true (by first | (with_reducible assumption) | assumption)
              have q397 : x8_1 < (l0.length : Int) := of_decide_eq_true (by first | (with_reducible assumption) | assumption)
              obtain ⟨ad397, e397, hx397_0, hx397_1⟩ := at_T37 HR0.out x8_1 p397 q397
              cases e397
              replace hx397_0 := (HB.out.cell (World.block_lt_of_cell? w _ hx397_0)).trans hx397_0
              replace hx397_1 := (HB.out.cell (World.block_lt_of_cell? w _ hx397_1)).trans hx397_1
              replace p397 := eq_true p397
              replace q397 := eq_true q397
              go_wp2_with (first | (go_at_call 77; (with_reducible refine (grids_point_1.calls ((rd_T37 l0 x8_1).f0) ((rd_T37 l0 x8_1).f1) false _ A6.out).mono ?_); rintro e w10 ⟨rfl, hb⟩; replace HB := bst HB hb; clear hb))
              go_roundg k1
              case measure => have := HK1.out; omega
              case rel => exact ⟨(z399), (by first | rfl | (simp; done) | (simp [*]; done)), H', ⟨by have := HK1.out; omega⟩, ⟨bnow HB⟩⟩
          · rw [if_neg c5] at H
            exact absurd H (by simp)
        · rw [if_neg c4] at H
          exact absurd H (by simp)
      · rw [if_neg c3] at H
        have c3b0 : decide (x8_1 < (l0.length : Int)) = false := decide_eq_false c3
        clear c3
        obtain rfl := Option.some.inj H
        go_wp2
        go_ret
        exact ⟨by first | rfl | (simp [errW_none, errW_some] <;> rfl) | (simp [*, errW_none, errW_some] <;> rfl), by repeat (first | (with_reducible first | exact HB.out | apply below_alloc | apply pw_below_drewN | apply below_drew1) | exact HB.out)⟩
end
section
/-! ### api_GrPoint_76: function 76 -/
def api_GrPoint_76.f (k : Nat) (l0 : List (S37))  : Option (Bool) := (api_GrPoint_84.f k l0).bind fun t400 => (some (decide (t400 ≥ 0)))
theorem api_GrPoint_76.mono : ∀ a0 k, LeO (api_GrPoint_76.f k a0) (api_GrPoint_76.f (k + 1) a0) := by
  intro a0 k
  unfold api_GrPoint_76.f
  repeat' first
      | (with_reducible exact api_GrPoint_84.mono _ _)
      | (with_reducible exact LeO.refl _)
      | (with_reducible exact LeO.none _)
      | (with_reducible refine LeO.ite ?_ ?_)
      | (with_reducible refine LeO.bind ?_ (fun _ => ?_))
      | exact api_GrPoint_84.mono _ _
      | exact LeO.none _
      | refine LeO.ite ?_ ?_
      | refine LeO.bind ?_ (fun _ => ?_)
set_option maxHeartbeats 8000000 in
set_option maxRecDepth 100000 in
theorem api_GrPoint_76.calls (k : Nat) (A0 : Option Addr) (c0 : Nat) (l0 : List (S37))  (r : Bool) (w : World) (hr0 : Kd.C k37 w A0 l0.length l0) (hc0 : l0.length ≤ c0) (h : api_GrPoint_76.f k l0 = some r) :
    Calls Try.prog 76 #[.slice A0 l0.length c0, .func (.func 77) #[] #[]] w fun e w' => e = .returned (.bool r) ∧ Below w.heap.size w w' := by
  have HR0 := Aside0.mk hr0
  have HC0 := Aside0.mk hc0
  clear hr0 hc0
  have HB := Aside0.mk (Below.refl w.heap.size w)
  have H : ((api_GrPoint_84.f k l0).bind fun t400 => (some (decide (t400 ≥ 0)))) = some r := h
  clear h
  replace H := Option.bind_eq_some_iff.mp H
  obtain ⟨t400, A30, H⟩ := H
  replace H : (some (decide (t400 ≥ 0))) = some r := H
  have A3 := Aside0.mk A30
  clear A30
  obtain rfl := Option.some.inj H
  go_enter Try.func76, Try.ntmps76
  go_wp2_with (first | ((with_reducible refine gate_callee (f := 84) rfl ?_); refine goesL_ (some 7) rfl rfl Try.func84 (by kernel_rfl) rfl #[.slice A0 l0.length c0, .func (.func 77) #[] #[]] rfl am ?_; (with_reducible refine (api_GrPoint_84.calls k _ _ l0  t400 _ ?side1 ?side2 A3.out).mono ?_); (case side1 => repeat (first | exact HR0.out | (with_reducible refine Kd.C_alloc ?_ _) | (with_reducible refine Kd.C_drewN ?_ _) | (with_reducible refine Kd.C_drew ?_))); (case side2 => exact HC0.out); rintro e w4 ⟨rfl, hb⟩; refine ⟨_, rfl, ?_⟩; replace HB := bst HB hb; clear hb))
  go_ret
  exact ⟨by first | rfl | (simp [errW_none, errW_some] <;> rfl) | (simp [*, errW_none, errW_some] <;> rfl), by repeat (first | (with_reducible first | exact HB.out | apply below_alloc | apply pw_below_drewN | apply below_drew1) | exact HB.out)⟩
end
section
/-! ### grids_point: function 49 -/
def grids_point.f (k : Nat) (l0 : List (S37)) : Option (Bool) := (api_GrPoint_76.f k l0).bind fun t401 => (some (!t401))
theorem grids_point.mono : ∀ a0 k, LeO (grids_point.f k a0) (grids_point.f (k + 1) a0) := by
  intro a0 k
  unfold grids_point.f
  repeat' first
      | (with_reducible exact api_GrPoint_76.mono _ _)
      | (with_reducible exact LeO.refl _)
      | (with_reducible exact LeO.none _)
      | (with_reducible refine LeO.ite ?_ ?_)
      | (with_reducible refine LeO.bind ?_ (fun _ => ?_))
      | exact api_GrPoint_76.mono _ _
      | exact LeO.none _
      | refine LeO.ite ?_ ?_
      | refine LeO.bind ?_ (fun _ => ?_)
set_option maxHeartbeats 8000000 in
set_option maxRecDepth 100000 in
theorem grids_point.calls (k : Nat) (A0 : Option Addr) (c0 : Nat) (l0 : List (S37)) (r : Bool) (w : World) (hr0 : Kd.C k37 w A0 l0.length l0) (hc0 : l0.length ≤ c0) (h : grids_point.f k l0 = some r) :
    Calls Try.prog 49 #[.slice A0 l0.length c0] w fun e w' => e = .returned (.bool r) ∧ Below w.heap.size w w' := by
  have HR0 := Aside0.mk hr0
  have HC0 := Aside0.mk hc0
  clear hr0 hc0
  have HB := Aside0.mk (Below.refl w.heap.size w)
  have H : ((api_GrPoint_76.f k l0).bind fun t401 => (some (!t401))) = some r := h
  clear h
  replace H := Option.bind_eq_some_iff.mp H
  obtain ⟨t401, A20, H⟩ := H
  replace H : (some (!t401)) = some r := H
  have A2 := Aside0.mk A20
  clear A20
  obtain rfl := Option.some.inj H
  go_enter Try.func49, Try.ntmps49
  go_wp2_with (first | ((with_reducible refine gate_callee (f := 76) rfl ?_); refine goesL_ (some 4) rfl rfl Try.func76 (by kernel_rfl) rfl #[.slice A0 l0.length c0, .func (.func 77) #[] #[]] rfl am ?_; (with_reducible refine (api_GrPoint_76.calls k _ _ l0  t401 _ ?side1 ?side2 A2.out).mono ?_); (case side1 => repeat (first | exact HR0.out | (with_reducible refine Kd.C_alloc ?_ _) | (with_reducible refine Kd.C_drewN ?_ _) | (with_reducible refine Kd.C_drew ?_))); (case side2 => exact HC0.out); rintro e w3 ⟨rfl, hb⟩; refine ⟨_, rfl, ?_⟩; replace HB := bst HB hb; clear hb))
  go_ret
  exact ⟨by first | rfl | (simp [errW_none, errW_some] <;> rfl) | (simp [*, errW_none, errW_some] <;> rfl), by repeat (first | (with_reducible first | exact HB.out | apply below_alloc | apply pw_below_drewN | apply below_drew1) | exact HB.out)⟩
end
section
/-! ### grids_to: function 50 -/
def grids_to.f (a0_0 : Int) (a0_1 : Int) (a1_0 : Int) (a1_1 : Int) : Option (Int × Int) := (some (wrap64 (a1_0 - a0_0))).bind fun z405 => ((some (wrap64 (a1_1 - a0_1))).bind fun z406 => (some (z405, z406)))
set_option maxHeartbeats 8000000 in
set_option maxRecDepth 100000 in
theorem grids_to.calls (a0_0 : Int) (a0_1 : Int) (a1_0 : Int) (a1_1 : Int) (r1 : Int) (r2 : Int) (w : World) (h : grids_to.f a0_0 a0_1 a1_0 a1_1 = some (r1, r2)) :
    Calls Try.prog 50 #[.agg #[.int .i64 a0_0, .int .i64 a0_1], .agg #[.int .i64 a1_0, .int .i64 a1_1]] w fun e w' => e = .returned (.agg #[.int .i64 r1, .int .i64 r2]) ∧ Below w.heap.size w w' := by
  have hu37 := Try.underlying37
  have hu81 := Try.underlying81
  have HB := Aside0.mk (Below.refl w.heap.size w)
  have H : ((some (wrap64 (a1_0 - a0_0))).bind fun z405 => ((some (wrap64 (a1_1 - a0_1))).bind fun z406 => (some (z405, z406)))) = some (r1, r2) := h
  clear h
  replace H := Option.bind_eq_some_iff.mp H
  obtain ⟨z405, E30, H⟩ := H
  replace H : ((some (wrap64 (a1_1 - a0_1))).bind fun z406 => (some (z405, z406))) = some (r1, r2) := H
  replace E30 := Option.some.inj E30
  have E3w : (IntKind.i64.wrap (a1_0 - a0_0)) = z405 := (i64_w _).trans E30
  replace H := Option.bind_eq_some_iff.mp H
  obtain ⟨z406, E40, H⟩ := H
  replace H : (some (z405, z406)) = some (r1, r2) := H
  replace E40 := Option.some.inj E40
  have E4w : (IntKind.i64.wrap (a1_1 - a0_1)) = z406 := (i64_w _).trans E40
  simp only [Option.some.injEq, Prod.mk.injEq] at H
  obtain ⟨rfl, rfl⟩ := H
  go_enter Try.func50, Try.ntmps50
  go_wp2_with (first | ((with_reducible refine gate_dst (N := 2) rfl ?_); refine box_event ?hg (N := 2) ?hd (cs := #[.int .i64 a0_0, .int .i64 a0_1]) (t := 37) ?hr ?_; (case hd => rfl); (case hg => rfl); (case hr => first | (go_simp; done) | (go_simp; rfl)); intro gb402 hg w5 hbox hb; have BK402 := Aside0.mk (hbox); have GW402 := Aside0.mk ((by rw [hg]; exact (below_size (bnow HB)) : w.heap.size ≤ gb402)); have GE402 := Aside0.mk ((by rw [hg]; exact (below_size (bnow HB)) : w.heap.size ≤ gb402)); replace HB := bst HB hb; clear hb hbox hg) | ((with_reducible refine gate_dst (N := 3) rfl ?_); refine box_event ?hg (N := 3) ?hd (cs := #[.int .i64 a1_0, .int .i64 a1_1]) (t := 37) ?hr ?_; (case hd => rfl); (case hg => rfl); (case hr => first | (go_simp; done) | (go_simp; rfl)); intro gb403 hg w6 hbox hb; have BK403 := Aside0.mk (hbox); have GW403 := Aside0.mk ((by rw [hg]; exact (below_size (bnow HB)) : w.heap.size ≤ gb403)); have GE403 := Aside0.mk ((by rw [hg]; exact (below_size (bnow HB)) : w.heap.size ≤ gb403)); have NB402_403 := Aside0.mk ((by rw [hg]; exact Nat.ne_of_lt (blk_lt (g := gb402) (o := .cells #[.int .i64 a0_0, .int .i64 a0_1] 37 (0, 0)) (pk BK402)) : gb402 ≠ gb403)); have NB403_402 := Aside0.mk ((by rw [hg]; exact Nat.ne_of_gt (blk_lt (g := gb402) (o := .cells #[.int .i64 a0_0, .int .i64 a0_1] 37 (0, 0)) (pk BK402)) : gb403 ≠ gb402)); replace BK402 := bb BK402 hb; replace HB := bst HB hb; clear hb hbox hg) | ((with_reducible refine gate_dst (N := 4) rfl ?_); refine box_event ?hg (N := 4) ?hd (cs := #[.int .i64 0, .int .i64 0]) (t := 81) ?hr ?_; (case hd => rfl); (case hg => rfl); (case hr => first | (go_simp; done) | (go_simp; rfl)); intro gb404 hg w7 hbox hb; have BK404 := Aside0.mk (hbox); have GW404 := Aside0.mk ((by rw [hg]; exact (below_size (bnow HB)) : w.heap.size ≤ gb404)); have GE404 := Aside0.mk ((by rw [hg]; exact (below_size (bnow HB)) : w.heap.size ≤ gb404)); have NB402_404 := Aside0.mk ((by rw [hg]; exact Nat.ne_of_lt (blk_lt (g := gb402) (o := .cells #[.int .i64 a0_0, .int .i64 a0_1] 37 (0, 0)) (pk BK402)) : gb402 ≠ gb404)); have NB404_402 := Aside0.mk ((by rw [hg]; exact Nat.ne_of_gt (blk_lt (g := gb402) (o := .cells #[.int .i64 a0_0, .int .i64 a0_1] 37 (0, 0)) (pk BK402)) : gb404 ≠ gb402)); have NB403_404 := Aside0.mk ((by rw [hg]; exact Nat.ne_of_lt (blk_lt (g := gb403) (o := .cells #[.int .i64 a1_0, .int .i64 a1_1] 37 (0, 0)) (pk BK403)) : gb403 ≠ gb404)); have NB404_403 := Aside0.mk ((by rw [hg]; exact Nat.ne_of_gt (blk_lt (g := gb403) (o := .cells #[.int .i64 a1_0, .int .i64 a1_1] 37 (0, 0)) (pk BK403)) : gb404 ≠ gb403)); replace BK402 := bb BK402 hb; replace BK403 := bb BK403 hb; replace HB := bst HB hb; clear hb hbox hg; have hnb8 := NB403_402.out; have hnc8 := NB402_403.out; have hnb9 := NB403_404.out; have hnc9 := NB404_403.out; have hcz10_0 : w7.cell? ⟨gb403, 0, none⟩ = some (.int .i64 a1_0) := (blk_cell BK403.out 0).trans rfl; have hcz10_1 : w7.cell? ⟨gb403, 1, none⟩ = some (.int .i64 a1_1) := (blk_cell BK403.out 1).trans rfl; have hfz10_0 := blk_frozen BK403.out 0; have hfz10_1 := blk_frozen BK403.out 1; have hnb11 := NB402_404.out; have hnc11 := NB404_402.out; have hcz12_0 : w7.cell? ⟨gb402, 0, none⟩ = some (.int .i64 a0_0) := (blk_cell BK402.out 0).trans rfl; have hcz12_1 : w7.cell? ⟨gb402, 1, none⟩ = some (.int .i64 a0_1) := (blk_cell BK402.out 1).trans rfl; have hfz12_0 := blk_frozen BK402.out 0; have hfz12_1 := blk_frozen BK402.out 1; have hcz13_0 : w7.cell? ⟨gb404, 0, none⟩ = some (.int .i64 0) := (blk_cell BK404.out 0).trans rfl; have hcz13_1 : w7.cell? ⟨gb404, 1, none⟩ = some (.int .i64 0) := (blk_cell BK404.out 1).trans rfl; have hfz13_0 := blk_frozen BK404.out 0; have hfz13_1 := blk_frozen BK404.out 1))
  refine bodyPost_ret (results_cell_row rfl _ _ gb404 81 #[.int .i64 z405, .int .i64 z406] (0, 0) _ rfl (by (with_reducible repeat (first | refine blk_drewN ?_ _ | refine blk_drew ?_ | refine blk_alloc ?_ _)); refine blk_put (cs := #[.int .i64 z405, .int .i64 0]) ?_ 1 _ rfl; (with_reducible repeat (first | refine blk_drewN ?_ _ | refine blk_drew ?_ | refine blk_alloc ?_ _)); refine blk_put (cs := #[.int .i64 0, .int .i64 0]) ?_ 0 _ rfl; (with_reducible repeat (first | refine blk_drewN ?_ _ | refine blk_drew ?_ | refine blk_alloc ?_ _)); exact BK404.out) Try.underlying81 rfl (by kernel_rfl)) rfl ?_
  exact ⟨by first | rfl | (simp [errW_none, errW_some] <;> rfl) | (simp [*, errW_none, errW_some] <;> rfl), by repeat (first | (with_reducible first | exact HB.out | apply below_alloc | apply pw_below_drewN | apply below_drew1 | refine below_set ?_ GE402.out | refine below_set ?_ GE403.out | refine below_set ?_ GE404.out) | exact HB.out)⟩
end
section
/-! ### cmp_isNaN_int: function 78 -/
def cmp_isNaN_int.f (a0 : Int) : Option (Bool) := some (a0 != a0)
set_option maxHeartbeats 8000000 in
set_option maxRecDepth 100000 in
theorem cmp_isNaN_int.calls (a0 : Int) (r : Bool) (w : World) (h : cmp_isNaN_int.f a0 = some r) :
    Calls Try.prog 78 #[.int .i64 a0] w fun e w' => e = .returned (.bool r) ∧ Drawn0 w w' := by
  have H : (some (a0 != a0)) = some r := h
  clear h
  obtain rfl := Option.some.inj H
  go_enter Try.func78, Try.ntmps78
  go_wp2
  go_ret
  exact ⟨by first | rfl | (simp; done) | (simp [*]; done), by repeat (first | exact Drawn0.refl _ | apply Drawn0.step)⟩
end
section
/-! ### cmp_Compare_int: function 52 -/
def cmp_Compare_int.f (a0 : Int) (a1 : Int) : Option (Int) := (cmp_isNaN_int.f a0).bind fun t407 => ((cmp_isNaN_int.f a1).bind fun t408 => (if t407 = true then (if t408 = true then (some 0) else (some (-1))) else (if t408 = true then (some 1) else (if a0 < a1 then (some (-1)) else (if a0 > a1 then (some 1) else (some 0))))))
set_option maxHeartbeats 8000000 in
set_option maxRecDepth 100000 in
theorem cmp_Compare_int.calls (a0 : Int) (a1 : Int) (r : Int) (w : World) (h : cmp_Compare_int.f a0 a1 = some r) :
    Calls Try.prog 52 #[.int .i64 a0, .int .i64 a1] w fun e w' => e = .returned (.int .i64 r) ∧ Drawn0 w w' := by
  have H : ((cmp_isNaN_int.f a0).bind fun t407 => ((cmp_isNaN_int.f a1).bind fun t408 => (if t407 = true then (if t408 = true then (some 0) else (some (-1))) else (if t408 = true then (some 1) else (if a0 < a1 then (some (-1)) else (if a0 > a1 then (some 1) else (some 0))))))) = some r := h
  clear h
  replace H := Option.bind_eq_some_iff.mp H
  obtain ⟨t407, A30, H⟩ := H
  replace H : ((cmp_isNaN_int.f a1).bind fun t408 => (if t407 = true then (if t408 = true then (some 0) else (some (-1))) else (if t408 = true then (some 1) else (if a0 < a1 then (some (-1)) else (if a0 > a1 then (some 1) else (some 0)))))) = some r := H
  have A3 := Aside0.mk A30
  clear A30
  replace H := Option.bind_eq_some_iff.mp H
  obtain ⟨t408, A40, H⟩ := H
  replace H : (if t407 = true then (if t408 = true then (some 0) else (some (-1))) else (if t408 = true then (some 1) else (if a0 < a1 then (some (-1)) else (if a0 > a1 then (some 1) else (some 0))))) = some r := H
  have A4 := Aside0.mk A40
  clear A40
  by_cases c5 : t407 = true
  · subst c5
    have H1 : (if t408 = true then (some 0) else (some (-1))) = some r := by rw [if_pos rfl] at H; exact H
    clear H
    have H := H1
    clear H1
    by_cases c6 : t408 = true
    · subst c6
      have H1 : (some 0) = some r := by rw [if_pos rfl] at H; exact H
      clear H
      have H := H1
      clear H1
      obtain rfl := Option.some.inj H
      go_enter Try.func52, Try.ntmps52
      go_wp2_with (first | ((with_reducible refine gate_callee (f := 78) rfl ?_); refine goesL_ (some 8) rfl rfl Try.func78 (by kernel_rfl) rfl #[.int .i64 a0] rfl am ?_; (with_reducible refine (cmp_isNaN_int.calls a0 true _ A3.out).mono ?_); rintro e w' ⟨rfl, ⟨nd, rfl⟩⟩; refine ⟨_, rfl, ?_⟩) | ((with_reducible refine gate_callee (f := 78) rfl ?_); refine goesL_ (some 10) rfl rfl Try.func78 (by kernel_rfl) rfl #[.int .i64 a1] rfl am ?_; (with_reducible refine (cmp_isNaN_int.calls a1 true _ A4.out).mono ?_); rintro e w' ⟨rfl, ⟨nd, rfl⟩⟩; refine ⟨_, rfl, ?_⟩))
      go_ret
      exact ⟨by first | rfl | (simp; done) | (simp [*]; done), by repeat (first | exact Drawn0.refl _ | apply Drawn0.step)⟩
    · replace c6 := Bool.eq_false_iff.mpr c6
      subst c6
      have H1 : (some (-1)) = some r := by rw [if_neg (show ¬ (false = true) by decide)] at H; exact H
      clear H
      have H := H1
      clear H1
      obtain rfl := Option.some.inj H
      go_enter Try.func52, Try.ntmps52
      go_wp2_with (first | ((with_reducible refine gate_callee (f := 78) rfl ?_); refine goesL_ (some 8) rfl rfl Try.func78 (by kernel_rfl) rfl #[.int .i64 a0] rfl am ?_; (with_reducible refine (cmp_isNaN_int.calls a0 true _ A3.out).mono ?_); rintro e w' ⟨rfl, ⟨nd, rfl⟩⟩; refine ⟨_, rfl, ?_⟩) | ((with_reducible refine gate_callee (f := 78) rfl ?_); refine goesL_ (some 10) rfl rfl Try.func78 (by kernel_rfl) rfl #[.int .i64 a1] rfl am ?_; (with_reducible refine (cmp_isNaN_int.calls a1 false _ A4.out).mono ?_); rintro e w' ⟨rfl, ⟨nd, rfl⟩⟩; refine ⟨_, rfl, ?_⟩))
      go_ret
      exact ⟨by first | rfl | (simp; done) | (simp [*]; done), by repeat (first | exact Drawn0.refl _ | apply Drawn0.step)⟩
  · replace c5 := Bool.eq_false_iff.mpr c5
    subst c5
    have H1 : (if t408 = true then (some 1) else (if a0 < a1 then (some (-1)) else (if a0 > a1 then (some 1) else (some 0)))) = some r := by rw [if_neg (show ¬ (false = true) by decide)] at H; exact H
    clear H
    have H := H1
    clear H1
    by_cases c7 : t408 = true
    · subst c7
      have H1 : (some 1) = some r := by rw [if_pos rfl] at H; exact H
      clear H
      have H := H1
      clear H1
      obtain rfl := Option.some.inj H
      go_enter Try.func52, Try.ntmps52
      go_wp2_with (first | ((with_reducible refine gate_callee (f := 78) rfl ?_); refine goesL_ (some 8) rfl rfl Try.func78 (by kernel_rfl) rfl #[.int .i64 a0] rfl am ?_; (with_reducible refine (cmp_isNaN_int.calls a0 false _ A3.out).mono ?_); rintro e w' ⟨rfl, ⟨nd, rfl⟩⟩; refine ⟨_, rfl, ?_⟩) | ((with_reducible refine gate_callee (f := 78) rfl ?_); refine goesL_ (some 10) rfl rfl Try.func78 (by kernel_rfl) rfl #[.int .i64 a1] rfl am ?_; (with_reducible refine (cmp_isNaN_int.calls a1 true _ A4.out).mono ?_); rintro e w' ⟨rfl, ⟨nd, rfl⟩⟩; refine ⟨_, rfl, ?_⟩))
      go_ret
      exact ⟨by first | rfl | (simp; done) | (simp [*]; done), by repeat (first | exact Drawn0.refl _ | apply Drawn0.step)⟩
    · replace c7 := Bool.eq_false_iff.mpr c7
      subst c7
      have H1 : (if a0 < a1 then (some (-1)) else (if a0 > a1 then (some 1) else (some 0))) = some r := by rw [if_neg (show ¬ (false = true) by decide)] at H; exact H
      clear H
      have H := H1
      clear H1
      by_cases c8 : a0 < a1
      · rw [if_pos c8] at H
        have c8b0 : decide (a0 < a1) = true := decide_eq_true c8
        clear c8
        obtain rfl := Option.some.inj H
        go_enter Try.func52, Try.ntmps52
        go_wp2_with (first | ((with_reducible refine gate_callee (f := 78) rfl ?_); refine goesL_ (some 8) rfl rfl Try.func78 (by kernel_rfl) rfl #[.int .i64 a0] rfl am ?_; (with_reducible refine (cmp_isNaN_int.calls a0 false _ A3.out).mono ?_); rintro e w' ⟨rfl, ⟨nd, rfl⟩⟩; refine ⟨_, rfl, ?_⟩) | ((with_reducible refine gate_callee (f := 78) rfl ?_); refine goesL_ (some 10) rfl rfl Try.func78 (by kernel_rfl) rfl #[.int .i64 a1] rfl am ?_; (with_reducible refine (cmp_isNaN_int.calls a1 false _ A4.out).mono ?_); rintro e w' ⟨rfl, ⟨nd, rfl⟩⟩; refine ⟨_, rfl, ?_⟩))
        go_ret
        exact ⟨by first | rfl | (simp; done) | (simp [*]; done), by repeat (first | exact Drawn0.refl _ | apply Drawn0.step)⟩
      · rw [if_neg c8] at H
        have c8b0 : decide (a0 < a1) = false := decide_eq_false c8
        clear c8
        by_cases c9 : a0 > a1
        · rw [if_pos c9] at H
          have c9b0 : decide (a1 < a0) = true := decide_eq_true c9
          clear c9
          obtain rfl := Option.some.inj H
          go_enter Try.func52, Try.ntmps52
          go_wp2_with (first | ((with_reducible refine gate_callee (f := 78) rfl ?_); refine goesL_ (some 8) rfl rfl Try.func78 (by kernel_rfl) rfl #[.int .i64 a0] rfl am ?_; (with_reducible refine (cmp_isNaN_int.calls a0 false _ A3.out).mono ?_); rintro e w' ⟨rfl, ⟨nd, rfl⟩⟩; refine ⟨_, rfl, ?_⟩) | ((with_reducible refine gate_callee (f := 78) rfl ?_); refine goesL_ (some 10) rfl rfl Try.func78 (by kernel_rfl) rfl #[.int .i64 a1] rfl am ?_; (with_reducible refine (cmp_isNaN_int.calls a1 false _ A4.out).mono ?_); rintro e w' ⟨rfl, ⟨nd, rfl⟩⟩; refine ⟨_, rfl, ?_⟩))
          go_ret
          exact ⟨by first | rfl | (simp; done) | (simp [*]; done), by repeat (first | exact Drawn0.refl _ | apply Drawn0.step)⟩
        · rw [if_neg c9] at H
          have c9b0 : decide (a1 < a0) = false := decide_eq_false c9
          clear c9
          obtain rfl := Option.some.inj H
          go_enter Try.func52, Try.ntmps52
          go_wp2_with (first | ((with_reducible refine gate_callee (f := 78) rfl ?_); refine goesL_ (some 8) rfl rfl Try.func78 (by kernel_rfl) rfl #[.int .i64 a0] rfl am ?_; (with_reducible refine (cmp_isNaN_int.calls a0 false _ A3.out).mono ?_); rintro e w' ⟨rfl, ⟨nd, rfl⟩⟩; refine ⟨_, rfl, ?_⟩) | ((with_reducible refine gate_callee (f := 78) rfl ?_); refine goesL_ (some 10) rfl rfl Try.func78 (by kernel_rfl) rfl #[.int .i64 a1] rfl am ?_; (with_reducible refine (cmp_isNaN_int.calls a1 false _ A4.out).mono ?_); rintro e w' ⟨rfl, ⟨nd, rfl⟩⟩; refine ⟨_, rfl, ?_⟩))
          go_ret
          exact ⟨by first | rfl | (simp; done) | (simp [*]; done), by repeat (first | exact Drawn0.refl _ | apply Drawn0.step)⟩
end
section
/-! ### grids_step_cross: function 55 -/
def grids_step_cross.f (a0_0 : Int) (a0_1 : Int) (a1_0 : Int) (a1_1 : Int) : Option (Int) := (some (wrap64 (a0_0 * a1_1))).bind fun z411 => ((some (wrap64 (a0_1 * a1_0))).bind fun z412 => ((some (wrap64 (z411 - z412))).bind fun z413 => (some z413)))
set_option maxHeartbeats 8000000 in
set_option maxRecDepth 100000 in
theorem grids_step_cross.calls (a0_0 : Int) (a0_1 : Int) (a1_0 : Int) (a1_1 : Int) (r : Int) (w : World) (h : grids_step_cross.f a0_0 a0_1 a1_0 a1_1 = some r) :
    Calls Try.prog 55 #[.agg #[.int .i64 a0_0, .int .i64 a0_1], .agg #[.int .i64 a1_0, .int .i64 a1_1]] w fun e w' => e = .returned (.int .i64 r) ∧ Below w.heap.size w w' := by
  have hu81 := Try.underlying81
  have HB := Aside0.mk (Below.refl w.heap.size w)
  have H : ((some (wrap64 (a0_0 * a1_1))).bind fun z411 => ((some (wrap64 (a0_1 * a1_0))).bind fun z412 => ((some (wrap64 (z411 - z412))).bind fun z413 => (some z413)))) = some r := h
  clear h
  replace H := Option.bind_eq_some_iff.mp H
  obtain ⟨z411, E30, H⟩ := H
  replace H : ((some (wrap64 (a0_1 * a1_0))).bind fun z412 => ((some (wrap64 (z411 - z412))).bind fun z413 => (some z413))) = some r := H
  replace E30 := Option.some.inj E30
  have E3w : (IntKind.i64.wrap (a0_0 * a1_1)) = z411 := (i64_w _).trans E30
  replace H := Option.bind_eq_some_iff.mp H
  obtain ⟨z412, E40, H⟩ := H
  replace H : ((some (wrap64 (z411 - z412))).bind fun z413 => (some z413)) = some r := H
  replace E40 := Option.some.inj E40
  have E4w : (IntKind.i64.wrap (a0_1 * a1_0)) = z412 := (i64_w _).trans E40
  replace H := Option.bind_eq_some_iff.mp H
  obtain ⟨z413, E50, H⟩ := H
  replace H : (some z413) = some r := H
  replace E50 := Option.some.inj E50
  have E5w : (IntKind.i64.wrap (z411 - z412)) = z413 := (i64_w _).trans E50
  obtain rfl := Option.some.inj H
  go_enter Try.func55, Try.ntmps55
  go_wp2_with (first | ((with_reducible refine gate_dst (N := 2) rfl ?_); refine box_event ?hg (N := 2) ?hd (cs := #[.int .i64 a0_0, .int .i64 a0_1]) (t := 81) ?hr ?_; (case hd => rfl); (case hg => rfl); (case hr => first | (go_simp; done) | (go_simp; rfl)); intro gb409 hg w6 hbox hb; have BK409 := Aside0.mk (hbox); have GW409 := Aside0.mk ((by rw [hg]; exact (below_size (bnow HB)) : w.heap.size ≤ gb409)); have GE409 := Aside0.mk ((by rw [hg]; exact (below_size (bnow HB)) : w.heap.size ≤ gb409)); replace HB := bst HB hb; clear hb hbox hg) | ((with_reducible refine gate_dst (N := 3) rfl ?_); refine box_event ?hg (N := 3) ?hd (cs := #[.int .i64 a1_0, .int .i64 a1_1]) (t := 81) ?hr ?_; (case hd => rfl); (case hg => rfl); (case hr => first | (go_simp; done) | (go_simp; rfl)); intro gb410 hg w7 hbox hb; have BK410 := Aside0.mk (hbox); have GW410 := Aside0.mk ((by rw [hg]; exact (below_size (bnow HB)) : w.heap.size ≤ gb410)); have GE410 := Aside0.mk ((by rw [hg]; exact (below_size (bnow HB)) : w.heap.size ≤ gb410)); have NB409_410 := Aside0.mk ((by rw [hg]; exact Nat.ne_of_lt (blk_lt (g := gb409) (o := .cells #[.int .i64 a0_0, .int .i64 a0_1] 81 (0, 0)) (pk BK409)) : gb409 ≠ gb410)); have NB410_409 := Aside0.mk ((by rw [hg]; exact Nat.ne_of_gt (blk_lt (g := gb409) (o := .cells #[.int .i64 a0_0, .int .i64 a0_1] 81 (0, 0)) (pk BK409)) : gb410 ≠ gb409)); replace BK409 := bb BK409 hb; replace HB := bst HB hb; clear hb hbox hg; have hnb8 := NB409_410.out; have hnc8 := NB410_409.out; have hcz9_0 : w7.cell? ⟨gb409, 0, none⟩ = some (.int .i64 a0_0) := (blk_cell BK409.out 0).trans rfl; have hcz9_1 : w7.cell? ⟨gb409, 1, none⟩ = some (.int .i64 a0_1) := (blk_cell BK409.out 1).trans rfl; have hfz9_0 := blk_frozen BK409.out 0; have hfz9_1 := blk_frozen BK409.out 1; have hcz10_0 : w7.cell? ⟨gb410, 0, none⟩ = some (.int .i64 a1_0) := (blk_cell BK410.out 0).trans rfl; have hcz10_1 : w7.cell? ⟨gb410, 1, none⟩ = some (.int .i64 a1_1) := (blk_cell BK410.out 1).trans rfl; have hfz10_0 := blk_frozen BK410.out 0; have hfz10_1 := blk_frozen BK410.out 1))
  go_ret
  exact ⟨by first | rfl | (simp [errW_none, errW_some] <;> rfl) | (simp [*, errW_none, errW_some] <;> rfl), by repeat (first | (with_reducible first | exact HB.out | apply below_alloc | apply pw_below_drewN | apply below_drew1 | refine below_set ?_ GE409.out | refine below_set ?_ GE410.out) | exact HB.out)⟩
end
section
/-! ### grids_step_half: function 53 -/
def grids_step_half.j0 : Nat → Bool → Option (Int)
  | 0, _ => none
  | k + 1, x28 => if x28 = true then (some 0) else (some 1)
def grids_step_half.f (k : Nat) (a0_0 : Int) (a0_1 : Int) (a1_0 : Int) (a1_1 : Int) : Option (Int) := (grids_step_cross.f a0_0 a0_1 a1_0 a1_1).bind fun t416 => (if t416 > 0 then (grids_step_half.j0 k true) else (if t416 = 0 then ((some (wrap64 (a0_0 * a1_0))).bind fun z417 => ((some (wrap64 (a0_1 * a1_1))).bind fun z418 => ((some (wrap64 (z417 + z418))).bind fun z419 => (grids_step_half.j0 k (decide (z419 > 0)))))) else (grids_step_half.j0 k false)))
theorem grids_step_half.mono_l : ∀ k, (∀ y0, LeO (grids_step_half.j0 k y0) (grids_step_half.j0 (k + 1) y0))
  | 0 => fun _ r h => by simp [grids_step_half.j0] at h
  | k + 1 => by
    have ih0 := grids_step_half.mono_l k
    · intro y0
      unfold grids_step_half.j0
      repeat' first
      | (with_reducible exact ih0 _)
      | (with_reducible exact LeO.refl _)
      | (with_reducible exact LeO.none _)
      | (with_reducible refine LeO.ite ?_ ?_)
      | (with_reducible refine LeO.bind ?_ (fun _ => ?_))
      | exact ih0 _
      | exact LeO.none _
      | refine LeO.ite ?_ ?_
      | refine LeO.bind ?_ (fun _ => ?_)
theorem grids_step_half.mono : ∀ a0 a1 a2 a3 k, LeO (grids_step_half.f k a0 a1 a2 a3) (grids_step_half.f (k + 1) a0 a1 a2 a3) := by
  intro a0 a1 a2 a3 k
  have ih0 := grids_step_half.mono_l k
  unfold grids_step_half.f
  repeat' first
      | (with_reducible exact ih0 _)
      | (with_reducible exact LeO.refl _)
      | (with_reducible exact LeO.none _)
      | (with_reducible refine LeO.ite ?_ ?_)
      | (with_reducible refine LeO.bind ?_ (fun _ => ?_))
      | exact ih0 _
      | exact LeO.none _
      | refine LeO.ite ?_ ?_
      | refine LeO.bind ?_ (fun _ => ?_)
set_option maxHeartbeats 8000000 in
set_option maxRecDepth 100000 in
theorem grids_step_half.calls (k : Nat) (a0_0 : Int) (a0_1 : Int) (a1_0 : Int) (a1_1 : Int) (r : Int) (w : World) (h : grids_step_half.f k a0_0 a0_1 a1_0 a1_1 = some r) :
    Calls Try.prog 53 #[.agg #[.int .i64 a0_0, .int .i64 a0_1], .agg #[.int .i64 a1_0, .int .i64 a1_1]] w fun e w' => e = .returned (.int .i64 r) ∧ Below w.heap.size w w' := by
  have hu81 := Try.underlying81
  have HB := Aside0.mk (Below.refl w.heap.size w)
  have H : ((grids_step_cross.f a0_0 a0_1 a1_0 a1_1).bind fun t416 => (if t416 > 0 then (grids_step_half.j0 k true) else (if t416 = 0 then ((some (wrap64 (a0_0 * a1_0))).bind fun z417 => ((some (wrap64 (a0_1 * a1_1))).bind fun z418 => ((some (wrap64 (z417 + z418))).bind fun z419 => (grids_step_half.j0 k (decide (z419 > 0)))))) else (grids_step_half.j0 k false)))) = some r := h
  clear h
  replace H := Option.bind_eq_some_iff.mp H
  obtain ⟨t416, A30, H⟩ := H
  replace H : (if t416 > 0 then (grids_step_half.j0 k true) else (if t416 = 0 then ((some (wrap64 (a0_0 * a1_0))).bind fun z417 => ((some (wrap64 (a0_1 * a1_1))).bind fun z418 => ((some (wrap64 (z417 + z418))).bind fun z419 => (grids_step_half.j0 k (decide (z419 > 0)))))) else (grids_step_half.j0 k false))) = some r := H
  have A3 := Aside0.mk A30
  clear A30
  have HC4 := Aside0.mk H
  clear H
  go_enter Try.func53, Try.ntmps53
  go_upto_region 2 with (first | ((with_reducible refine gate_dst (N := 2) rfl ?_); refine box_event ?hg (N := 2) ?hd (cs := #[.int .i64 a0_0, .int .i64 a0_1]) (t := 81) ?hr ?_; (case hd => rfl); (case hg => rfl); (case hr => first | (go_simp; done) | (go_simp; rfl)); intro gb414 hg w5 hbox hb; have BK414 := Aside0.mk (hbox); have GW414 := Aside0.mk ((by rw [hg]; exact (below_size (bnow HB)) : w.heap.size ≤ gb414)); have GE414 := Aside0.mk ((by rw [hg]; exact (below_size (bnow HB)) : w.heap.size ≤ gb414)); replace HB := bst HB hb; clear hb hbox hg) | ((with_reducible refine gate_dst (N := 3) rfl ?_); refine box_event ?hg (N := 3) ?hd (cs := #[.int .i64 a1_0, .int .i64 a1_1]) (t := 81) ?hr ?_; (case hd => rfl); (case hg => rfl); (case hr => first | (go_simp; done) | (go_simp; rfl)); intro gb415 hg w6 hbox hb; have BK415 := Aside0.mk (hbox); have GW415 := Aside0.mk ((by rw [hg]; exact (below_size (bnow HB)) : w.heap.size ≤ gb415)); have GE415 := Aside0.mk ((by rw [hg]; exact (below_size (bnow HB)) : w.heap.size ≤ gb415)); have NB414_415 := Aside0.mk ((by rw [hg]; exact Nat.ne_of_lt (blk_lt (g := gb414) (o := .cells #[.int .i64 a0_0, .int .i64 a0_1] 81 (0, 0)) (pk BK414)) : gb414 ≠ gb415)); have NB415_414 := Aside0.mk ((by rw [hg]; exact Nat.ne_of_gt (blk_lt (g := gb414) (o := .cells #[.int .i64 a0_0, .int .i64 a0_1] 81 (0, 0)) (pk BK414)) : gb415 ≠ gb414)); replace BK414 := bb BK414 hb; replace HB := bst HB hb; clear hb hbox hg; have hnb7 := NB414_415.out; have hnc7 := NB415_414.out; have hcz8_0 : w6.cell? ⟨gb414, 0, none⟩ = some (.int .i64 a0_0) := (blk_cell BK414.out 0).trans rfl; have hcz8_1 : w6.cell? ⟨gb414, 1, none⟩ = some (.int .i64 a0_1) := (blk_cell BK414.out 1).trans rfl; have hfz8_0 := blk_frozen BK414.out 0; have hfz8_1 := blk_frozen BK414.out 1; have hcz9_0 : w6.cell? ⟨gb415, 0, none⟩ = some (.int .i64 a1_0) := (blk_cell BK415.out 0).trans rfl; have hcz9_1 : w6.cell? ⟨gb415, 1, none⟩ = some (.int .i64 a1_1) := (blk_cell BK415.out 1).trans rfl; have hfz9_0 := blk_frozen BK415.out 0; have hfz9_1 := blk_frozen BK415.out 1) | ((with_reducible refine gate_callee (f := 55) rfl ?_); refine goesL_ (some 8) rfl rfl Try.func55 (by kernel_rfl) rfl #[.agg #[.int .i64 a0_0, .int .i64 a0_1], .agg #[.int .i64 a1_0, .int .i64 a1_1]] rfl am ?_; (with_reducible refine (grids_step_cross.calls a0_0 a0_1 a1_0 a1_1 t416 _ A3.out).mono ?_); rintro e w10 ⟨rfl, hb⟩; refine ⟨_, rfl, ?_⟩; replace BK414 := bb BK414 hb; replace BK415 := bb BK415 hb; replace HB := bst HB hb; clear hb))
  (try simp only [Act.put, List.setIfInBounds_toArray, List.set_cons_zero, List.set_cons_succ])
  go_cut [28] (fun v28 wc => ∃ (kq : Nat) (x28_3 : Bool), v28 = .bool x28_3 ∧ Aside0 (grids_step_half.j0 kq x28_3 = some r) ∧ Aside0 (kq ≤ k) ∧ Aside0 (wc.heap[gb414]? = some (.cells #[.int .i64 a0_0, .int .i64 a0_1] 81 (0, 0))) ∧ Aside0 (wc.heap[gb415]? = some (.cells #[.int .i64 a1_0, .int .i64 a1_1] 81 (0, 0))) ∧ Aside0 (Below w.heap.size w wc))
  case first =>
    have H := HC4.out
    clear HC4
    by_cases c11 : t416 > 0
    · rw [if_pos c11] at H
      have c11b0 : decide (0 < t416) = true := decide_eq_true c11
      clear c11
      (first | rw [c11b0] | (simp only [i64_w, i32_w]; rw [c11b0]) | skip)
      have H' := Aside0.mk H
      clear H
      go_wp2
      go_meet
      case rel => exact ⟨_, (true), (by first | rfl | (simp; done) | (simp [*]; done)), H', ⟨by first | omega | exact Nat.le_refl _⟩, ⟨pk BK414⟩, ⟨pk BK415⟩, ⟨bnow HB⟩⟩
    · rw [if_neg c11] at H
      have c11b0 : decide (0 < t416) = false := decide_eq_false c11
      clear c11
      (first | rw [c11b0] | (simp only [i64_w, i32_w]; rw [c11b0]) | skip)
      by_cases c12 : t416 = 0
      · rw [if_pos c12] at H
        have c12b0 : (t416 == 0) = true := beq_iff_eq.mpr c12
        have c12b1 : (t416 != 0) = false := bne_eq_false_iff_eq.mpr c12
        clear c12
        replace H := Option.bind_eq_some_iff.mp H
        obtain ⟨z417, E130, H⟩ := H
        replace H : ((some (wrap64 (a0_1 * a1_1))).bind fun z418 => ((some (wrap64 (z417 + z418))).bind fun z419 => (grids_step_half.j0 k (decide (z419 > 0))))) = some r := H
        replace E130 := Option.some.inj E130
        have E13w : (IntKind.i64.wrap (a0_0 * a1_0)) = z417 := (i64_w _).trans E130
        replace H := Option.bind_eq_some_iff.mp H
        obtain ⟨z418, E140, H⟩ := H
        replace H : ((some (wrap64 (z417 + z418))).bind fun z419 => (grids_step_half.j0 k (decide (z419 > 0)))) = some r := H
        replace E140 := Option.some.inj E140
        have E14w : (IntKind.i64.wrap (a0_1 * a1_1)) = z418 := (i64_w _).trans E140
        replace H := Option.bind_eq_some_iff.mp H
        obtain ⟨z419, E150, H⟩ := H
        replace H : (grids_step_half.j0 k (decide (z419 > 0))) = some r := H
        replace E150 := Option.some.inj E150
        have E15w : (IntKind.i64.wrap (z417 + z418)) = z419 := (i64_w _).trans E150
        have H' := Aside0.mk H
        clear H
        have hnb16 := NB414_415.out
        have hnc16 := NB415_414.out
        have hcz17_0 : w10.cell? ⟨gb414, 0, none⟩ = some (.int .i64 a0_0) := (blk_cell BK414.out 0).trans rfl
        have hcz17_1 : w10.cell? ⟨gb414, 1, none⟩ = some (.int .i64 a0_1) := (blk_cell BK414.out 1).trans rfl
        have hfz17_0 := blk_frozen BK414.out 0
        have hfz17_1 := blk_frozen BK414.out 1
        have hcz18_0 : w10.cell? ⟨gb415, 0, none⟩ = some (.int .i64 a1_0) := (blk_cell BK415.out 0).trans rfl
        have hcz18_1 : w10.cell? ⟨gb415, 1, none⟩ = some (.int .i64 a1_1) := (blk_cell BK415.out 1).trans rfl
        have hfz18_0 := blk_frozen BK415.out 0
        have hfz18_1 := blk_frozen BK415.out 1
        go_wp2
        go_meet
        case rel => exact ⟨_, (decide (z419 > 0)), (by first | rfl | (simp; done) | (simp [*]; done)), H', ⟨by first | omega | exact Nat.le_refl _⟩, ⟨pk BK414⟩, ⟨pk BK415⟩, ⟨bnow HB⟩⟩
      · rw [if_neg c12] at H
        have c12b0 : (t416 == 0) = false := beq_eq_false_iff_ne.mpr c12
        have c12b1 : (t416 != 0) = true := bne_iff_ne.mpr c12
        have H' := Aside0.mk H
        clear H
        go_wp2
        go_meet
        case rel => exact ⟨_, (false), (by first | rfl | (simp; done) | (simp [*]; done)), H', ⟨by first | omega | exact Nat.le_refl _⟩, ⟨pk BK414⟩, ⟨pk BK415⟩, ⟨bnow HB⟩⟩
  case rest =>
    clear HC4
    try clear c1
    try clear p2
    try clear c5
    try clear p6
    try clear c7
    try clear c11
    try clear c11b0
    try clear c12
    try clear c12b0
    try clear c12b1
    try clear c16
    try clear hcz17_0
    try clear hcz17_1
    try clear hcz18_0
    try clear hcz18_1
    try clear hcz8_0
    try clear hcz8_1
    try clear hcz9_0
    try clear hcz9_1
    try clear hfz17_0
    try clear hfz17_1
    try clear hfz18_0
    try clear hfz18_1
    try clear hfz8_0
    try clear hfz8_1
    try clear hfz9_0
    try clear hfz9_1
    obtain ⟨kq, x28_3, rfl, HA, HJ3, BK414, BK415, HB⟩ := hcut
    cases kq with
    | zero => exact absurd HA.out (by simp [grids_step_half.j0])
    | succ kj3 =>
      have H := HA.out
      clear HA
      simp only [grids_step_half.j0] at H
      by_cases c19 : x28_3 = true
      · subst c19
        have H1 : (some 0) = some r := by rw [if_pos rfl] at H; exact H
        clear H
        have H := H1
        clear H1
        obtain rfl := Option.some.inj H
        go_wp2
        go_ret
        exact ⟨by first | rfl | (simp [errW_none, errW_some] <;> rfl) | (simp [*, errW_none, errW_some] <;> rfl), by repeat (first | (with_reducible first | exact HB.out | apply below_alloc | apply pw_below_drewN | apply below_drew1 | refine below_set ?_ GE414.out | refine below_set ?_ GE415.out) | exact HB.out)⟩
      · replace c19 := Bool.eq_false_iff.mpr c19
        subst c19
        have H1 : (some 1) = some r := by rw [if_neg (show ¬ (false = true) by decide)] at H; exact H
        clear H
        have H := H1
        clear H1
        obtain rfl := Option.some.inj H
        go_wp2
        go_ret
        exact ⟨by first | rfl | (simp [errW_none, errW_some] <;> rfl) | (simp [*, errW_none, errW_some] <;> rfl), by repeat (first | (with_reducible first | exact HB.out | apply below_alloc | apply pw_below_drewN | apply below_drew1 | refine below_set ?_ GE414.out | refine below_set ?_ GE415.out) | exact HB.out)⟩
end
section
attribute [local go_sem high] eqA37
/-! ### grids_Turn: function 18 -/
def grids_Turn.j0 : Nat → Bool → Int → Int → Int → Int → Int → Int → Int → Int → Option (Int × Int)
  | 0, _, _, _, _, _, _, _, _, _ => none
  | k + 1, x34, x421000, x421001, x422000, x422001, x423000, x423001, x424000, x424001 => if x34 = true then (some (0, 2)) else ((grids_to.f x421000 x421001 x422000 x422001).bind fun bt428 => ((grids_to.f x421000 x421001 x423000 x423001).bind fun bt430 => ((grids_to.f x421000 x421001 x424000 x424001).bind fun bt432 => ((grids_step_half.f k bt428.1 bt428.2 bt430.1 bt430.2).bind fun t437 => ((grids_step_half.f k bt428.1 bt428.2 bt432.1 bt432.2).bind fun t438 => ((cmp_Compare_int.f t437 t438).bind fun t439 => ((grids_step_cross.f bt430.1 bt430.2 bt432.1 bt432.2).bind fun t440 => ((cmp_Compare_int64.f 0 t440).bind fun t441 => ((cmp_Or_int.f k (([t439, t441] : List Int))).bind fun t445 => (some (t445, 0)))))))))))
def grids_Turn.f (k : Nat) (a0_0 : Int) (a0_1 : Int) (a1_0 : Int) (a1_1 : Int) (a2_0 : Int) (a2_1 : Int) (a3_0 : Int) (a3_1 : Int) : Option (Int × Int) := (grids_point.f k (([(⟨a0_0, a0_1⟩ : S37), (⟨a1_0, a1_1⟩ : S37), (⟨a2_0, a2_1⟩ : S37), (⟨a3_0, a3_1⟩ : S37)] : List (S37)))).bind fun t427 => (if t427 = true then (if (a1_0 == a0_0 && (a1_1 == a0_1)) = true then (grids_Turn.j0 k true a0_0 a0_1 a1_0 a1_1 a2_0 a2_1 a3_0 a3_1) else (if (a2_0 == a0_0 && (a2_1 == a0_1)) = true then (grids_Turn.j0 k true a0_0 a0_1 a1_0 a1_1 a2_0 a2_1 a3_0 a3_1) else (grids_Turn.j0 k (a3_0 == a0_0 && (a3_1 == a0_1)) a0_0 a0_1 a1_0 a1_1 a2_0 a2_1 a3_0 a3_1))) else (grids_Turn.j0 k true a0_0 a0_1 a1_0 a1_1 a2_0 a2_1 a3_0 a3_1))
theorem grids_Turn.mono_l : ∀ k, (∀ y0 y1 y2 y3 y4 y5 y6 y7 y8, LeO (grids_Turn.j0 k y0 y1 y2 y3 y4 y5 y6 y7 y8) (grids_Turn.j0 (k + 1) y0 y1 y2 y3 y4 y5 y6 y7 y8))
  | 0 => fun _ _ _ _ _ _ _ _ _ r h => by simp [grids_Turn.j0] at h
  | k + 1 => by
    have ih0 := grids_Turn.mono_l k
    · intro y0 y1 y2 y3 y4 y5 y6 y7 y8
      unfold grids_Turn.j0
      repeat' first
      | (with_reducible exact ih0 _ _ _ _ _ _ _ _ _)
      | (with_reducible exact cmp_Or_int.mono _ _)
      | (with_reducible exact grids_point.mono _ _)
      | (with_reducible exact grids_step_half.mono _ _ _ _ _)
      | (with_reducible exact LeO.refl _)
      | (with_reducible exact LeO.none _)
      | (with_reducible refine LeO.ite ?_ ?_)
      | (with_reducible refine LeO.bind ?_ (fun _ => ?_))
      | exact ih0 _ _ _ _ _ _ _ _ _
      | exact cmp_Or_int.mono _ _
      | exact grids_point.mono _ _
      | exact grids_step_half.mono _ _ _ _ _
      | exact LeO.none _
      | refine LeO.ite ?_ ?_
      | refine LeO.bind ?_ (fun _ => ?_)
theorem grids_Turn.mono : ∀ a0 a1 a2 a3 a4 a5 a6 a7 k, LeO (grids_Turn.f k a0 a1 a2 a3 a4 a5 a6 a7) (grids_Turn.f (k + 1) a0 a1 a2 a3 a4 a5 a6 a7) := by
  intro a0 a1 a2 a3 a4 a5 a6 a7 k
  have ih0 := grids_Turn.mono_l k
  unfold grids_Turn.f
  repeat' first
      | (with_reducible exact ih0 _ _ _ _ _ _ _ _ _)
      | (with_reducible exact cmp_Or_int.mono _ _)
      | (with_reducible exact grids_point.mono _ _)
      | (with_reducible exact grids_step_half.mono _ _ _ _ _)
      | (with_reducible exact LeO.refl _)
      | (with_reducible exact LeO.none _)
      | (with_reducible refine LeO.ite ?_ ?_)
      | (with_reducible refine LeO.bind ?_ (fun _ => ?_))
      | exact ih0 _ _ _ _ _ _ _ _ _
      | exact cmp_Or_int.mono _ _
      | exact grids_point.mono _ _
      | exact grids_step_half.mono _ _ _ _ _
      | exact LeO.none _
      | refine LeO.ite ?_ ?_
      | refine LeO.bind ?_ (fun _ => ?_)
def grids_Turn.T3 : Bool × List (List Nat × List Nat) := (true, [([], []), ([], []), ([0, 1], [0, 1]), ([], []), ([], []), ([3, 4, 2], [3, 4]), ([], []), ([], []), ([6, 7, 5], [6, 7]), ([], []), ([], []), ([], []), ([9, 2, 8, 0, 1, 2, 9, 10, 11], [2, 9]), ([10, 5, 12, 0, 1, 2, 3, 4, 5, 9, 10, 11, 12], [5, 10]), ([11, 8, 13, 0, 1, 2, 3, 4, 5, 6, 7, 8, 9, 10, 11, 12, 13], [8, 11])])
def grids_Turn.B3 : List Nat := [0, 0, 3, 0, 0, 31, 0, 0, 255, 0, 0, 0, 4095, 8191, 16383]
theorem grids_Turn.tab3 : rtab .any (opsOf Try.f18 3) = grids_Turn.T3 := by kernel_rfl
theorem grids_Turn.bits3 : waitsOk grids_Turn.T3.2 grids_Turn.B3 = true := by kernel_rfl
def grids_Turn.T4 : Bool × List (List Nat × List Nat) := (true, [([], []), ([], []), ([0, 1], [0, 1]), ([], []), ([], []), ([3, 4, 2], [3, 4]), ([2, 5, 5], [2, 5]), ([], []), ([], []), ([7, 8, 6], [7, 8]), ([9, 9], [9]), ([6, 10], [6, 10]), ([11, 10], [11]), ([12, 12, 0, 1, 2, 3, 4, 5, 6, 7, 8, 9, 10, 11, 12], [12]), ([13, 0, 1, 2, 3, 4, 5, 6, 7, 8, 9, 10, 11, 12, 13], [])])
def grids_Turn.B4 : List Nat := [0, 0, 3, 0, 0, 31, 63, 0, 0, 511, 1023, 2047, 4095, 8191, 16383]
theorem grids_Turn.tab4 : rtab .any (opsOf Try.f18 4) = grids_Turn.T4 := by kernel_rfl
theorem grids_Turn.bits4 : waitsOk grids_Turn.T4.2 grids_Turn.B4 = true := by kernel_rfl
set_option maxHeartbeats 8000000 in
set_option maxRecDepth 100000 in
theorem grids_Turn.calls (k : Nat) (a0_0 : Int) (a0_1 : Int) (a1_0 : Int) (a1_1 : Int) (a2_0 : Int) (a2_1 : Int) (a3_0 : Int) (a3_1 : Int) (r1 : Int) (r2 : Int) (w : World) (h : grids_Turn.f k a0_0 a0_1 a1_0 a1_1 a2_0 a2_1 a3_0 a3_1 = some (r1, r2)) :
    Calls Try.prog 18 #[.agg #[.int .i64 a0_0, .int .i64 a0_1], .agg #[.int .i64 a1_0, .int .i64 a1_1], .agg #[.int .i64 a2_0, .int .i64 a2_1], .agg #[.int .i64 a3_0, .int .i64 a3_1]] w fun e w' => e = .returned (.tuple #[.int .i64 r1, .int .i64 r2]) ∧ Below w.heap.size w w' := by
  have hu37 := Try.underlying37
  have hu81 := Try.underlying81
  have HB := Aside0.mk (Below.refl w.heap.size w)
  have H : ((grids_point.f k (([(⟨a0_0, a0_1⟩ : S37), (⟨a1_0, a1_1⟩ : S37), (⟨a2_0, a2_1⟩ : S37), (⟨a3_0, a3_1⟩ : S37)] : List (S37)))).bind fun t427 => (if t427 = true then (if (a1_0 == a0_0 && (a1_1 == a0_1)) = true then (grids_Turn.j0 k true a0_0 a0_1 a1_0 a1_1 a2_0 a2_1 a3_0 a3_1) else (if (a2_0 == a0_0 && (a2_1 == a0_1)) = true then (grids_Turn.j0 k true a0_0 a0_1 a1_0 a1_1 a2_0 a2_1 a3_0 a3_1) else (grids_Turn.j0 k (a3_0 == a0_0 && (a3_1 == a0_1)) a0_0 a0_1 a1_0 a1_1 a2_0 a2_1 a3_0 a3_1))) else (grids_Turn.j0 k true a0_0 a0_1 a1_0 a1_1 a2_0 a2_1 a3_0 a3_1))) = some (r1, r2) := h
  clear h
  have HC5 := Aside0.mk H
  clear H
  go_enter Try.func18, Try.ntmps18
  go_upto_region 1 with (first | ((with_reducible refine gate_dst (N := 4) rfl ?_); refine box_event ?hg (N := 4) ?hd (cs := #[.int .i64 a0_0, .int .i64 a0_1]) (t := 37) ?hr ?_; (case hd => rfl); (case hg => rfl); (case hr => first | (go_simp; done) | (go_simp; rfl)); intro gb420 hg w6 hbox hb; have BK420 := Aside0.mk (hbox); have GW420 := Aside0.mk ((by rw [hg]; exact (below_size (bnow HB)) : w.heap.size ≤ gb420)); have GE420 := Aside0.mk ((by rw [hg]; exact (below_size (bnow HB)) : w.heap.size ≤ gb420)); replace HB := bst HB hb; clear hb hbox hg) | ((with_reducible refine gate_dst (N := 5) rfl ?_); refine box_event ?hg (N := 5) ?hd (cs := #[.int .i64 a1_0, .int .i64 a1_1]) (t := 37) ?hr ?_; (case hd => rfl); (case hg => rfl); (case hr => first | (go_simp; done) | (go_simp; rfl)); intro gb421 hg w7 hbox hb; have BK421 := Aside0.mk (hbox); have GW421 := Aside0.mk ((by rw [hg]; exact (below_size (bnow HB)) : w.heap.size ≤ gb421)); have GE421 := Aside0.mk ((by rw [hg]; exact (below_size (bnow HB)) : w.heap.size ≤ gb421)); have NB420_421 := Aside0.mk ((by rw [hg]; exact Nat.ne_of_lt (blk_lt (g := gb420) (o := .cells #[.int .i64 a0_0, .int .i64 a0_1] 37 (0, 0)) (pk BK420)) : gb420 ≠ gb421)); have NB421_420 := Aside0.mk ((by rw [hg]; exact Nat.ne_of_gt (blk_lt (g := gb420) (o := .cells #[.int .i64 a0_0, .int .i64 a0_1] 37 (0, 0)) (pk BK420)) : gb421 ≠ gb420)); replace BK420 := bb BK420 hb; replace HB := bst HB hb; clear hb hbox hg) | ((with_reducible refine gate_dst (N := 6) rfl ?_); refine box_event ?hg (N := 6) ?hd (cs := #[.int .i64 a2_0, .int .i64 a2_1]) (t := 37) ?hr ?_; (case hd => rfl); (case hg => rfl); (case hr => first | (go_simp; done) | (go_simp; rfl)); intro gb422 hg w8 hbox hb; have BK422 := Aside0.mk (hbox); have GW422 := Aside0.mk ((by rw [hg]; exact (below_size (bnow HB)) : w.heap.size ≤ gb422)); have GE422 := Aside0.mk ((by rw [hg]; exact (below_size (bnow HB)) : w.heap.size ≤ gb422)); have NB420_422 := Aside0.mk ((by rw [hg]; exact Nat.ne_of_lt (blk_lt (g := gb420) (o := .cells #[.int .i64 a0_0, .int .i64 a0_1] 37 (0, 0)) (pk BK420)) : gb420 ≠ gb422)); have NB422_420 := Aside0.mk ((by rw [hg]; exact Nat.ne_of_gt (blk_lt (g := gb420) (o := .cells #[.int .i64 a0_0, .int .i64 a0_1] 37 (0, 0)) (pk BK420)) : gb422 ≠ gb420)); have NB421_422 := Aside0.mk ((by rw [hg]; exact Nat.ne_of_lt (blk_lt (g := gb421) (o := .cells #[.int .i64 a1_0, .int .i64 a1_1] 37 (0, 0)) (pk BK421)) : gb421 ≠ gb422)); have NB422_421 := Aside0.mk ((by rw [hg]; exact Nat.ne_of_gt (blk_lt (g := gb421) (o := .cells #[.int .i64 a1_0, .int .i64 a1_1] 37 (0, 0)) (pk BK421)) : gb422 ≠ gb421)); replace BK420 := bb BK420 hb; replace BK421 := bb BK421 hb; replace HB := bst HB hb; clear hb hbox hg) | ((with_reducible refine gate_dst (N := 7) rfl ?_); refine box_event ?hg (N := 7) ?hd (cs := #[.int .i64 a3_0, .int .i64 a3_1]) (t := 37) ?hr ?_; (case hd => rfl); (case hg => rfl); (case hr => first | (go_simp; done) | (go_simp; rfl)); intro gb423 hg w9 hbox hb; have BK423 := Aside0.mk (hbox); have GW423 := Aside0.mk ((by rw [hg]; exact (below_size (bnow HB)) : w.heap.size ≤ gb423)); have GE423 := Aside0.mk ((by rw [hg]; exact (below_size (bnow HB)) : w.heap.size ≤ gb423)); have NB420_423 := Aside0.mk ((by rw [hg]; exact Nat.ne_of_lt (blk_lt (g := gb420) (o := .cells #[.int .i64 a0_0, .int .i64 a0_1] 37 (0, 0)) (pk BK420)) : gb420 ≠ gb423)); have NB423_420 := Aside0.mk ((by rw [hg]; exact Nat.ne_of_gt (blk_lt (g := gb420) (o := .cells #[.int .i64 a0_0, .int .i64 a0_1] 37 (0, 0)) (pk BK420)) : gb423 ≠ gb420)); have NB421_423 := Aside0.mk ((by rw [hg]; exact Nat.ne_of_lt (blk_lt (g := gb421) (o := .cells #[.int .i64 a1_0, .int .i64 a1_1] 37 (0, 0)) (pk BK421)) : gb421 ≠ gb423)); have NB423_421 := Aside0.mk ((by rw [hg]; exact Nat.ne_of_gt (blk_lt (g := gb421) (o := .cells #[.int .i64 a1_0, .int .i64 a1_1] 37 (0, 0)) (pk BK421)) : gb423 ≠ gb421)); have NB422_423 := Aside0.mk ((by rw [hg]; exact Nat.ne_of_lt (blk_lt (g := gb422) (o := .cells #[.int .i64 a2_0, .int .i64 a2_1] 37 (0, 0)) (pk BK422)) : gb422 ≠ gb423)); have NB423_422 := Aside0.mk ((by rw [hg]; exact Nat.ne_of_gt (blk_lt (g := gb422) (o := .cells #[.int .i64 a2_0, .int .i64 a2_1] 37 (0, 0)) (pk BK422)) : gb423 ≠ gb422)); replace BK420 := bb BK420 hb; replace BK421 := bb BK421 hb; replace BK422 := bb BK422 hb; replace HB := bst HB hb; clear hb hbox hg))
  (try simp only [Act.put, List.setIfInBounds_toArray, List.set_cons_zero, List.set_cons_succ])
  go_cut [34] (fun v34 wc => ∃ (kq : Nat) (x34_4 : Bool), v34 = .bool x34_4 ∧ Aside0 (grids_Turn.j0 kq x34_4 a0_0 a0_1 a1_0 a1_1 a2_0 a2_1 a3_0 a3_1 = some (r1, r2)) ∧ Aside0 (kq ≤ k) ∧ Aside0 (wc.heap[gb420]? = some (.cells #[.int .i64 a0_0, .int .i64 a0_1] 37 (0, 0))) ∧ Aside0 (wc.heap[gb421]? = some (.cells #[.int .i64 a1_0, .int .i64 a1_1] 37 (0, 0))) ∧ Aside0 (wc.heap[gb422]? = some (.cells #[.int .i64 a2_0, .int .i64 a2_1] 37 (0, 0))) ∧ Aside0 (wc.heap[gb423]? = some (.cells #[.int .i64 a3_0, .int .i64 a3_1] 37 (0, 0))) ∧ Aside0 (Below w.heap.size w wc))
  case first =>
    have H := HC5.out
    clear HC5
    obtain ⟨y424, hy424⟩ : ∃ y_ : List (S37), y_ = (([(⟨a0_0, a0_1⟩ : S37), (⟨a1_0, a1_1⟩ : S37), (⟨a2_0, a2_1⟩ : S37), (⟨a3_0, a3_1⟩ : S37)] : List (S37))) := ⟨_, rfl⟩
    replace H : ((grids_point.f k y424).bind fun t427 => (if t427 = true then (if (a1_0 == a0_0 && (a1_1 == a0_1)) = true then (grids_Turn.j0 k true a0_0 a0_1 a1_0 a1_1 a2_0 a2_1 a3_0 a3_1) else (if (a2_0 == a0_0 && (a2_1 == a0_1)) = true then (grids_Turn.j0 k true a0_0 a0_1 a1_0 a1_1 a2_0 a2_1 a3_0 a3_1) else (grids_Turn.j0 k (a3_0 == a0_0 && (a3_1 == a0_1)) a0_0 a0_1 a1_0 a1_1 a2_0 a2_1 a3_0 a3_1))) else (grids_Turn.j0 k true a0_0 a0_1 a1_0 a1_1 a2_0 a2_1 a3_0 a3_1))) = some (r1, r2) := by first | (rw [hy424]; with_reducible exact H) | (have H2_ := (Option.bind_some _ _).symm.trans H; rw [hy424]; with_reducible exact H2_) | (have H2_ := (Option.bind_some _ _).symm.trans H; with_reducible exact H2_) | with_reducible exact H | (rw [hy424]; exact H) | exact H
    have Ny424 := Aside0.mk hy424
    clear hy424
    replace H := Option.bind_eq_some_iff.mp H
    obtain ⟨t427, A100, H⟩ := H
    replace H : (if t427 = true then (if (a1_0 == a0_0 && (a1_1 == a0_1)) = true then (grids_Turn.j0 k true a0_0 a0_1 a1_0 a1_1 a2_0 a2_1 a3_0 a3_1) else (if (a2_0 == a0_0 && (a2_1 == a0_1)) = true then (grids_Turn.j0 k true a0_0 a0_1 a1_0 a1_1 a2_0 a2_1 a3_0 a3_1) else (grids_Turn.j0 k (a3_0 == a0_0 && (a3_1 == a0_1)) a0_0 a0_1 a1_0 a1_1 a2_0 a2_1 a3_0 a3_1))) else (grids_Turn.j0 k true a0_0 a0_1 a1_0 a1_1 a2_0 a2_1 a3_0 a3_1)) = some (r1, r2) := H
    have A10 := Aside0.mk A100
    clear A100
    by_cases c11 : t427 = true
    · subst c11
      have H1 : (if (a1_0 == a0_0 && (a1_1 == a0_1)) = true then (grids_Turn.j0 k true a0_0 a0_1 a1_0 a1_1 a2_0 a2_1 a3_0 a3_1) else (if (a2_0 == a0_0 && (a2_1 == a0_1)) = true then (grids_Turn.j0 k true a0_0 a0_1 a1_0 a1_1 a2_0 a2_1 a3_0 a3_1) else (grids_Turn.j0 k (a3_0 == a0_0 && (a3_1 == a0_1)) a0_0 a0_1 a1_0 a1_1 a2_0 a2_1 a3_0 a3_1))) = some (r1, r2) := by rw [if_pos rfl] at H; exact H
      clear H
      have H := H1
      clear H1
      by_cases c12 : (a1_0 == a0_0 && (a1_1 == a0_1)) = true
      · rw [if_pos c12] at H
        have c12b0 : (a1_0 == a0_0 && (a1_1 == a0_1)) = true := c12
        (try (have c12b1 : decide (a1_0 = a0_0 && (a1_1 == a0_1)) = true := by simpa using c12))
        (try (have c12b2 : (a1_0 == a0_0 && (a1_1 == a0_1)) = true := by simpa using c12))
        clear c12
        (first | rw [c12b0] | (simp only [i64_w, i32_w]; rw [c12b0]) | skip)
        have H' := Aside0.mk H
        clear H
        have hnb13 := NB420_421.out
        have hnc13 := NB421_420.out
        have hnb14 := NB420_422.out
        have hnc14 := NB422_420.out
        have hnb15 := NB420_423.out
        have hnc15 := NB423_420.out
        have hcz16_0 : w9.cell? ⟨gb420, 0, none⟩ = some (.int .i64 a0_0) := (blk_cell BK420.out 0).trans rfl
        have hcz16_1 : w9.cell? ⟨gb420, 1, none⟩ = some (.int .i64 a0_1) := (blk_cell BK420.out 1).trans rfl
        have hfz16_0 := blk_frozen BK420.out 0
        have hfz16_1 := blk_frozen BK420.out 1
        have hnb17 := NB421_422.out
        have hnc17 := NB422_421.out
        have hnb18 := NB421_423.out
        have hnc18 := NB423_421.out
        have hcz19_0 : w9.cell? ⟨gb421, 0, none⟩ = some (.int .i64 a1_0) := (blk_cell BK421.out 0).trans rfl
        have hcz19_1 : w9.cell? ⟨gb421, 1, none⟩ = some (.int .i64 a1_1) := (blk_cell BK421.out 1).trans rfl
        have hfz19_0 := blk_frozen BK421.out 0
        have hfz19_1 := blk_frozen BK421.out 1
        have hnb20 := NB422_423.out
        have hnc20 := NB423_422.out
        have hcz21_0 : w9.cell? ⟨gb422, 0, none⟩ = some (.int .i64 a2_0) := (blk_cell BK422.out 0).trans rfl
        have hcz21_1 : w9.cell? ⟨gb422, 1, none⟩ = some (.int .i64 a2_1) := (blk_cell BK422.out 1).trans rfl
        have hfz21_0 := blk_frozen BK422.out 0
        have hfz21_1 := blk_frozen BK422.out 1
        have hcz22_0 : w9.cell? ⟨gb423, 0, none⟩ = some (.int .i64 a3_0) := (blk_cell BK423.out 0).trans rfl
        have hcz22_1 : w9.cell? ⟨gb423, 1, none⟩ = some (.int .i64 a3_1) := (blk_cell BK423.out 1).trans rfl
        have hfz22_0 := blk_frozen BK423.out 0
        have hfz22_1 := blk_frozen BK423.out 1
        go_wp2_with (first | ((with_reducible refine gate_dst (N := 17) rfl ?_); refine Kd.R_lit k37 _ 37 ?hg (N := 17) ?hd (xs := ([(⟨a0_0, a0_1⟩ : S37), (⟨a1_0, a1_1⟩ : S37), (⟨a2_0, a2_1⟩ : S37), (⟨a3_0, a3_1⟩ : S37)] : List (S37))) (inner := [.int .i64 a0_0, .int .i64 a0_1, .int .i64 a1_0, .int .i64 a1_1, .int .i64 a2_0, .int .i64 a2_1, .int .i64 a3_0, .int .i64 a3_1]) (ok := fun _ => True) (okp := fun _ => True) ?hr ?hp (fun _ hk => hk) trivial (Below.refl _ _) (Nat.le_refl _) (by simp) ?_; (case hd => rfl); (case hg => rfl); (case hr => first | (go_simp; done) | (go_simp; rfl)); (case hp => exact (Reps.c2 (show Kd.M k37 _ _ _ (⟨a0_0, a0_1⟩ : S37) [.int .i64 a0_0, .int .i64 a0_1] from (k37_mkM _ _ _ (⟨a0_0, a0_1⟩ : S37) )) (Reps.c2 (show Kd.M k37 _ _ _ (⟨a1_0, a1_1⟩ : S37) [.int .i64 a1_0, .int .i64 a1_1] from (k37_mkM _ _ _ (⟨a1_0, a1_1⟩ : S37) )) (Reps.c2 (show Kd.M k37 _ _ _ (⟨a2_0, a2_1⟩ : S37) [.int .i64 a2_0, .int .i64 a2_1] from (k37_mkM _ _ _ (⟨a2_0, a2_1⟩ : S37) )) (Reps.c2 (show Kd.M k37 _ _ _ (⟨a3_0, a3_1⟩ : S37) [.int .i64 a3_0, .int .i64 a3_1] from (k37_mkM _ _ _ (⟨a3_0, a3_1⟩ : S37) )) (Reps.none _ _)))))); intro v425 w23 ho24 hb hg_ hnew_; clear hg_ hnew_; (first | rw [← Ny424.out] at ho24 | (simp only [Int.reduceToNat] at ho24; rw [← Ny424.out] at ho24)); have HO426 := Aside0.mk (Kd.R_lower (Kd.R_newB (Kd.R_newB (Kd.R_newB (Kd.R_newB ho24 (g := gb420) (o := .cells #[.int .i64 a0_0, .int .i64 a0_1] 37 (0, 0)) (pk BK420)) (g := gb421) (o := .cells #[.int .i64 a1_0, .int .i64 a1_1] 37 (0, 0)) (pk BK421)) (g := gb422) (o := .cells #[.int .i64 a2_0, .int .i64 a2_1] 37 (0, 0)) (pk BK422)) (g := gb423) (o := .cells #[.int .i64 a3_0, .int .i64 a3_1] 37 (0, 0)) (pk BK423)) (below_size (bnow HB))); replace BK420 := bb BK420 hb; replace BK421 := bb BK421 hb; replace BK422 := bb BK422 hb; replace BK423 := bb BK423 hb; replace HB := bst HB hb; clear hb ho24; obtain ⟨Ao25, co25, eo25⟩ := Kd.R_slice HO426.out; subst eo25) | ((with_reducible refine gate_callee (f := 49) rfl ?_); refine goesL_ (some 18) rfl rfl Try.func49 (by kernel_rfl) rfl #[.slice Ao25 y424.length co25] rfl am ?_; (with_reducible refine (grids_point.calls k _ _ y424 true _ ?side1 ?side2 A10.out).mono ?_); (case side1 => repeat (first | exact (Kd.R_reads' HO426.out).2.2 | (with_reducible refine Kd.C_alloc ?_ _) | (with_reducible refine Kd.C_drewN ?_ _) | (with_reducible refine Kd.C_drew ?_))); (case side2 => exact (Kd.R_reads' HO426.out).2.1); rintro e w26 ⟨rfl, hb⟩; refine ⟨_, rfl, ?_⟩; have n0_ := Aside0.mk (Kd.R_below (by (with_reducible repeat (first | apply Kd.R_alloc | apply Kd.R_drewN | apply Kd.R_drew)); exact HO426.out) hb); have n1_ := bb BK420 hb; have n2_ := bb BK421 hb; have n3_ := bb BK422 hb; have n4_ := bb BK423 hb; have n5_ := bst HB hb; clear HO426; clear BK420; clear BK421; clear BK422; clear BK423; clear HB; have HO426 := n0_; have BK420 := n1_; have BK421 := n2_; have BK422 := n3_; have BK423 := n4_; have HB := n5_; clear n0_ n1_ n2_ n3_ n4_ n5_; (try clear hb); (try clear hb2); (try clear hk); (try clear hi); have hcz27_0 : w26.cell? ⟨gb421, 0, none⟩ = some (.int .i64 a1_0) := (blk_cell BK421.out 0).trans rfl; have hcz27_1 : w26.cell? ⟨gb421, 1, none⟩ = some (.int .i64 a1_1) := (blk_cell BK421.out 1).trans rfl; have hfz27_0 := blk_frozen BK421.out 0; have hfz27_1 := blk_frozen BK421.out 1; have hcz28_0 : w26.cell? ⟨gb420, 0, none⟩ = some (.int .i64 a0_0) := (blk_cell BK420.out 0).trans rfl; have hcz28_1 : w26.cell? ⟨gb420, 1, none⟩ = some (.int .i64 a0_1) := (blk_cell BK420.out 1).trans rfl; have hfz28_0 := blk_frozen BK420.out 0; have hfz28_1 := blk_frozen BK420.out 1))
        go_meet
        case rel => exact ⟨_, (true), (by first | rfl | (simp; done) | (simp [*]; done)), H', ⟨by first | omega | exact Nat.le_refl _⟩, ⟨pk BK420⟩, ⟨pk BK421⟩, ⟨pk BK422⟩, ⟨pk BK423⟩, ⟨bnow HB⟩⟩
      · rw [if_neg c12] at H
        have c12b0 : (a1_0 == a0_0 && (a1_1 == a0_1)) = false := by simpa using c12
        (try (have c12b1 : decide (a1_0 = a0_0 && (a1_1 == a0_1)) = false := by simpa using c12))
        (try (have c12b2 : (a1_0 == a0_0 && (a1_1 == a0_1)) = false := by simpa using c12))
        (try (have c12b3 : ¬ (a1_0 = a0_0 && (a1_1 == a0_1)) := by simpa using c12))
        clear c12
        (first | rw [c12b0] | (simp only [i64_w, i32_w]; rw [c12b0]) | skip)
        by_cases c29 : (a2_0 == a0_0 && (a2_1 == a0_1)) = true
        · rw [if_pos c29] at H
          have c29b0 : (a2_0 == a0_0 && (a2_1 == a0_1)) = true := c29
          (try (have c29b1 : decide (a2_0 = a0_0 && (a2_1 == a0_1)) = true := by simpa using c29))
          (try (have c29b2 : (a2_0 == a0_0 && (a2_1 == a0_1)) = true := by simpa using c29))
          clear c29
          have H' := Aside0.mk H
          clear H
          have hnb30 := NB420_421.out
          have hnc30 := NB421_420.out
          have hnb31 := NB420_422.out
          have hnc31 := NB422_420.out
          have hnb32 := NB420_423.out
          have hnc32 := NB423_420.out
          have hcz33_0 : w9.cell? ⟨gb420, 0, none⟩ = some (.int .i64 a0_0) := (blk_cell BK420.out 0).trans rfl
          have hcz33_1 : w9.cell? ⟨gb420, 1, none⟩ = some (.int .i64 a0_1) := (blk_cell BK420.out 1).trans rfl
          have hfz33_0 := blk_frozen BK420.out 0
          have hfz33_1 := blk_frozen BK420.out 1
          have hnb34 := NB421_422.out
          have hnc34 := NB422_421.out
          have hnb35 := NB421_423.out
          have hnc35 := NB423_421.out
          have hcz36_0 : w9.cell? ⟨gb421, 0, none⟩ = some (.int .i64 a1_0) := (blk_cell BK421.out 0).trans rfl
          have hcz36_1 : w9.cell? ⟨gb421, 1, none⟩ = some (.int .i64 a1_1) := (blk_cell BK421.out 1).trans rfl
          have hfz36_0 := blk_frozen BK421.out 0
          have hfz36_1 := blk_frozen BK421.out 1
          have hnb37 := NB422_423.out
          have hnc37 := NB423_422.out
          have hcz38_0 : w9.cell? ⟨gb422, 0, none⟩ = some (.int .i64 a2_0) := (blk_cell BK422.out 0).trans rfl
          have hcz38_1 : w9.cell? ⟨gb422, 1, none⟩ = some (.int .i64 a2_1) := (blk_cell BK422.out 1).trans rfl
          have hfz38_0 := blk_frozen BK422.out 0
          have hfz38_1 := blk_frozen BK422.out 1
          have hcz39_0 : w9.cell? ⟨gb423, 0, none⟩ = some (.int .i64 a3_0) := (blk_cell BK423.out 0).trans rfl
          have hcz39_1 : w9.cell? ⟨gb423, 1, none⟩ = some (.int .i64 a3_1) := (blk_cell BK423.out 1).trans rfl
          have hfz39_0 := blk_frozen BK423.out 0
          have hfz39_1 := blk_frozen BK423.out 1
          go_wp2_with (first | ((with_reducible refine gate_dst (N := 17) rfl ?_); refine Kd.R_lit k37 _ 37 ?hg (N := 17) ?hd (xs := ([(⟨a0_0, a0_1⟩ : S37), (⟨a1_0, a1_1⟩ : S37), (⟨a2_0, a2_1⟩ : S37), (⟨a3_0, a3_1⟩ : S37)] : List (S37))) (inner := [.int .i64 a0_0, .int .i64 a0_1, .int .i64 a1_0, .int .i64 a1_1, .int .i64 a2_0, .int .i64 a2_1, .int .i64 a3_0, .int .i64 a3_1]) (ok := fun _ => True) (okp := fun _ => True) ?hr ?hp (fun _ hk => hk) trivial (Below.refl _ _) (Nat.le_refl _) (by simp) ?_; (case hd => rfl); (case hg => rfl); (case hr => first | (go_simp; done) | (go_simp; rfl)); (case hp => exact (Reps.c2 (show Kd.M k37 _ _ _ (⟨a0_0, a0_1⟩ : S37) [.int .i64 a0_0, .int .i64 a0_1] from (k37_mkM _ _ _ (⟨a0_0, a0_1⟩ : S37) )) (Reps.c2 (show Kd.M k37 _ _ _ (⟨a1_0, a1_1⟩ : S37) [.int .i64 a1_0, .int .i64 a1_1] from (k37_mkM _ _ _ (⟨a1_0, a1_1⟩ : S37) )) (Reps.c2 (show Kd.M k37 _ _ _ (⟨a2_0, a2_1⟩ : S37) [.int .i64 a2_0, .int .i64 a2_1] from (k37_mkM _ _ _ (⟨a2_0, a2_1⟩ : S37) )) (Reps.c2 (show Kd.M k37 _ _ _ (⟨a3_0, a3_1⟩ : S37) [.int .i64 a3_0, .int .i64 a3_1] from (k37_mkM _ _ _ (⟨a3_0, a3_1⟩ : S37) )) (Reps.none _ _)))))); intro v425 w40 ho41 hb hg_ hnew_; clear hg_ hnew_; (first | rw [← Ny424.out] at ho41 | (simp only [Int.reduceToNat] at ho41; rw [← Ny424.out] at ho41)); have HO426 := Aside0.mk (Kd.R_lower (Kd.R_newB (Kd.R_newB (Kd.R_newB (Kd.R_newB ho41 (g := gb420) (o := .cells #[.int .i64 a0_0, .int .i64 a0_1] 37 (0, 0)) (pk BK420)) (g := gb421) (o := .cells #[.int .i64 a1_0, .int .i64 a1_1] 37 (0, 0)) (pk BK421)) (g := gb422) (o := .cells #[.int .i64 a2_0, .int .i64 a2_1] 37 (0, 0)) (pk BK422)) (g := gb423) (o := .cells #[.int .i64 a3_0, .int .i64 a3_1] 37 (0, 0)) (pk BK423)) (below_size (bnow HB))); replace BK420 := bb BK420 hb; replace BK421 := bb BK421 hb; replace BK422 := bb BK422 hb; replace BK423 := bb BK423 hb; replace HB := bst HB hb; clear hb ho41; obtain ⟨Ao42, co42, eo42⟩ := Kd.R_slice HO426.out; subst eo42) | ((with_reducible refine gate_callee (f := 49) rfl ?_); refine goesL_ (some 18) rfl rfl Try.func49 (by kernel_rfl) rfl #[.slice Ao42 y424.length co42] rfl am ?_; (with_reducible refine (grids_point.calls k _ _ y424 true _ ?side1 ?side2 A10.out).mono ?_); (case side1 => repeat (first | exact (Kd.R_reads' HO426.out).2.2 | (with_reducible refine Kd.C_alloc ?_ _) | (with_reducible refine Kd.C_drewN ?_ _) | (with_reducible refine Kd.C_drew ?_))); (case side2 => exact (Kd.R_reads' HO426.out).2.1); rintro e w43 ⟨rfl, hb⟩; refine ⟨_, rfl, ?_⟩; have n0_ := Aside0.mk (Kd.R_below (by (with_reducible repeat (first | apply Kd.R_alloc | apply Kd.R_drewN | apply Kd.R_drew)); exact HO426.out) hb); have n1_ := bb BK420 hb; have n2_ := bb BK421 hb; have n3_ := bb BK422 hb; have n4_ := bb BK423 hb; have n5_ := bst HB hb; clear HO426; clear BK420; clear BK421; clear BK422; clear BK423; clear HB; have HO426 := n0_; have BK420 := n1_; have BK421 := n2_; have BK422 := n3_; have BK423 := n4_; have HB := n5_; clear n0_ n1_ n2_ n3_ n4_ n5_; (try clear hb); (try clear hb2); (try clear hk); (try clear hi); have hcz44_0 : w43.cell? ⟨gb421, 0, none⟩ = some (.int .i64 a1_0) := (blk_cell BK421.out 0).trans rfl; have hcz44_1 : w43.cell? ⟨gb421, 1, none⟩ = some (.int .i64 a1_1) := (blk_cell BK421.out 1).trans rfl; have hfz44_0 := blk_frozen BK421.out 0; have hfz44_1 := blk_frozen BK421.out 1; have hcz45_0 : w43.cell? ⟨gb420, 0, none⟩ = some (.int .i64 a0_0) := (blk_cell BK420.out 0).trans rfl; have hcz45_1 : w43.cell? ⟨gb420, 1, none⟩ = some (.int .i64 a0_1) := (blk_cell BK420.out 1).trans rfl; have hfz45_0 := blk_frozen BK420.out 0; have hfz45_1 := blk_frozen BK420.out 1; have hcz46_0 : w43.cell? ⟨gb422, 0, none⟩ = some (.int .i64 a2_0) := (blk_cell BK422.out 0).trans rfl; have hcz46_1 : w43.cell? ⟨gb422, 1, none⟩ = some (.int .i64 a2_1) := (blk_cell BK422.out 1).trans rfl; have hfz46_0 := blk_frozen BK422.out 0; have hfz46_1 := blk_frozen BK422.out 1))
          go_meet
          case rel => exact ⟨_, (true), (by first | rfl | (simp; done) | (simp [*]; done)), H', ⟨by first | omega | exact Nat.le_refl _⟩, ⟨pk BK420⟩, ⟨pk BK421⟩, ⟨pk BK422⟩, ⟨pk BK423⟩, ⟨bnow HB⟩⟩
        · rw [if_neg c29] at H
          have c29b0 : (a2_0 == a0_0 && (a2_1 == a0_1)) = false := by simpa using c29
          (try (have c29b1 : decide (a2_0 = a0_0 && (a2_1 == a0_1)) = false := by simpa using c29))
          (try (have c29b2 : (a2_0 == a0_0 && (a2_1 == a0_1)) = false := by simpa using c29))
          (try (have c29b3 : ¬ (a2_0 = a0_0 && (a2_1 == a0_1)) := by simpa using c29))
          clear c29
          have H' := Aside0.mk H
          clear H
          have hnb47 := NB420_421.out
          have hnc47 := NB421_420.out
          have hnb48 := NB420_422.out
          have hnc48 := NB422_420.out
          have hnb49 := NB420_423.out
          have hnc49 := NB423_420.out
          have hcz50_0 : w9.cell? ⟨gb420, 0, none⟩ = some (.int .i64 a0_0) := (blk_cell BK420.out 0).trans rfl
          have hcz50_1 : w9.cell? ⟨gb420, 1, none⟩ = some (.int .i64 a0_1) := (blk_cell BK420.out 1).trans rfl
          have hfz50_0 := blk_frozen BK420.out 0
          have hfz50_1 := blk_frozen BK420.out 1
          have hnb51 := NB421_422.out
          have hnc51 := NB422_421.out
          have hnb52 := NB421_423.out
          have hnc52 := NB423_421.out
          have hcz53_0 : w9.cell? ⟨gb421, 0, none⟩ = some (.int .i64 a1_0) := (blk_cell BK421.out 0).trans rfl
          have hcz53_1 : w9.cell? ⟨gb421, 1, none⟩ = some (.int .i64 a1_1) := (blk_cell BK421.out 1).trans rfl
          have hfz53_0 := blk_frozen BK421.out 0
          have hfz53_1 := blk_frozen BK421.out 1
          have hnb54 := NB422_423.out
          have hnc54 := NB423_422.out
          have hcz55_0 : w9.cell? ⟨gb422, 0, none⟩ = some (.int .i64 a2_0) := (blk_cell BK422.out 0).trans rfl
          have hcz55_1 : w9.cell? ⟨gb422, 1, none⟩ = some (.int .i64 a2_1) := (blk_cell BK422.out 1).trans rfl
          have hfz55_0 := blk_frozen BK422.out 0
          have hfz55_1 := blk_frozen BK422.out 1
          have hcz56_0 : w9.cell? ⟨gb423, 0, none⟩ = some (.int .i64 a3_0) := (blk_cell BK423.out 0).trans rfl
          have hcz56_1 : w9.cell? ⟨gb423, 1, none⟩ = some (.int .i64 a3_1) := (blk_cell BK423.out 1).trans rfl
          have hfz56_0 := blk_frozen BK423.out 0
          have hfz56_1 := blk_frozen BK423.out 1
          go_wp2_with (first | ((with_reducible refine gate_dst (N := 17) rfl ?_); refine Kd.R_lit k37 _ 37 ?hg (N := 17) ?hd (xs := ([(⟨a0_0, a0_1⟩ : S37), (⟨a1_0, a1_1⟩ : S37), (⟨a2_0, a2_1⟩ : S37), (⟨a3_0, a3_1⟩ : S37)] : List (S37))) (inner := [.int .i64 a0_0, .int .i64 a0_1, .int .i64 a1_0, .int .i64 a1_1, .int .i64 a2_0, .int .i64 a2_1, .int .i64 a3_0, .int .i64 a3_1]) (ok := fun _ => True) (okp := fun _ => True) ?hr ?hp (fun _ hk => hk) trivial (Below.refl _ _) (Nat.le_refl _) (by simp) ?_; (case hd => rfl); (case hg => rfl); (case hr => first | (go_simp; done) | (go_simp; rfl)); (case hp => exact (Reps.c2 (show Kd.M k37 _ _ _ (⟨a0_0, a0_1⟩ : S37) [.int .i64 a0_0, .int .i64 a0_1] from (k37_mkM _ _ _ (⟨a0_0, a0_1⟩ : S37) )) (Reps.c2 (show Kd.M k37 _ _ _ (⟨a1_0, a1_1⟩ : S37) [.int .i64 a1_0, .int .i64 a1_1] from (k37_mkM _ _ _ (⟨a1_0, a1_1⟩ : S37) )) (Reps.c2 (show Kd.M k37 _ _ _ (⟨a2_0, a2_1⟩ : S37) [.int .i64 a2_0, .int .i64 a2_1] from (k37_mkM _ _ _ (⟨a2_0, a2_1⟩ : S37) )) (Reps.c2 (show Kd.M k37 _ _ _ (⟨a3_0, a3_1⟩ : S37) [.int .i64 a3_0, .int .i64 a3_1] from (k37_mkM _ _ _ (⟨a3_0, a3_1⟩ : S37) )) (Reps.none _ _)))))); intro v425 w57 ho58 hb hg_ hnew_; clear hg_ hnew_; (first | rw [← Ny424.out] at ho58 | (simp only [Int.reduceToNat] at ho58; rw [← Ny424.out] at ho58)); have HO426 := Aside0.mk (Kd.R_lower (Kd.R_newB (Kd.R_newB (Kd.R_newB (Kd.R_newB ho58 (g := gb420) (o := .cells #[.int .i64 a0_0, .int .i64 a0_1] 37 (0, 0)) (pk BK420)) (g := gb421) (o := .cells #[.int .i64 a1_0, .int .i64 a1_1] 37 (0, 0)) (pk BK421)) (g := gb422) (o := .cells #[.int .i64 a2_0, .int .i64 a2_1] 37 (0, 0)) (pk BK422)) (g := gb423) (o := .cells #[.int .i64 a3_0, .int .i64 a3_1] 37 (0, 0)) (pk BK423)) (below_size (bnow HB))); replace BK420 := bb BK420 hb; replace BK421 := bb BK421 hb; replace BK422 := bb BK422 hb; replace BK423 := bb BK423 hb; replace HB := bst HB hb; clear hb ho58; obtain ⟨Ao59, co59, eo59⟩ := Kd.R_slice HO426.out; subst eo59) | ((with_reducible refine gate_callee (f := 49) rfl ?_); refine goesL_ (some 18) rfl rfl Try.func49 (by kernel_rfl) rfl #[.slice Ao59 y424.length co59] rfl am ?_; (with_reducible refine (grids_point.calls k _ _ y424 true _ ?side1 ?side2 A10.out).mono ?_); (case side1 => repeat (first | exact (Kd.R_reads' HO426.out).2.2 | (with_reducible refine Kd.C_alloc ?_ _) | (with_reducible refine Kd.C_drewN ?_ _) | (with_reducible refine Kd.C_drew ?_))); (case side2 => exact (Kd.R_reads' HO426.out).2.1); rintro e w60 ⟨rfl, hb⟩; refine ⟨_, rfl, ?_⟩; have n0_ := Aside0.mk (Kd.R_below (by (with_reducible repeat (first | apply Kd.R_alloc | apply Kd.R_drewN | apply Kd.R_drew)); exact HO426.out) hb); have n1_ := bb BK420 hb; have n2_ := bb BK421 hb; have n3_ := bb BK422 hb; have n4_ := bb BK423 hb; have n5_ := bst HB hb; clear HO426; clear BK420; clear BK421; clear BK422; clear BK423; clear HB; have HO426 := n0_; have BK420 := n1_; have BK421 := n2_; have BK422 := n3_; have BK423 := n4_; have HB := n5_; clear n0_ n1_ n2_ n3_ n4_ n5_; (try clear hb); (try clear hb2); (try clear hk); (try clear hi); have hcz61_0 : w60.cell? ⟨gb421, 0, none⟩ = some (.int .i64 a1_0) := (blk_cell BK421.out 0).trans rfl; have hcz61_1 : w60.cell? ⟨gb421, 1, none⟩ = some (.int .i64 a1_1) := (blk_cell BK421.out 1).trans rfl; have hfz61_0 := blk_frozen BK421.out 0; have hfz61_1 := blk_frozen BK421.out 1; have hcz62_0 : w60.cell? ⟨gb420, 0, none⟩ = some (.int .i64 a0_0) := (blk_cell BK420.out 0).trans rfl; have hcz62_1 : w60.cell? ⟨gb420, 1, none⟩ = some (.int .i64 a0_1) := (blk_cell BK420.out 1).trans rfl; have hfz62_0 := blk_frozen BK420.out 0; have hfz62_1 := blk_frozen BK420.out 1; have hcz63_0 : w60.cell? ⟨gb422, 0, none⟩ = some (.int .i64 a2_0) := (blk_cell BK422.out 0).trans rfl; have hcz63_1 : w60.cell? ⟨gb422, 1, none⟩ = some (.int .i64 a2_1) := (blk_cell BK422.out 1).trans rfl; have hfz63_0 := blk_frozen BK422.out 0; have hfz63_1 := blk_frozen BK422.out 1; have hcz64_0 : w60.cell? ⟨gb423, 0, none⟩ = some (.int .i64 a3_0) := (blk_cell BK423.out 0).trans rfl; have hcz64_1 : w60.cell? ⟨gb423, 1, none⟩ = some (.int .i64 a3_1) := (blk_cell BK423.out 1).trans rfl; have hfz64_0 := blk_frozen BK423.out 0; have hfz64_1 := blk_frozen BK423.out 1))
          go_meet
          case rel => exact ⟨_, ((a3_0 == a0_0 && (a3_1 == a0_1))), (by first | rfl | (simp; done) | (simp [*]; done)), H', ⟨by first | omega | exact Nat.le_refl _⟩, ⟨pk BK420⟩, ⟨pk BK421⟩, ⟨pk BK422⟩, ⟨pk BK423⟩, ⟨bnow HB⟩⟩
    · replace c11 := Bool.eq_false_iff.mpr c11
      subst c11
      have H1 : (grids_Turn.j0 k true a0_0 a0_1 a1_0 a1_1 a2_0 a2_1 a3_0 a3_1) = some (r1, r2) := by rw [if_neg (show ¬ (false = true) by decide)] at H; exact H
      clear H
      have H := H1
      clear H1
      have H' := Aside0.mk H
      clear H
      have hnb65 := NB420_421.out
      have hnc65 := NB421_420.out
      have hnb66 := NB420_422.out
      have hnc66 := NB422_420.out
      have hnb67 := NB420_423.out
      have hnc67 := NB423_420.out
      have hcz68_0 : w9.cell? ⟨gb420, 0, none⟩ = some (.int .i64 a0_0) := (blk_cell BK420.out 0).trans rfl
      have hcz68_1 : w9.cell? ⟨gb420, 1, none⟩ = some (.int .i64 a0_1) := (blk_cell BK420.out 1).trans rfl
      have hfz68_0 := blk_frozen BK420.out 0
      have hfz68_1 := blk_frozen BK420.out 1
      have hnb69 := NB421_422.out
      have hnc69 := NB422_421.out
      have hnb70 := NB421_423.out
      have hnc70 := NB423_421.out
      have hcz71_0 : w9.cell? ⟨gb421, 0, none⟩ = some (.int .i64 a1_0) := (blk_cell BK421.out 0).trans rfl
      have hcz71_1 : w9.cell? ⟨gb421, 1, none⟩ = some (.int .i64 a1_1) := (blk_cell BK421.out 1).trans rfl
      have hfz71_0 := blk_frozen BK421.out 0
      have hfz71_1 := blk_frozen BK421.out 1
      have hnb72 := NB422_423.out
      have hnc72 := NB423_422.out
      have hcz73_0 : w9.cell? ⟨gb422, 0, none⟩ = some (.int .i64 a2_0) := (blk_cell BK422.out 0).trans rfl
      have hcz73_1 : w9.cell? ⟨gb422, 1, none⟩ = some (.int .i64 a2_1) := (blk_cell BK422.out 1).trans rfl
      have hfz73_0 := blk_frozen BK422.out 0
      have hfz73_1 := blk_frozen BK422.out 1
      have hcz74_0 : w9.cell? ⟨gb423, 0, none⟩ = some (.int .i64 a3_0) := (blk_cell BK423.out 0).trans rfl
      have hcz74_1 : w9.cell? ⟨gb423, 1, none⟩ = some (.int .i64 a3_1) := (blk_cell BK423.out 1).trans rfl
      have hfz74_0 := blk_frozen BK423.out 0
      have hfz74_1 := blk_frozen BK423.out 1
      go_wp2_with (first | ((with_reducible refine gate_dst (N := 17) rfl ?_); refine Kd.R_lit k37 _ 37 ?hg (N := 17) ?hd (xs := ([(⟨a0_0, a0_1⟩ : S37), (⟨a1_0, a1_1⟩ : S37), (⟨a2_0, a2_1⟩ : S37), (⟨a3_0, a3_1⟩ : S37)] : List (S37))) (inner := [.int .i64 a0_0, .int .i64 a0_1, .int .i64 a1_0, .int .i64 a1_1, .int .i64 a2_0, .int .i64 a2_1, .int .i64 a3_0, .int .i64 a3_1]) (ok := fun _ => True) (okp := fun _ => True) ?hr ?hp (fun _ hk => hk) trivial (Below.refl _ _) (Nat.le_refl _) (by simp) ?_; (case hd => rfl); (case hg => rfl); (case hr => first | (go_simp; done) | (go_simp; rfl)); (case hp => exact (Reps.c2 (show Kd.M k37 _ _ _ (⟨a0_0, a0_1⟩ : S37) [.int .i64 a0_0, .int .i64 a0_1] from (k37_mkM _ _ _ (⟨a0_0, a0_1⟩ : S37) )) (Reps.c2 (show Kd.M k37 _ _ _ (⟨a1_0, a1_1⟩ : S37) [.int .i64 a1_0, .int .i64 a1_1] from (k37_mkM _ _ _ (⟨a1_0, a1_1⟩ : S37) )) (Reps.c2 (show Kd.M k37 _ _ _ (⟨a2_0, a2_1⟩ : S37) [.int .i64 a2_0, .int .i64 a2_1] from (k37_mkM _ _ _ (⟨a2_0, a2_1⟩ : S37) )) (Reps.c2 (show Kd.M k37 _ _ _ (⟨a3_0, a3_1⟩ : S37) [.int .i64 a3_0, .int .i64 a3_1] from (k37_mkM _ _ _ (⟨a3_0, a3_1⟩ : S37) )) (Reps.none _ _)))))); intro v425 w75 ho76 hb hg_ hnew_; clear hg_ hnew_; (first | rw [← Ny424.out] at ho76 | (simp only [Int.reduceToNat] at ho76; rw [← Ny424.out] at ho76)); have HO426 := Aside0.mk (Kd.R_lower (Kd.R_newB (Kd.R_newB (Kd.R_newB (Kd.R_newB ho76 (g := gb420) (o := .cells #[.int .i64 a0_0, .int .i64 a0_1] 37 (0, 0)) (pk BK420)) (g := gb421) (o := .cells #[.int .i64 a1_0, .int .i64 a1_1] 37 (0, 0)) (pk BK421)) (g := gb422) (o := .cells #[.int .i64 a2_0, .int .i64 a2_1] 37 (0, 0)) (pk BK422)) (g := gb423) (o := .cells #[.int .i64 a3_0, .int .i64 a3_1] 37 (0, 0)) (pk BK423)) (below_size (bnow HB))); replace BK420 := bb BK420 hb; replace BK421 := bb BK421 hb; replace BK422 := bb BK422 hb; replace BK423 := bb BK423 hb; replace HB := bst HB hb; clear hb ho76; obtain ⟨Ao77, co77, eo77⟩ := Kd.R_slice HO426.out; subst eo77) | ((with_reducible refine gate_callee (f := 49) rfl ?_); refine goesL_ (some 18) rfl rfl Try.func49 (by kernel_rfl) rfl #[.slice Ao77 y424.length co77] rfl am ?_; (with_reducible refine (grids_point.calls k _ _ y424 false _ ?side1 ?side2 A10.out).mono ?_); (case side1 => repeat (first | exact (Kd.R_reads' HO426.out).2.2 | (with_reducible refine Kd.C_alloc ?_ _) | (with_reducible refine Kd.C_drewN ?_ _) | (with_reducible refine Kd.C_drew ?_))); (case side2 => exact (Kd.R_reads' HO426.out).2.1); rintro e w78 ⟨rfl, hb⟩; refine ⟨_, rfl, ?_⟩; have n0_ := Aside0.mk (Kd.R_below (by (with_reducible repeat (first | apply Kd.R_alloc | apply Kd.R_drewN | apply Kd.R_drew)); exact HO426.out) hb); have n1_ := bb BK420 hb; have n2_ := bb BK421 hb; have n3_ := bb BK422 hb; have n4_ := bb BK423 hb; have n5_ := bst HB hb; clear HO426; clear BK420; clear BK421; clear BK422; clear BK423; clear HB; have HO426 := n0_; have BK420 := n1_; have BK421 := n2_; have BK422 := n3_; have BK423 := n4_; have HB := n5_; clear n0_ n1_ n2_ n3_ n4_ n5_; (try clear hb); (try clear hb2); (try clear hk); (try clear hi)))
      go_meet
      case rel => exact ⟨_, (true), (by first | rfl | (simp; done) | (simp [*]; done)), H', ⟨by first | omega | exact Nat.le_refl _⟩, ⟨pk BK420⟩, ⟨pk BK421⟩, ⟨pk BK422⟩, ⟨pk BK423⟩, ⟨bnow HB⟩⟩
  case rest =>
    clear HC5
    try clear c1
    try clear c2
    try clear p2
    try clear c3
    try clear c4
    try clear c5
    try clear c6
    try clear c7
    try clear c11
    try clear c12
    try clear c12b0
    try clear c12b1
    try clear c12b2
    try clear c13
    try clear c14
    try clear c15
    try clear c17
    try clear c18
    try clear c20
    try clear c29
    try clear c29b0
    try clear c29b1
    try clear c29b2
    try clear c30
    try clear c31
    try clear c32
    try clear c34
    try clear c35
    try clear c37
    try clear c47
    try clear c48
    try clear c49
    try clear c51
    try clear c52
    try clear c54
    try clear c65
    try clear c66
    try clear c67
    try clear c69
    try clear c70
    try clear c72
    try clear hcz16_0
    try clear hcz16_1
    try clear hcz19_0
    try clear hcz19_1
    try clear hcz21_0
    try clear hcz21_1
    try clear hcz22_0
    try clear hcz22_1
    try clear hcz27_0
    try clear hcz27_1
    try clear hcz28_0
    try clear hcz28_1
    try clear hcz33_0
    try clear hcz33_1
    try clear hcz36_0
    try clear hcz36_1
    try clear hcz38_0
    try clear hcz38_1
    try clear hcz39_0
    try clear hcz39_1
    try clear hcz44_0
    try clear hcz44_1
    try clear hcz45_0
    try clear hcz45_1
    try clear hcz46_0
    try clear hcz46_1
    try clear hcz50_0
    try clear hcz50_1
    try clear hcz53_0
    try clear hcz53_1
    try clear hcz55_0
    try clear hcz55_1
    try clear hcz56_0
    try clear hcz56_1
    try clear hcz61_0
    try clear hcz61_1
    try clear hcz62_0
    try clear hcz62_1
    try clear hcz63_0
    try clear hcz63_1
    try clear hcz64_0
    try clear hcz64_1
    try clear hcz68_0
    try clear hcz68_1
    try clear hcz71_0
    try clear hcz71_1
    try clear hcz73_0
    try clear hcz73_1
    try clear hcz74_0
    try clear hcz74_1
    try clear hfz16_0
    try clear hfz16_1
    try clear hfz19_0
    try clear hfz19_1
    try clear hfz21_0
    try clear hfz21_1
    try clear hfz22_0
    try clear hfz22_1
    try clear hfz27_0
    try clear hfz27_1
    try clear hfz28_0
    try clear hfz28_1
    try clear hfz33_0
    try clear hfz33_1
    try clear hfz36_0
    try clear hfz36_1
    try clear hfz38_0
    try clear hfz38_1
    try clear hfz39_0
    try clear hfz39_1
    try clear hfz44_0
    try clear hfz44_1
    try clear hfz45_0
    try clear hfz45_1
    try clear hfz46_0
    try clear hfz46_1
    try clear hfz50_0
    try clear hfz50_1
    try clear hfz53_0
    try clear hfz53_1
    try clear hfz55_0
    try clear hfz55_1
    try clear hfz56_0
    try clear hfz56_1
    try clear hfz61_0
    try clear hfz61_1
    try clear hfz62_0
    try clear hfz62_1
    try clear hfz63_0
    try clear hfz63_1
    try clear hfz64_0
    try clear hfz64_1
    try clear hfz68_0
    try clear hfz68_1
    try clear hfz71_0
    try clear hfz71_1
    try clear hfz73_0
    try clear hfz73_1
    try clear hfz74_0
    try clear hfz74_1
    obtain ⟨kq, x34_4, rfl, HA, HJ4, BK420, BK421, BK422, BK423, HB⟩ := hcut
    cases kq with
    | zero => exact absurd HA.out (by simp [grids_Turn.j0])
    | succ kj4 =>
      have H := HA.out
      clear HA
      simp only [grids_Turn.j0] at H
      by_cases c79 : x34_4 = true
      · subst c79
        have H1 : (some (0, 2)) = some (r1, r2) := by rw [if_pos rfl] at H; exact H
        clear H
        have H := H1
        clear H1
        simp only [Option.some.injEq, Prod.mk.injEq] at H
        obtain ⟨rfl, rfl⟩ := H
        go_wp2
        go_ret2
        exact ⟨by first | rfl | (simp [errW_none, errW_some] <;> rfl) | (simp [*, errW_none, errW_some] <;> rfl), by repeat (first | (with_reducible first | exact HB.out | apply below_alloc | apply pw_below_drewN | apply below_drew1 | refine below_set ?_ GE420.out | refine below_set ?_ GE421.out | refine below_set ?_ GE422.out | refine below_set ?_ GE423.out) | exact HB.out)⟩
      · replace c79 := Bool.eq_false_iff.mpr c79
        subst c79
        have H1 : ((grids_to.f a0_0 a0_1 a1_0 a1_1).bind fun bt428 => ((grids_to.f a0_0 a0_1 a2_0 a2_1).bind fun bt430 => ((grids_to.f a0_0 a0_1 a3_0 a3_1).bind fun bt432 => ((grids_step_half.f kj4 bt428.1 bt428.2 bt430.1 bt430.2).bind fun t437 => ((grids_step_half.f kj4 bt428.1 bt428.2 bt432.1 bt432.2).bind fun t438 => ((cmp_Compare_int.f t437 t438).bind fun t439 => ((grids_step_cross.f bt430.1 bt430.2 bt432.1 bt432.2).bind fun t440 => ((cmp_Compare_int64.f 0 t440).bind fun t441 => ((cmp_Or_int.f kj4 (([t439, t441] : List Int))).bind fun t445 => (some (t445, 0))))))))))) = some (r1, r2) := by rw [if_neg (show ¬ (false = true) by decide)] at H; exact H
        clear H
        have H := H1
        clear H1
        replace H := Option.bind_eq_some_iff.mp H
        obtain ⟨⟨t428, t429⟩, A800, H⟩ := H
        replace H : ((grids_to.f a0_0 a0_1 a2_0 a2_1).bind fun bt430 => ((grids_to.f a0_0 a0_1 a3_0 a3_1).bind fun bt432 => ((grids_step_half.f kj4 t428 t429 bt430.1 bt430.2).bind fun t437 => ((grids_step_half.f kj4 t428 t429 bt432.1 bt432.2).bind fun t438 => ((cmp_Compare_int.f t437 t438).bind fun t439 => ((grids_step_cross.f bt430.1 bt430.2 bt432.1 bt432.2).bind fun t440 => ((cmp_Compare_int64.f 0 t440).bind fun t441 => ((cmp_Or_int.f kj4 (([t439, t441] : List Int))).bind fun t445 => (some (t445, 0)))))))))) = some (r1, r2) := H
        have A80 := Aside0.mk A800
        clear A800
        replace H := Option.bind_eq_some_iff.mp H
        obtain ⟨⟨t430, t431⟩, A810, H⟩ := H
        replace H : ((grids_to.f a0_0 a0_1 a3_0 a3_1).bind fun bt432 => ((grids_step_half.f kj4 t428 t429 t430 t431).bind fun t437 => ((grids_step_half.f kj4 t428 t429 bt432.1 bt432.2).bind fun t438 => ((cmp_Compare_int.f t437 t438).bind fun t439 => ((grids_step_cross.f t430 t431 bt432.1 bt432.2).bind fun t440 => ((cmp_Compare_int64.f 0 t440).bind fun t441 => ((cmp_Or_int.f kj4 (([t439, t441] : List Int))).bind fun t445 => (some (t445, 0))))))))) = some (r1, r2) := H
        have A81 := Aside0.mk A810
        clear A810
        replace H := Option.bind_eq_some_iff.mp H
        obtain ⟨⟨t432, t433⟩, A820, H⟩ := H
        replace H : ((grids_step_half.f kj4 t428 t429 t430 t431).bind fun t437 => ((grids_step_half.f kj4 t428 t429 t432 t433).bind fun t438 => ((cmp_Compare_int.f t437 t438).bind fun t439 => ((grids_step_cross.f t430 t431 t432 t433).bind fun t440 => ((cmp_Compare_int64.f 0 t440).bind fun t441 => ((cmp_Or_int.f kj4 (([t439, t441] : List Int))).bind fun t445 => (some (t445, 0)))))))) = some (r1, r2) := H
        have A82 := Aside0.mk A820
        clear A820
        replace H := Option.bind_eq_some_iff.mp H
        obtain ⟨t437, A830, H⟩ := H
        replace H : ((grids_step_half.f kj4 t428 t429 t432 t433).bind fun t438 => ((cmp_Compare_int.f t437 t438).bind fun t439 => ((grids_step_cross.f t430 t431 t432 t433).bind fun t440 => ((cmp_Compare_int64.f 0 t440).bind fun t441 => ((cmp_Or_int.f kj4 (([t439, t441] : List Int))).bind fun t445 => (some (t445, 0))))))) = some (r1, r2) := H
        have A83 := Aside0.mk A830
        clear A830
        replace H := Option.bind_eq_some_iff.mp H
        obtain ⟨t438, A840, H⟩ := H
        replace H : ((cmp_Compare_int.f t437 t438).bind fun t439 => ((grids_step_cross.f t430 t431 t432 t433).bind fun t440 => ((cmp_Compare_int64.f 0 t440).bind fun t441 => ((cmp_Or_int.f kj4 (([t439, t441] : List Int))).bind fun t445 => (some (t445, 0)))))) = some (r1, r2) := H
        have A84 := Aside0.mk A840
        clear A840
        replace H := Option.bind_eq_some_iff.mp H
        obtain ⟨t439, A850, H⟩ := H
        replace H : ((grids_step_cross.f t430 t431 t432 t433).bind fun t440 => ((cmp_Compare_int64.f 0 t440).bind fun t441 => ((cmp_Or_int.f kj4 (([t439, t441] : List Int))).bind fun t445 => (some (t445, 0))))) = some (r1, r2) := H
        have A85 := Aside0.mk A850
        clear A850
        replace H := Option.bind_eq_some_iff.mp H
        obtain ⟨t440, A860, H⟩ := H
        replace H : ((cmp_Compare_int64.f 0 t440).bind fun t441 => ((cmp_Or_int.f kj4 (([t439, t441] : List Int))).bind fun t445 => (some (t445, 0)))) = some (r1, r2) := H
        have A86 := Aside0.mk A860
        clear A860
        replace H := Option.bind_eq_some_iff.mp H
        obtain ⟨t441, A870, H⟩ := H
        replace H : ((cmp_Or_int.f kj4 (([t439, t441] : List Int))).bind fun t445 => (some (t445, 0))) = some (r1, r2) := H
        have A87 := Aside0.mk A870
        clear A870
        obtain ⟨y442, hy442⟩ : ∃ y_ : List Int, y_ = (([t439, t441] : List Int)) := ⟨_, rfl⟩
        replace H : ((cmp_Or_int.f kj4 y442).bind fun t445 => (some (t445, 0))) = some (r1, r2) := by first | (rw [hy442]; with_reducible exact H) | (have H2_ := (Option.bind_some _ _).symm.trans H; rw [hy442]; with_reducible exact H2_) | (have H2_ := (Option.bind_some _ _).symm.trans H; with_reducible exact H2_) | with_reducible exact H | (rw [hy442]; exact H) | exact H
        have Ny442 := Aside0.mk hy442
        clear hy442
        replace H := Option.bind_eq_some_iff.mp H
        obtain ⟨t445, A880, H⟩ := H
        replace H : (some (t445, 0)) = some (r1, r2) := H
        have A88 := Aside0.mk A880
        clear A880
        simp only [Option.some.injEq, Prod.mk.injEq] at H
        obtain ⟨rfl, rfl⟩ := H
        try go_wp2
        have n0_ := Aside0.mk (blk_drew BK420.out)
        have n1_ := Aside0.mk (blk_drew BK421.out)
        have n2_ := Aside0.mk (blk_drew BK422.out)
        have n3_ := Aside0.mk (blk_drew BK423.out)
        have n4_ := Aside0.mk (below_drew1 HB.out)
        clear BK420
        clear BK421
        clear BK422
        clear BK423
        clear HB
        have BK420 := n0_
        have BK421 := n1_
        have BK422 := n2_
        have BK423 := n3_
        have HB := n4_
        clear n0_ n1_ n2_ n3_ n4_
        refine start_ (n := 15) (S := fun w' => True) (ds := []) #[false, false, false, false, false, false, false, false, false, false, false, false, false, false, false] (by kernel_rfl) rfl rfl trivial (fun hHeld => ?_); refine with_tabW grids_Turn.tab3 grids_Turn.bits3 (fun HT_ HW_ => ?_)
        generalize wc.drew = w89 at BK420 BK421 BK422 BK423 HB hHeld ⊢
        refine inv_at [0, 1, 2, 3, 4, 5, 6, 7, 8, 9, 10, 11, 12, 13, 14] (fun a0_ b a w' => ∃ (gb434 : Nat) (gb435 : Nat) (gb436 : Nat) (m9_ : Value) (m10_ : Value) (m11_ : Value), a = putSel a0_ b [(0, 35, .agg #[.int .i64 a0_0, .int .i64 a0_1]), (1, 36, .agg #[.int .i64 a1_0, .int .i64 a1_1]), (2, 37, .agg #[.int .i64 t428, .int .i64 t429]), (3, 38, .agg #[.int .i64 a0_0, .int .i64 a0_1]), (4, 39, .agg #[.int .i64 a2_0, .int .i64 a2_1]), (5, 40, .agg #[.int .i64 t430, .int .i64 t431]), (6, 41, .agg #[.int .i64 a0_0, .int .i64 a0_1]), (7, 42, .agg #[.int .i64 a3_0, .int .i64 a3_1]), (8, 43, .agg #[.int .i64 t432, .int .i64 t433]), (9, 10, m9_), (10, 11, m10_), (11, 12, m11_)] ∧ (w'.heap[gb420]? = some (.cells #[.int .i64 a0_0, .int .i64 a0_1] 37 (0, 0))) ∧ (w'.heap[gb421]? = some (.cells #[.int .i64 a1_0, .int .i64 a1_1] 37 (0, 0))) ∧ (w'.heap[gb422]? = some (.cells #[.int .i64 a2_0, .int .i64 a2_1] 37 (0, 0))) ∧ (w'.heap[gb423]? = some (.cells #[.int .i64 a3_0, .int .i64 a3_1] 37 (0, 0))) ∧ (Below w.heap.size w w') ∧ (b 9 = true → b 10 = true → gb435 ≠ gb434) ∧ (b 9 = true → b 10 = true → gb434 ≠ gb435) ∧ (b 9 = true → b 11 = true → gb436 ≠ gb434) ∧ (b 9 = true → b 11 = true → gb434 ≠ gb436) ∧ (b 10 = true → b 11 = true → gb436 ≠ gb435) ∧ (b 10 = true → b 11 = true → gb435 ≠ gb436) ∧ (b 9 = true → b 12 = false → w'.heap[gb434]? = some (.cells #[.int .i64 0, .int .i64 0] 81 (0, 0))) ∧ (b 9 = true → w.heap.size ≤ gb434) ∧ (b 9 = true → w.heap.size ≤ gb434) ∧ (b 9 = true → gb420 ≠ gb434) ∧ (b 9 = true → gb434 ≠ gb420) ∧ (b 9 = true → gb421 ≠ gb434) ∧ (b 9 = true → gb434 ≠ gb421) ∧ (b 9 = true → gb422 ≠ gb434) ∧ (b 9 = true → gb434 ≠ gb422) ∧ (b 9 = true → gb423 ≠ gb434) ∧ (b 9 = true → gb434 ≠ gb423) ∧ (b 10 = true → b 13 = false → w'.heap[gb435]? = some (.cells #[.int .i64 0, .int .i64 0] 81 (0, 0))) ∧ (b 10 = true → w.heap.size ≤ gb435) ∧ (b 10 = true → w.heap.size ≤ gb435) ∧ (b 10 = true → gb420 ≠ gb435) ∧ (b 10 = true → gb435 ≠ gb420) ∧ (b 10 = true → gb421 ≠ gb435) ∧ (b 10 = true → gb435 ≠ gb421) ∧ (b 10 = true → gb422 ≠ gb435) ∧ (b 10 = true → gb435 ≠ gb422) ∧ (b 10 = true → gb423 ≠ gb435) ∧ (b 10 = true → gb435 ≠ gb423) ∧ (b 11 = true → b 14 = false → w'.heap[gb436]? = some (.cells #[.int .i64 0, .int .i64 0] 81 (0, 0))) ∧ (b 11 = true → w.heap.size ≤ gb436) ∧ (b 11 = true → w.heap.size ≤ gb436) ∧ (b 11 = true → gb420 ≠ gb436) ∧ (b 11 = true → gb436 ≠ gb420) ∧ (b 11 = true → gb421 ≠ gb436) ∧ (b 11 = true → gb436 ≠ gb421) ∧ (b 11 = true → gb422 ≠ gb436) ∧ (b 11 = true → gb436 ≠ gb422) ∧ (b 11 = true → gb423 ≠ gb436) ∧ (b 11 = true → gb436 ≠ gb423) ∧ (b 12 = true → w'.heap[gb434]? = some (.cells #[.int .i64 t428, .int .i64 t429] 81 (0, 0))) ∧ (b 13 = true → w'.heap[gb435]? = some (.cells #[.int .i64 t430, .int .i64 t431] 81 (0, 0))) ∧ (b 14 = true → w'.heap[gb436]? = some (.cells #[.int .i64 t432, .int .i64 t433] 81 (0, 0))) ∧ (b 9 = true → (m9_ : Value) = .pointer (some ⟨gb434, 0, none⟩)) ∧ (b 10 = true → (m10_ : Value) = .pointer (some ⟨gb435, 0, none⟩)) ∧ (b 11 = true → (m11_ : Value) = .pointer (some ⟨gb436, 0, none⟩))) HT_.out HW_.out (by kernel_rfl) (by kernel_rfl) ?_ ?_ ?_
        · exact ⟨0, 0, 0, .bool false, .bool false, .bool false, by simp only [putSel, Bool.false_eq_true, if_false], BK420.out, BK421.out, BK422.out, BK423.out, HB.out, fun h_ => absurd h_ (by decide), fun h_ => absurd h_ (by decide), fun h_ => absurd h_ (by decide), fun h_ => absurd h_ (by decide), fun h_ => absurd h_ (by decide), fun h_ => absurd h_ (by decide), fun h_ => absurd h_ (by decide), fun h_ => absurd h_ (by decide), fun h_ => absurd h_ (by decide), fun h_ => absurd h_ (by decide), fun h_ => absurd h_ (by decide), fun h_ => absurd h_ (by decide), fun h_ => absurd h_ (by decide), fun h_ => absurd h_ (by decide), fun h_ => absurd h_ (by decide), fun h_ => absurd h_ (by decide), fun h_ => absurd h_ (by decide), fun h_ => absurd h_ (by decide), fun h_ => absurd h_ (by decide), fun h_ => absurd h_ (by decide), fun h_ => absurd h_ (by decide), fun h_ => absurd h_ (by decide), fun h_ => absurd h_ (by decide), fun h_ => absurd h_ (by decide), fun h_ => absurd h_ (by decide), fun h_ => absurd h_ (by decide), fun h_ => absurd h_ (by decide), fun h_ => absurd h_ (by decide), fun h_ => absurd h_ (by decide), fun h_ => absurd h_ (by decide), fun h_ => absurd h_ (by decide), fun h_ => absurd h_ (by decide), fun h_ => absurd h_ (by decide), fun h_ => absurd h_ (by decide), fun h_ => absurd h_ (by decide), fun h_ => absurd h_ (by decide), fun h_ => absurd h_ (by decide), fun h_ => absurd h_ (by decide), fun h_ => absurd h_ (by decide), fun h_ => absurd h_ (by decide), fun h_ => absurd h_ (by decide), fun h_ => absurd h_ (by decide), fun h_ => absurd h_ (by decide), fun h_ => absurd h_ (by decide), fun h_ => absurd h_ (by decide)⟩
        · skip
          clear BK420 BK421 BK422 BK423 HB
          refine steps_cons ?_ ?_
          · rintro b a w' ⟨gb434, gb435, gb436, m9_, m10_, m11_, ha, Q_BK420, Q_BK421, Q_BK422, Q_BK423, Q_HB, Q_NB435_434, Q_NB434_435, Q_NB436_434, Q_NB434_436, Q_NB436_435, Q_NB435_436, Q_BK434, Q_GW434, Q_GE434, Q_NB420_434, Q_NB434_420, Q_NB421_434, Q_NB434_421, Q_NB422_434, Q_NB434_422, Q_NB423_434, Q_NB434_423, Q_BK435, Q_GW435, Q_GE435, Q_NB420_435, Q_NB435_420, Q_NB421_435, Q_NB435_421, Q_NB422_435, Q_NB435_422, Q_NB423_435, Q_NB435_423, Q_BK436, Q_GW436, Q_GE436, Q_NB420_436, Q_NB436_420, Q_NB421_436, Q_NB436_421, Q_NB422_436, Q_NB436_422, Q_NB423_436, Q_NB436_423, Q_BK434_e12, Q_BK435_e13, Q_BK436_e14, Q_X9_, Q_X10_, Q_X11_⟩ hb_ hon hoff
            refine ⟨_, rfl, fun K hK => ?_⟩
            have e4 : a.tmps[4]? = some (.pointer (some ⟨gb420, 0, none⟩)) := by rw [ha]; exact (putSel_off rfl).trans rfl
            replace ha := Aside0.mk ha
            have BK420 := Aside0.mk Q_BK420
            have BK421 := Aside0.mk Q_BK421
            have BK422 := Aside0.mk Q_BK422
            have BK423 := Aside0.mk Q_BK423
            have HB := Aside0.mk Q_HB
            have hc0_ : w'.cell? ⟨gb420, 0, none⟩ = some (.int .i64 a0_0) := (blk_cell BK420.out 0).trans rfl
            have hc1_ : w'.cell? ⟨gb420, 1, none⟩ = some (.int .i64 a0_1) := (blk_cell BK420.out 1).trans rfl
            refine value_ (w1 := w') (v := .agg #[.int .i64 a0_0, .int .i64 a0_1]) (by rfl) rfl ?_ ?_
            · go_simp
              (try simp only [i64_w])
              try rfl
            refine hK.out _ _ ⟨gb434, gb435, gb436, m9_, m10_, m11_, (by rw [ha.out]; exact putSel_upk 0 hb_ rfl rfl rfl), Q_BK420, Q_BK421, Q_BK422, Q_BK423, Q_HB, Q_NB435_434, Q_NB434_435, Q_NB436_434, Q_NB434_436, Q_NB436_435, Q_NB435_436, Q_BK434, Q_GW434, Q_GE434, Q_NB420_434, Q_NB434_420, Q_NB421_434, Q_NB434_421, Q_NB422_434, Q_NB434_422, Q_NB423_434, Q_NB434_423, Q_BK435, Q_GW435, Q_GE435, Q_NB420_435, Q_NB435_420, Q_NB421_435, Q_NB435_421, Q_NB422_435, Q_NB435_422, Q_NB423_435, Q_NB435_423, Q_BK436, Q_GW436, Q_GE436, Q_NB420_436, Q_NB436_420, Q_NB421_436, Q_NB436_421, Q_NB422_436, Q_NB436_422, Q_NB423_436, Q_NB436_423, fun h0_ => absurd ((hoff 12 (by kernel_rfl)).symm.trans h0_) (by decide), fun h0_ => absurd ((hoff 13 (by kernel_rfl)).symm.trans h0_) (by decide), fun h0_ => absurd ((hoff 14 (by kernel_rfl)).symm.trans h0_) (by decide), Q_X9_, Q_X10_, Q_X11_⟩
          refine steps_cons ?_ ?_
          · rintro b a w' ⟨gb434, gb435, gb436, m9_, m10_, m11_, ha, Q_BK420, Q_BK421, Q_BK422, Q_BK423, Q_HB, Q_NB435_434, Q_NB434_435, Q_NB436_434, Q_NB434_436, Q_NB436_435, Q_NB435_436, Q_BK434, Q_GW434, Q_GE434, Q_NB420_434, Q_NB434_420, Q_NB421_434, Q_NB434_421, Q_NB422_434, Q_NB434_422, Q_NB423_434, Q_NB434_423, Q_BK435, Q_GW435, Q_GE435, Q_NB420_435, Q_NB435_420, Q_NB421_435, Q_NB435_421, Q_NB422_435, Q_NB435_422, Q_NB423_435, Q_NB435_423, Q_BK436, Q_GW436, Q_GE436, Q_NB420_436, Q_NB436_420, Q_NB421_436, Q_NB436_421, Q_NB422_436, Q_NB436_422, Q_NB423_436, Q_NB436_423, Q_BK434_e12, Q_BK435_e13, Q_BK436_e14, Q_X9_, Q_X10_, Q_X11_⟩ hb_ hon hoff
            refine ⟨_, rfl, fun K hK => ?_⟩
            have e5 : a.tmps[5]? = some (.pointer (some ⟨gb421, 0, none⟩)) := by rw [ha]; exact (putSel_off rfl).trans rfl
            replace ha := Aside0.mk ha
            have BK420 := Aside0.mk Q_BK420
            have BK421 := Aside0.mk Q_BK421
            have BK422 := Aside0.mk Q_BK422
            have BK423 := Aside0.mk Q_BK423
            have HB := Aside0.mk Q_HB
            have hc0_ : w'.cell? ⟨gb421, 0, none⟩ = some (.int .i64 a1_0) := (blk_cell BK421.out 0).trans rfl
            have hc1_ : w'.cell? ⟨gb421, 1, none⟩ = some (.int .i64 a1_1) := (blk_cell BK421.out 1).trans rfl
            refine value_ (w1 := w') (v := .agg #[.int .i64 a1_0, .int .i64 a1_1]) (by rfl) rfl ?_ ?_
            · go_simp
              (try simp only [i64_w])
              try rfl
            refine hK.out _ _ ⟨gb434, gb435, gb436, m9_, m10_, m11_, (by rw [ha.out]; exact putSel_upk 1 hb_ rfl rfl rfl), Q_BK420, Q_BK421, Q_BK422, Q_BK423, Q_HB, Q_NB435_434, Q_NB434_435, Q_NB436_434, Q_NB434_436, Q_NB436_435, Q_NB435_436, Q_BK434, Q_GW434, Q_GE434, Q_NB420_434, Q_NB434_420, Q_NB421_434, Q_NB434_421, Q_NB422_434, Q_NB434_422, Q_NB423_434, Q_NB434_423, Q_BK435, Q_GW435, Q_GE435, Q_NB420_435, Q_NB435_420, Q_NB421_435, Q_NB435_421, Q_NB422_435, Q_NB435_422, Q_NB423_435, Q_NB435_423, Q_BK436, Q_GW436, Q_GE436, Q_NB420_436, Q_NB436_420, Q_NB421_436, Q_NB436_421, Q_NB422_436, Q_NB436_422, Q_NB423_436, Q_NB436_423, fun h0_ => absurd ((hoff 12 (by kernel_rfl)).symm.trans h0_) (by decide), fun h0_ => absurd ((hoff 13 (by kernel_rfl)).symm.trans h0_) (by decide), fun h0_ => absurd ((hoff 14 (by kernel_rfl)).symm.trans h0_) (by decide), Q_X9_, Q_X10_, Q_X11_⟩
          refine steps_cons ?_ ?_
          · rintro b a w' ⟨gb434, gb435, gb436, m9_, m10_, m11_, ha, Q_BK420, Q_BK421, Q_BK422, Q_BK423, Q_HB, Q_NB435_434, Q_NB434_435, Q_NB436_434, Q_NB434_436, Q_NB436_435, Q_NB435_436, Q_BK434, Q_GW434, Q_GE434, Q_NB420_434, Q_NB434_420, Q_NB421_434, Q_NB434_421, Q_NB422_434, Q_NB434_422, Q_NB423_434, Q_NB434_423, Q_BK435, Q_GW435, Q_GE435, Q_NB420_435, Q_NB435_420, Q_NB421_435, Q_NB435_421, Q_NB422_435, Q_NB435_422, Q_NB423_435, Q_NB435_423, Q_BK436, Q_GW436, Q_GE436, Q_NB420_436, Q_NB436_420, Q_NB421_436, Q_NB436_421, Q_NB422_436, Q_NB436_422, Q_NB423_436, Q_NB436_423, Q_BK434_e12, Q_BK435_e13, Q_BK436_e14, Q_X9_, Q_X10_, Q_X11_⟩ hb_ hon hoff
            refine ⟨_, rfl, fun K hK => ?_⟩
            have e35 : a.tmps[35]? = some (.agg #[.int .i64 a0_0, .int .i64 a0_1]) := by rw [ha]; exact putSel_on (e := (0, 35, .agg #[.int .i64 a0_0, .int .i64 a0_1])) 0 rfl rfl (hon 0 (by kernel_rfl)) rfl
            have e36 : a.tmps[36]? = some (.agg #[.int .i64 a1_0, .int .i64 a1_1]) := by rw [ha]; exact putSel_on (e := (1, 36, .agg #[.int .i64 a1_0, .int .i64 a1_1])) 1 rfl rfl (hon 1 (by kernel_rfl)) rfl
            replace ha := Aside0.mk ha
            have BK420 := Aside0.mk Q_BK420
            have BK421 := Aside0.mk Q_BK421
            have BK422 := Aside0.mk Q_BK422
            have BK423 := Aside0.mk Q_BK423
            have HB := Aside0.mk Q_HB
            refine goes_ Try.func50 (by kernel_rfl) rfl #[.agg #[.int .i64 a0_0, .int .i64 a0_1], .agg #[.int .i64 a1_0, .int .i64 a1_1]] (by rfl) rfl rfl (by first | (simp only [List.map_toArray, List.map_cons, List.map_nil, Act.eval, Array.getD_eq_getD_getElem?, Option.getD_some, e35, e36]; done) | (simp only [List.map_toArray, List.map_cons, List.map_nil, Act.eval, Array.getD_eq_getD_getElem?, Option.getD_some, e35, e36]; rfl)) ?_
            with_reducible refine (grids_to.calls a0_0 a0_1 a1_0 a1_1 t428 t429 _ A80.out).mono ?_
            rintro e w90 ⟨rfl, hb⟩
            refine ⟨_, rfl, ?_⟩
            have n0_ := bb BK420 hb
            have n1_ := bb BK421 hb
            have n2_ := bb BK422 hb
            have n3_ := bb BK423 hb
            have n4_ := bst HB hb
            have z_BK434 := fun (h0_ : b 9 = true) (h1_ : b 12 = false) => (show w90.heap[gb434]? = some (.cells #[.int .i64 0, .int .i64 0] 81 (0, 0)) from by first | exact (blk_below (g := gb434) (o := .cells #[.int .i64 0, .int .i64 0] 81 (0, 0)) (by (with_reducible repeat (first | refine blk_drewN ?_ _ | refine blk_drew ?_ | refine blk_alloc ?_ _)); exact (Q_BK434 h0_ h1_)) hb))
            have z_BK435 := fun (h0_ : b 10 = true) (h1_ : b 13 = false) => (show w90.heap[gb435]? = some (.cells #[.int .i64 0, .int .i64 0] 81 (0, 0)) from by first | exact (blk_below (g := gb435) (o := .cells #[.int .i64 0, .int .i64 0] 81 (0, 0)) (by (with_reducible repeat (first | refine blk_drewN ?_ _ | refine blk_drew ?_ | refine blk_alloc ?_ _)); exact (Q_BK435 h0_ h1_)) hb))
            have z_BK436 := fun (h0_ : b 11 = true) (h1_ : b 14 = false) => (show w90.heap[gb436]? = some (.cells #[.int .i64 0, .int .i64 0] 81 (0, 0)) from by first | exact (blk_below (g := gb436) (o := .cells #[.int .i64 0, .int .i64 0] 81 (0, 0)) (by (with_reducible repeat (first | refine blk_drewN ?_ _ | refine blk_drew ?_ | refine blk_alloc ?_ _)); exact (Q_BK436 h0_ h1_)) hb))
            clear BK420
            clear BK421
            clear BK422
            clear BK423
            clear HB
            have BK420 := n0_
            have BK421 := n1_
            have BK422 := n2_
            have BK423 := n3_
            have HB := n4_
            clear n0_ n1_ n2_ n3_ n4_
            (try clear hb)
            (try clear hb2)
            (try clear hk)
            (try clear hi)
            refine hK.out _ _ ⟨gb434, gb435, gb436, m9_, m10_, m11_, (by rw [ha.out]; exact putSel_upk 2 hb_ rfl rfl rfl), (pk BK420), (pk BK421), (pk BK422), (pk BK423), (bnow HB), Q_NB435_434, Q_NB434_435, Q_NB436_434, Q_NB434_436, Q_NB436_435, Q_NB435_436, z_BK434, Q_GW434, Q_GE434, Q_NB420_434, Q_NB434_420, Q_NB421_434, Q_NB434_421, Q_NB422_434, Q_NB434_422, Q_NB423_434, Q_NB434_423, z_BK435, Q_GW435, Q_GE435, Q_NB420_435, Q_NB435_420, Q_NB421_435, Q_NB435_421, Q_NB422_435, Q_NB435_422, Q_NB423_435, Q_NB435_423, z_BK436, Q_GW436, Q_GE436, Q_NB420_436, Q_NB436_420, Q_NB421_436, Q_NB436_421, Q_NB422_436, Q_NB436_422, Q_NB423_436, Q_NB436_423, fun h0_ => absurd ((hoff 12 (by kernel_rfl)).symm.trans h0_) (by decide), fun h0_ => absurd ((hoff 13 (by kernel_rfl)).symm.trans h0_) (by decide), fun h0_ => absurd ((hoff 14 (by kernel_rfl)).symm.trans h0_) (by decide), Q_X9_, Q_X10_, Q_X11_⟩
          refine steps_cons ?_ ?_
          · rintro b a w' ⟨gb434, gb435, gb436, m9_, m10_, m11_, ha, Q_BK420, Q_BK421, Q_BK422, Q_BK423, Q_HB, Q_NB435_434, Q_NB434_435, Q_NB436_434, Q_NB434_436, Q_NB436_435, Q_NB435_436, Q_BK434, Q_GW434, Q_GE434, Q_NB420_434, Q_NB434_420, Q_NB421_434, Q_NB434_421, Q_NB422_434, Q_NB434_422, Q_NB423_434, Q_NB434_423, Q_BK435, Q_GW435, Q_GE435, Q_NB420_435, Q_NB435_420, Q_NB421_435, Q_NB435_421, Q_NB422_435, Q_NB435_422, Q_NB423_435, Q_NB435_423, Q_BK436, Q_GW436, Q_GE436, Q_NB420_436, Q_NB436_420, Q_NB421_436, Q_NB436_421, Q_NB422_436, Q_NB436_422, Q_NB423_436, Q_NB436_423, Q_BK434_e12, Q_BK435_e13, Q_BK436_e14, Q_X9_, Q_X10_, Q_X11_⟩ hb_ hon hoff
            refine ⟨_, rfl, fun K hK => ?_⟩
            have e4 : a.tmps[4]? = some (.pointer (some ⟨gb420, 0, none⟩)) := by rw [ha]; exact (putSel_off rfl).trans rfl
            replace ha := Aside0.mk ha
            have BK420 := Aside0.mk Q_BK420
            have BK421 := Aside0.mk Q_BK421
            have BK422 := Aside0.mk Q_BK422
            have BK423 := Aside0.mk Q_BK423
            have HB := Aside0.mk Q_HB
            have hc0_ : w'.cell? ⟨gb420, 0, none⟩ = some (.int .i64 a0_0) := (blk_cell BK420.out 0).trans rfl
            have hc1_ : w'.cell? ⟨gb420, 1, none⟩ = some (.int .i64 a0_1) := (blk_cell BK420.out 1).trans rfl
            refine value_ (w1 := w') (v := .agg #[.int .i64 a0_0, .int .i64 a0_1]) (by rfl) rfl ?_ ?_
            · go_simp
              (try simp only [i64_w])
              try rfl
            refine hK.out _ _ ⟨gb434, gb435, gb436, m9_, m10_, m11_, (by rw [ha.out]; exact putSel_upk 3 hb_ rfl rfl rfl), Q_BK420, Q_BK421, Q_BK422, Q_BK423, Q_HB, Q_NB435_434, Q_NB434_435, Q_NB436_434, Q_NB434_436, Q_NB436_435, Q_NB435_436, Q_BK434, Q_GW434, Q_GE434, Q_NB420_434, Q_NB434_420, Q_NB421_434, Q_NB434_421, Q_NB422_434, Q_NB434_422, Q_NB423_434, Q_NB434_423, Q_BK435, Q_GW435, Q_GE435, Q_NB420_435, Q_NB435_420, Q_NB421_435, Q_NB435_421, Q_NB422_435, Q_NB435_422, Q_NB423_435, Q_NB435_423, Q_BK436, Q_GW436, Q_GE436, Q_NB420_436, Q_NB436_420, Q_NB421_436, Q_NB436_421, Q_NB422_436, Q_NB436_422, Q_NB423_436, Q_NB436_423, fun h0_ => absurd ((hoff 12 (by kernel_rfl)).symm.trans h0_) (by decide), fun h0_ => absurd ((hoff 13 (by kernel_rfl)).symm.trans h0_) (by decide), fun h0_ => absurd ((hoff 14 (by kernel_rfl)).symm.trans h0_) (by decide), Q_X9_, Q_X10_, Q_X11_⟩
          refine steps_cons ?_ ?_
          · rintro b a w' ⟨gb434, gb435, gb436, m9_, m10_, m11_, ha, Q_BK420, Q_BK421, Q_BK422, Q_BK423, Q_HB, Q_NB435_434, Q_NB434_435, Q_NB436_434, Q_NB434_436, Q_NB436_435, Q_NB435_436, Q_BK434, Q_GW434, Q_GE434, Q_NB420_434, Q_NB434_420, Q_NB421_434, Q_NB434_421, Q_NB422_434, Q_NB434_422, Q_NB423_434, Q_NB434_423, Q_BK435, Q_GW435, Q_GE435, Q_NB420_435, Q_NB435_420, Q_NB421_435, Q_NB435_421, Q_NB422_435, Q_NB435_422, Q_NB423_435, Q_NB435_423, Q_BK436, Q_GW436, Q_GE436, Q_NB420_436, Q_NB436_420, Q_NB421_436, Q_NB436_421, Q_NB422_436, Q_NB436_422, Q_NB423_436, Q_NB436_423, Q_BK434_e12, Q_BK435_e13, Q_BK436_e14, Q_X9_, Q_X10_, Q_X11_⟩ hb_ hon hoff
            refine ⟨_, rfl, fun K hK => ?_⟩
            have e6 : a.tmps[6]? = some (.pointer (some ⟨gb422, 0, none⟩)) := by rw [ha]; exact (putSel_off rfl).trans rfl
            replace ha := Aside0.mk ha
            have BK420 := Aside0.mk Q_BK420
            have BK421 := Aside0.mk Q_BK421
            have BK422 := Aside0.mk Q_BK422
            have BK423 := Aside0.mk Q_BK423
            have HB := Aside0.mk Q_HB
            have hc0_ : w'.cell? ⟨gb422, 0, none⟩ = some (.int .i64 a2_0) := (blk_cell BK422.out 0).trans rfl
            have hc1_ : w'.cell? ⟨gb422, 1, none⟩ = some (.int .i64 a2_1) := (blk_cell BK422.out 1).trans rfl
            refine value_ (w1 := w') (v := .agg #[.int .i64 a2_0, .int .i64 a2_1]) (by rfl) rfl ?_ ?_
            · go_simp
              (try simp only [i64_w])
              try rfl
            refine hK.out _ _ ⟨gb434, gb435, gb436, m9_, m10_, m11_, (by rw [ha.out]; exact putSel_upk 4 hb_ rfl rfl rfl), Q_BK420, Q_BK421, Q_BK422, Q_BK423, Q_HB, Q_NB435_434, Q_NB434_435, Q_NB436_434, Q_NB434_436, Q_NB436_435, Q_NB435_436, Q_BK434, Q_GW434, Q_GE434, Q_NB420_434, Q_NB434_420, Q_NB421_434, Q_NB434_421, Q_NB422_434, Q_NB434_422, Q_NB423_434, Q_NB434_423, Q_BK435, Q_GW435, Q_GE435, Q_NB420_435, Q_NB435_420, Q_NB421_435, Q_NB435_421, Q_NB422_435, Q_NB435_422, Q_NB423_435, Q_NB435_423, Q_BK436, Q_GW436, Q_GE436, Q_NB420_436, Q_NB436_420, Q_NB421_436, Q_NB436_421, Q_NB422_436, Q_NB436_422, Q_NB423_436, Q_NB436_423, fun h0_ => absurd ((hoff 12 (by kernel_rfl)).symm.trans h0_) (by decide), fun h0_ => absurd ((hoff 13 (by kernel_rfl)).symm.trans h0_) (by decide), fun h0_ => absurd ((hoff 14 (by kernel_rfl)).symm.trans h0_) (by decide), Q_X9_, Q_X10_, Q_X11_⟩
          refine steps_cons ?_ ?_
          · rintro b a w' ⟨gb434, gb435, gb436, m9_, m10_, m11_, ha, Q_BK420, Q_BK421, Q_BK422, Q_BK423, Q_HB, Q_NB435_434, Q_NB434_435, Q_NB436_434, Q_NB434_436, Q_NB436_435, Q_NB435_436, Q_BK434, Q_GW434, Q_GE434, Q_NB420_434, Q_NB434_420, Q_NB421_434, Q_NB434_421, Q_NB422_434, Q_NB434_422, Q_NB423_434, Q_NB434_423, Q_BK435, Q_GW435, Q_GE435, Q_NB420_435, Q_NB435_420, Q_NB421_435, Q_NB435_421, Q_NB422_435, Q_NB435_422, Q_NB423_435, Q_NB435_423, Q_BK436, Q_GW436, Q_GE436, Q_NB420_436, Q_NB436_420, Q_NB421_436, Q_NB436_421, Q_NB422_436, Q_NB436_422, Q_NB423_436, Q_NB436_423, Q_BK434_e12, Q_BK435_e13, Q_BK436_e14, Q_X9_, Q_X10_, Q_X11_⟩ hb_ hon hoff
            refine ⟨_, rfl, fun K hK => ?_⟩
            have e38 : a.tmps[38]? = some (.agg #[.int .i64 a0_0, .int .i64 a0_1]) := by rw [ha]; exact putSel_on (e := (3, 38, .agg #[.int .i64 a0_0, .int .i64 a0_1])) 3 rfl rfl (hon 3 (by kernel_rfl)) rfl
            have e39 : a.tmps[39]? = some (.agg #[.int .i64 a2_0, .int .i64 a2_1]) := by rw [ha]; exact putSel_on (e := (4, 39, .agg #[.int .i64 a2_0, .int .i64 a2_1])) 4 rfl rfl (hon 4 (by kernel_rfl)) rfl
            replace ha := Aside0.mk ha
            have BK420 := Aside0.mk Q_BK420
            have BK421 := Aside0.mk Q_BK421
            have BK422 := Aside0.mk Q_BK422
            have BK423 := Aside0.mk Q_BK423
            have HB := Aside0.mk Q_HB
            refine goes_ Try.func50 (by kernel_rfl) rfl #[.agg #[.int .i64 a0_0, .int .i64 a0_1], .agg #[.int .i64 a2_0, .int .i64 a2_1]] (by rfl) rfl rfl (by first | (simp only [List.map_toArray, List.map_cons, List.map_nil, Act.eval, Array.getD_eq_getD_getElem?, Option.getD_some, e38, e39]; done) | (simp only [List.map_toArray, List.map_cons, List.map_nil, Act.eval, Array.getD_eq_getD_getElem?, Option.getD_some, e38, e39]; rfl)) ?_
            with_reducible refine (grids_to.calls a0_0 a0_1 a2_0 a2_1 t430 t431 _ A81.out).mono ?_
            rintro e w92 ⟨rfl, hb⟩
            refine ⟨_, rfl, ?_⟩
            have n0_ := bb BK420 hb
            have n1_ := bb BK421 hb
            have n2_ := bb BK422 hb
            have n3_ := bb BK423 hb
            have n4_ := bst HB hb
            have z_BK434 := fun (h0_ : b 9 = true) (h1_ : b 12 = false) => (show w92.heap[gb434]? = some (.cells #[.int .i64 0, .int .i64 0] 81 (0, 0)) from by first | exact (blk_below (g := gb434) (o := .cells #[.int .i64 0, .int .i64 0] 81 (0, 0)) (by (with_reducible repeat (first | refine blk_drewN ?_ _ | refine blk_drew ?_ | refine blk_alloc ?_ _)); exact (Q_BK434 h0_ h1_)) hb))
            have z_BK435 := fun (h0_ : b 10 = true) (h1_ : b 13 = false) => (show w92.heap[gb435]? = some (.cells #[.int .i64 0, .int .i64 0] 81 (0, 0)) from by first | exact (blk_below (g := gb435) (o := .cells #[.int .i64 0, .int .i64 0] 81 (0, 0)) (by (with_reducible repeat (first | refine blk_drewN ?_ _ | refine blk_drew ?_ | refine blk_alloc ?_ _)); exact (Q_BK435 h0_ h1_)) hb))
            have z_BK436 := fun (h0_ : b 11 = true) (h1_ : b 14 = false) => (show w92.heap[gb436]? = some (.cells #[.int .i64 0, .int .i64 0] 81 (0, 0)) from by first | exact (blk_below (g := gb436) (o := .cells #[.int .i64 0, .int .i64 0] 81 (0, 0)) (by (with_reducible repeat (first | refine blk_drewN ?_ _ | refine blk_drew ?_ | refine blk_alloc ?_ _)); exact (Q_BK436 h0_ h1_)) hb))
            clear BK420
            clear BK421
            clear BK422
            clear BK423
            clear HB
            have BK420 := n0_
            have BK421 := n1_
            have BK422 := n2_
            have BK423 := n3_
            have HB := n4_
            clear n0_ n1_ n2_ n3_ n4_
            (try clear hb)
            (try clear hb2)
            (try clear hk)
            (try clear hi)
            refine hK.out _ _ ⟨gb434, gb435, gb436, m9_, m10_, m11_, (by rw [ha.out]; exact putSel_upk 5 hb_ rfl rfl rfl), (pk BK420), (pk BK421), (pk BK422), (pk BK423), (bnow HB), Q_NB435_434, Q_NB434_435, Q_NB436_434, Q_NB434_436, Q_NB436_435, Q_NB435_436, z_BK434, Q_GW434, Q_GE434, Q_NB420_434, Q_NB434_420, Q_NB421_434, Q_NB434_421, Q_NB422_434, Q_NB434_422, Q_NB423_434, Q_NB434_423, z_BK435, Q_GW435, Q_GE435, Q_NB420_435, Q_NB435_420, Q_NB421_435, Q_NB435_421, Q_NB422_435, Q_NB435_422, Q_NB423_435, Q_NB435_423, z_BK436, Q_GW436, Q_GE436, Q_NB420_436, Q_NB436_420, Q_NB421_436, Q_NB436_421, Q_NB422_436, Q_NB436_422, Q_NB423_436, Q_NB436_423, fun h0_ => absurd ((hoff 12 (by kernel_rfl)).symm.trans h0_) (by decide), fun h0_ => absurd ((hoff 13 (by kernel_rfl)).symm.trans h0_) (by decide), fun h0_ => absurd ((hoff 14 (by kernel_rfl)).symm.trans h0_) (by decide), Q_X9_, Q_X10_, Q_X11_⟩
          refine steps_cons ?_ ?_
          · rintro b a w' ⟨gb434, gb435, gb436, m9_, m10_, m11_, ha, Q_BK420, Q_BK421, Q_BK422, Q_BK423, Q_HB, Q_NB435_434, Q_NB434_435, Q_NB436_434, Q_NB434_436, Q_NB436_435, Q_NB435_436, Q_BK434, Q_GW434, Q_GE434, Q_NB420_434, Q_NB434_420, Q_NB421_434, Q_NB434_421, Q_NB422_434, Q_NB434_422, Q_NB423_434, Q_NB434_423, Q_BK435, Q_GW435, Q_GE435, Q_NB420_435, Q_NB435_420, Q_NB421_435, Q_NB435_421, Q_NB422_435, Q_NB435_422, Q_NB423_435, Q_NB435_423, Q_BK436, Q_GW436, Q_GE436, Q_NB420_436, Q_NB436_420, Q_NB421_436, Q_NB436_421, Q_NB422_436, Q_NB436_422, Q_NB423_436, Q_NB436_423, Q_BK434_e12, Q_BK435_e13, Q_BK436_e14, Q_X9_, Q_X10_, Q_X11_⟩ hb_ hon hoff
            refine ⟨_, rfl, fun K hK => ?_⟩
            have e4 : a.tmps[4]? = some (.pointer (some ⟨gb420, 0, none⟩)) := by rw [ha]; exact (putSel_off rfl).trans rfl
            replace ha := Aside0.mk ha
            have BK420 := Aside0.mk Q_BK420
            have BK421 := Aside0.mk Q_BK421
            have BK422 := Aside0.mk Q_BK422
            have BK423 := Aside0.mk Q_BK423
            have HB := Aside0.mk Q_HB
            have hc0_ : w'.cell? ⟨gb420, 0, none⟩ = some (.int .i64 a0_0) := (blk_cell BK420.out 0).trans rfl
            have hc1_ : w'.cell? ⟨gb420, 1, none⟩ = some (.int .i64 a0_1) := (blk_cell BK420.out 1).trans rfl
            refine value_ (w1 := w') (v := .agg #[.int .i64 a0_0, .int .i64 a0_1]) (by rfl) rfl ?_ ?_
            · go_simp
              (try simp only [i64_w])
              try rfl
            refine hK.out _ _ ⟨gb434, gb435, gb436, m9_, m10_, m11_, (by rw [ha.out]; exact putSel_upk 6 hb_ rfl rfl rfl), Q_BK420, Q_BK421, Q_BK422, Q_BK423, Q_HB, Q_NB435_434, Q_NB434_435, Q_NB436_434, Q_NB434_436, Q_NB436_435, Q_NB435_436, Q_BK434, Q_GW434, Q_GE434, Q_NB420_434, Q_NB434_420, Q_NB421_434, Q_NB434_421, Q_NB422_434, Q_NB434_422, Q_NB423_434, Q_NB434_423, Q_BK435, Q_GW435, Q_GE435, Q_NB420_435, Q_NB435_420, Q_NB421_435, Q_NB435_421, Q_NB422_435, Q_NB435_422, Q_NB423_435, Q_NB435_423, Q_BK436, Q_GW436, Q_GE436, Q_NB420_436, Q_NB436_420, Q_NB421_436, Q_NB436_421, Q_NB422_436, Q_NB436_422, Q_NB423_436, Q_NB436_423, fun h0_ => absurd ((hoff 12 (by kernel_rfl)).symm.trans h0_) (by decide), fun h0_ => absurd ((hoff 13 (by kernel_rfl)).symm.trans h0_) (by decide), fun h0_ => absurd ((hoff 14 (by kernel_rfl)).symm.trans h0_) (by decide), Q_X9_, Q_X10_, Q_X11_⟩
          refine steps_cons ?_ ?_
          · rintro b a w' ⟨gb434, gb435, gb436, m9_, m10_, m11_, ha, Q_BK420, Q_BK421, Q_BK422, Q_BK423, Q_HB, Q_NB435_434, Q_NB434_435, Q_NB436_434, Q_NB434_436, Q_NB436_435, Q_NB435_436, Q_BK434, Q_GW434, Q_GE434, Q_NB420_434, Q_NB434_420, Q_NB421_434, Q_NB434_421, Q_NB422_434, Q_NB434_422, Q_NB423_434, Q_NB434_423, Q_BK435, Q_GW435, Q_GE435, Q_NB420_435, Q_NB435_420, Q_NB421_435, Q_NB435_421, Q_NB422_435, Q_NB435_422, Q_NB423_435, Q_NB435_423, Q_BK436, Q_GW436, Q_GE436, Q_NB420_436, Q_NB436_420, Q_NB421_436, Q_NB436_421, Q_NB422_436, Q_NB436_422, Q_NB423_436, Q_NB436_423, Q_BK434_e12, Q_BK435_e13, Q_BK436_e14, Q_X9_, Q_X10_, Q_X11_⟩ hb_ hon hoff
            refine ⟨_, rfl, fun K hK => ?_⟩
            have e7 : a.tmps[7]? = some (.pointer (some ⟨gb423, 0, none⟩)) := by rw [ha]; exact (putSel_off rfl).trans rfl
            replace ha := Aside0.mk ha
            have BK420 := Aside0.mk Q_BK420
            have BK421 := Aside0.mk Q_BK421
            have BK422 := Aside0.mk Q_BK422
            have BK423 := Aside0.mk Q_BK423
            have HB := Aside0.mk Q_HB
            have hc0_ : w'.cell? ⟨gb423, 0, none⟩ = some (.int .i64 a3_0) := (blk_cell BK423.out 0).trans rfl
            have hc1_ : w'.cell? ⟨gb423, 1, none⟩ = some (.int .i64 a3_1) := (blk_cell BK423.out 1).trans rfl
            refine value_ (w1 := w') (v := .agg #[.int .i64 a3_0, .int .i64 a3_1]) (by rfl) rfl ?_ ?_
            · go_simp
              (try simp only [i64_w])
              try rfl
            refine hK.out _ _ ⟨gb434, gb435, gb436, m9_, m10_, m11_, (by rw [ha.out]; exact putSel_upk 7 hb_ rfl rfl rfl), Q_BK420, Q_BK421, Q_BK422, Q_BK423, Q_HB, Q_NB435_434, Q_NB434_435, Q_NB436_434, Q_NB434_436, Q_NB436_435, Q_NB435_436, Q_BK434, Q_GW434, Q_GE434, Q_NB420_434, Q_NB434_420, Q_NB421_434, Q_NB434_421, Q_NB422_434, Q_NB434_422, Q_NB423_434, Q_NB434_423, Q_BK435, Q_GW435, Q_GE435, Q_NB420_435, Q_NB435_420, Q_NB421_435, Q_NB435_421, Q_NB422_435, Q_NB435_422, Q_NB423_435, Q_NB435_423, Q_BK436, Q_GW436, Q_GE436, Q_NB420_436, Q_NB436_420, Q_NB421_436, Q_NB436_421, Q_NB422_436, Q_NB436_422, Q_NB423_436, Q_NB436_423, fun h0_ => absurd ((hoff 12 (by kernel_rfl)).symm.trans h0_) (by decide), fun h0_ => absurd ((hoff 13 (by kernel_rfl)).symm.trans h0_) (by decide), fun h0_ => absurd ((hoff 14 (by kernel_rfl)).symm.trans h0_) (by decide), Q_X9_, Q_X10_, Q_X11_⟩
          refine steps_cons ?_ ?_
          · rintro b a w' ⟨gb434, gb435, gb436, m9_, m10_, m11_, ha, Q_BK420, Q_BK421, Q_BK422, Q_BK423, Q_HB, Q_NB435_434, Q_NB434_435, Q_NB436_434, Q_NB434_436, Q_NB436_435, Q_NB435_436, Q_BK434, Q_GW434, Q_GE434, Q_NB420_434, Q_NB434_420, Q_NB421_434, Q_NB434_421, Q_NB422_434, Q_NB434_422, Q_NB423_434, Q_NB434_423, Q_BK435, Q_GW435, Q_GE435, Q_NB420_435, Q_NB435_420, Q_NB421_435, Q_NB435_421, Q_NB422_435, Q_NB435_422, Q_NB423_435, Q_NB435_423, Q_BK436, Q_GW436, Q_GE436, Q_NB420_436, Q_NB436_420, Q_NB421_436, Q_NB436_421, Q_NB422_436, Q_NB436_422, Q_NB423_436, Q_NB436_423, Q_BK434_e12, Q_BK435_e13, Q_BK436_e14, Q_X9_, Q_X10_, Q_X11_⟩ hb_ hon hoff
            refine ⟨_, rfl, fun K hK => ?_⟩
            have e41 : a.tmps[41]? = some (.agg #[.int .i64 a0_0, .int .i64 a0_1]) := by rw [ha]; exact putSel_on (e := (6, 41, .agg #[.int .i64 a0_0, .int .i64 a0_1])) 6 rfl rfl (hon 6 (by kernel_rfl)) rfl
            have e42 : a.tmps[42]? = some (.agg #[.int .i64 a3_0, .int .i64 a3_1]) := by rw [ha]; exact putSel_on (e := (7, 42, .agg #[.int .i64 a3_0, .int .i64 a3_1])) 7 rfl rfl (hon 7 (by kernel_rfl)) rfl
            replace ha := Aside0.mk ha
            have BK420 := Aside0.mk Q_BK420
            have BK421 := Aside0.mk Q_BK421
            have BK422 := Aside0.mk Q_BK422
            have BK423 := Aside0.mk Q_BK423
            have HB := Aside0.mk Q_HB
            refine goes_ Try.func50 (by kernel_rfl) rfl #[.agg #[.int .i64 a0_0, .int .i64 a0_1], .agg #[.int .i64 a3_0, .int .i64 a3_1]] (by rfl) rfl rfl (by first | (simp only [List.map_toArray, List.map_cons, List.map_nil, Act.eval, Array.getD_eq_getD_getElem?, Option.getD_some, e41, e42]; done) | (simp only [List.map_toArray, List.map_cons, List.map_nil, Act.eval, Array.getD_eq_getD_getElem?, Option.getD_some, e41, e42]; rfl)) ?_
            with_reducible refine (grids_to.calls a0_0 a0_1 a3_0 a3_1 t432 t433 _ A82.out).mono ?_
            rintro e w93 ⟨rfl, hb⟩
            refine ⟨_, rfl, ?_⟩
            have n0_ := bb BK420 hb
            have n1_ := bb BK421 hb
            have n2_ := bb BK422 hb
            have n3_ := bb BK423 hb
            have n4_ := bst HB hb
            have z_BK434 := fun (h0_ : b 9 = true) (h1_ : b 12 = false) => (show w93.heap[gb434]? = some (.cells #[.int .i64 0, .int .i64 0] 81 (0, 0)) from by first | exact (blk_below (g := gb434) (o := .cells #[.int .i64 0, .int .i64 0] 81 (0, 0)) (by (with_reducible repeat (first | refine blk_drewN ?_ _ | refine blk_drew ?_ | refine blk_alloc ?_ _)); exact (Q_BK434 h0_ h1_)) hb))
            have z_BK435 := fun (h0_ : b 10 = true) (h1_ : b 13 = false) => (show w93.heap[gb435]? = some (.cells #[.int .i64 0, .int .i64 0] 81 (0, 0)) from by first | exact (blk_below (g := gb435) (o := .cells #[.int .i64 0, .int .i64 0] 81 (0, 0)) (by (with_reducible repeat (first | refine blk_drewN ?_ _ | refine blk_drew ?_ | refine blk_alloc ?_ _)); exact (Q_BK435 h0_ h1_)) hb))
            have z_BK436 := fun (h0_ : b 11 = true) (h1_ : b 14 = false) => (show w93.heap[gb436]? = some (.cells #[.int .i64 0, .int .i64 0] 81 (0, 0)) from by first | exact (blk_below (g := gb436) (o := .cells #[.int .i64 0, .int .i64 0] 81 (0, 0)) (by (with_reducible repeat (first | refine blk_drewN ?_ _ | refine blk_drew ?_ | refine blk_alloc ?_ _)); exact (Q_BK436 h0_ h1_)) hb))
            clear BK420
            clear BK421
            clear BK422
            clear BK423
            clear HB
            have BK420 := n0_
            have BK421 := n1_
            have BK422 := n2_
            have BK423 := n3_
            have HB := n4_
            clear n0_ n1_ n2_ n3_ n4_
            (try clear hb)
            (try clear hb2)
            (try clear hk)
            (try clear hi)
            refine hK.out _ _ ⟨gb434, gb435, gb436, m9_, m10_, m11_, (by rw [ha.out]; exact putSel_upk 8 hb_ rfl rfl rfl), (pk BK420), (pk BK421), (pk BK422), (pk BK423), (bnow HB), Q_NB435_434, Q_NB434_435, Q_NB436_434, Q_NB434_436, Q_NB436_435, Q_NB435_436, z_BK434, Q_GW434, Q_GE434, Q_NB420_434, Q_NB434_420, Q_NB421_434, Q_NB434_421, Q_NB422_434, Q_NB434_422, Q_NB423_434, Q_NB434_423, z_BK435, Q_GW435, Q_GE435, Q_NB420_435, Q_NB435_420, Q_NB421_435, Q_NB435_421, Q_NB422_435, Q_NB435_422, Q_NB423_435, Q_NB435_423, z_BK436, Q_GW436, Q_GE436, Q_NB420_436, Q_NB436_420, Q_NB421_436, Q_NB436_421, Q_NB422_436, Q_NB436_422, Q_NB423_436, Q_NB436_423, fun h0_ => absurd ((hoff 12 (by kernel_rfl)).symm.trans h0_) (by decide), fun h0_ => absurd ((hoff 13 (by kernel_rfl)).symm.trans h0_) (by decide), fun h0_ => absurd ((hoff 14 (by kernel_rfl)).symm.trans h0_) (by decide), Q_X9_, Q_X10_, Q_X11_⟩
          refine steps_cons ?_ ?_
          · rintro b a w' ⟨gb434, gb435, gb436, m9_, m10_, m11_, ha, Q_BK420, Q_BK421, Q_BK422, Q_BK423, Q_HB, Q_NB435_434, Q_NB434_435, Q_NB436_434, Q_NB434_436, Q_NB436_435, Q_NB435_436, Q_BK434, Q_GW434, Q_GE434, Q_NB420_434, Q_NB434_420, Q_NB421_434, Q_NB434_421, Q_NB422_434, Q_NB434_422, Q_NB423_434, Q_NB434_423, Q_BK435, Q_GW435, Q_GE435, Q_NB420_435, Q_NB435_420, Q_NB421_435, Q_NB435_421, Q_NB422_435, Q_NB435_422, Q_NB423_435, Q_NB435_423, Q_BK436, Q_GW436, Q_GE436, Q_NB420_436, Q_NB436_420, Q_NB421_436, Q_NB436_421, Q_NB422_436, Q_NB436_422, Q_NB423_436, Q_NB436_423, Q_BK434_e12, Q_BK435_e13, Q_BK436_e14, Q_X9_, Q_X10_, Q_X11_⟩ hb_ hon hoff
            refine ⟨_, rfl, fun K hK => ?_⟩
            replace ha := Aside0.mk ha
            have BK420 := Aside0.mk Q_BK420
            have BK421 := Aside0.mk Q_BK421
            have BK422 := Aside0.mk Q_BK422
            have BK423 := Aside0.mk Q_BK423
            have HB := Aside0.mk Q_HB
            refine box_step ?hg (N := 10) ?hd (cs := #[.int .i64 0, .int .i64 0]) (t := 81) ?hr ?_; (case hd => rfl); (case hg => rfl); (case hr => first | (go_simp; done) | (go_simp; rfl))
            intro gb434 hg w90 hbox hb
            have n0_ := bb BK420 hb
            have n1_ := bb BK421 hb
            have n2_ := bb BK422 hb
            have n3_ := bb BK423 hb
            have n4_ := bst HB hb
            have n5_ := Aside0.mk (hbox)
            have n6_ := Aside0.mk ((by rw [hg]; exact (below_size (bnow HB)) : w.heap.size ≤ gb434))
            have n7_ := Aside0.mk ((by rw [hg]; exact (below_size (bnow HB)) : w.heap.size ≤ gb434))
            have n8_ := Aside0.mk ((by rw [hg]; exact Nat.ne_of_lt (blk_lt (g := gb420) (o := .cells #[.int .i64 a0_0, .int .i64 a0_1] 37 (0, 0)) (pk BK420)) : gb420 ≠ gb434))
            have n9_ := Aside0.mk ((by rw [hg]; exact Nat.ne_of_gt (blk_lt (g := gb420) (o := .cells #[.int .i64 a0_0, .int .i64 a0_1] 37 (0, 0)) (pk BK420)) : gb434 ≠ gb420))
            have n10_ := Aside0.mk ((by rw [hg]; exact Nat.ne_of_lt (blk_lt (g := gb421) (o := .cells #[.int .i64 a1_0, .int .i64 a1_1] 37 (0, 0)) (pk BK421)) : gb421 ≠ gb434))
            have n11_ := Aside0.mk ((by rw [hg]; exact Nat.ne_of_gt (blk_lt (g := gb421) (o := .cells #[.int .i64 a1_0, .int .i64 a1_1] 37 (0, 0)) (pk BK421)) : gb434 ≠ gb421))
            have n12_ := Aside0.mk ((by rw [hg]; exact Nat.ne_of_lt (blk_lt (g := gb422) (o := .cells #[.int .i64 a2_0, .int .i64 a2_1] 37 (0, 0)) (pk BK422)) : gb422 ≠ gb434))
            have n13_ := Aside0.mk ((by rw [hg]; exact Nat.ne_of_gt (blk_lt (g := gb422) (o := .cells #[.int .i64 a2_0, .int .i64 a2_1] 37 (0, 0)) (pk BK422)) : gb434 ≠ gb422))
            have n14_ := Aside0.mk ((by rw [hg]; exact Nat.ne_of_lt (blk_lt (g := gb423) (o := .cells #[.int .i64 a3_0, .int .i64 a3_1] 37 (0, 0)) (pk BK423)) : gb423 ≠ gb434))
            have n15_ := Aside0.mk ((by rw [hg]; exact Nat.ne_of_gt (blk_lt (g := gb423) (o := .cells #[.int .i64 a3_0, .int .i64 a3_1] 37 (0, 0)) (pk BK423)) : gb434 ≠ gb423))
            have z_NB435_434 := fun (h0_ : up b 9 9 = true) (h1_ : up b 9 10 = true) => (show gb435 ≠ gb434 from (by cases hb_ : b 13 with | false => exact ((by rw [hg]; exact Nat.ne_of_lt (blk_lt (g := gb435) (o := .cells #[.int .i64 0, .int .i64 0] 81 (0, 0)) (by (with_reducible repeat (first | refine blk_drewN ?_ _ | refine blk_drew ?_ | refine blk_alloc ?_ _)); exact (Q_BK435 h1_ hb_))) : gb435 ≠ gb434)) | true => exact ((by rw [hg]; exact Nat.ne_of_lt (blk_lt (g := gb435) (by (with_reducible repeat (first | refine blk_drewN ?_ _ | refine blk_drew ?_ | refine blk_alloc ?_ _)); exact (Q_BK435_e13 hb_))) : gb435 ≠ gb434))))
            have z_NB434_435 := fun (h0_ : up b 9 9 = true) (h1_ : up b 9 10 = true) => (show gb434 ≠ gb435 from (by cases hb_ : b 13 with | false => exact ((by rw [hg]; exact Nat.ne_of_gt (blk_lt (g := gb435) (o := .cells #[.int .i64 0, .int .i64 0] 81 (0, 0)) (by (with_reducible repeat (first | refine blk_drewN ?_ _ | refine blk_drew ?_ | refine blk_alloc ?_ _)); exact (Q_BK435 h1_ hb_))) : gb434 ≠ gb435)) | true => exact ((by rw [hg]; exact Nat.ne_of_gt (blk_lt (g := gb435) (by (with_reducible repeat (first | refine blk_drewN ?_ _ | refine blk_drew ?_ | refine blk_alloc ?_ _)); exact (Q_BK435_e13 hb_))) : gb434 ≠ gb435))))
            have z_NB436_434 := fun (h0_ : up b 9 9 = true) (h1_ : up b 9 11 = true) => (show gb436 ≠ gb434 from (by cases hb_ : b 14 with | false => exact ((by rw [hg]; exact Nat.ne_of_lt (blk_lt (g := gb436) (o := .cells #[.int .i64 0, .int .i64 0] 81 (0, 0)) (by (with_reducible repeat (first | refine blk_drewN ?_ _ | refine blk_drew ?_ | refine blk_alloc ?_ _)); exact (Q_BK436 h1_ hb_))) : gb436 ≠ gb434)) | true => exact ((by rw [hg]; exact Nat.ne_of_lt (blk_lt (g := gb436) (by (with_reducible repeat (first | refine blk_drewN ?_ _ | refine blk_drew ?_ | refine blk_alloc ?_ _)); exact (Q_BK436_e14 hb_))) : gb436 ≠ gb434))))
            have z_NB434_436 := fun (h0_ : up b 9 9 = true) (h1_ : up b 9 11 = true) => (show gb434 ≠ gb436 from (by cases hb_ : b 14 with | false => exact ((by rw [hg]; exact Nat.ne_of_gt (blk_lt (g := gb436) (o := .cells #[.int .i64 0, .int .i64 0] 81 (0, 0)) (by (with_reducible repeat (first | refine blk_drewN ?_ _ | refine blk_drew ?_ | refine blk_alloc ?_ _)); exact (Q_BK436 h1_ hb_))) : gb434 ≠ gb436)) | true => exact ((by rw [hg]; exact Nat.ne_of_gt (blk_lt (g := gb436) (by (with_reducible repeat (first | refine blk_drewN ?_ _ | refine blk_drew ?_ | refine blk_alloc ?_ _)); exact (Q_BK436_e14 hb_))) : gb434 ≠ gb436))))
            have z_BK435 := fun (h0_ : b 10 = true) (h1_ : b 13 = false) => (show w90.heap[gb435]? = some (.cells #[.int .i64 0, .int .i64 0] 81 (0, 0)) from by first | exact (blk_below (g := gb435) (o := .cells #[.int .i64 0, .int .i64 0] 81 (0, 0)) (by (with_reducible repeat (first | refine blk_drewN ?_ _ | refine blk_drew ?_ | refine blk_alloc ?_ _)); exact (Q_BK435 h0_ h1_)) hb))
            have z_BK436 := fun (h0_ : b 11 = true) (h1_ : b 14 = false) => (show w90.heap[gb436]? = some (.cells #[.int .i64 0, .int .i64 0] 81 (0, 0)) from by first | exact (blk_below (g := gb436) (o := .cells #[.int .i64 0, .int .i64 0] 81 (0, 0)) (by (with_reducible repeat (first | refine blk_drewN ?_ _ | refine blk_drew ?_ | refine blk_alloc ?_ _)); exact (Q_BK436 h0_ h1_)) hb))
            clear BK420
            clear BK421
            clear BK422
            clear BK423
            clear HB
            have BK420 := n0_
            have BK421 := n1_
            have BK422 := n2_
            have BK423 := n3_
            have HB := n4_
            have BK434 := n5_
            have GW434 := n6_
            have GE434 := n7_
            have NB420_434 := n8_
            have NB434_420 := n9_
            have NB421_434 := n10_
            have NB434_421 := n11_
            have NB422_434 := n12_
            have NB434_422 := n13_
            have NB423_434 := n14_
            have NB434_423 := n15_
            clear n0_ n1_ n2_ n3_ n4_ n5_ n6_ n7_ n8_ n9_ n10_ n11_ n12_ n13_ n14_ n15_
            clear hb hbox hg
            refine hK.out _ _ ⟨gb434, gb435, gb436, (.pointer (some ⟨gb434, 0, none⟩)), m10_, m11_, (by rw [ha.out]; exact putSel_upk 9 hb_ rfl rfl rfl), (pk BK420), (pk BK421), (pk BK422), (pk BK423), (bnow HB), z_NB435_434, z_NB434_435, z_NB436_434, z_NB434_436, Q_NB436_435, Q_NB435_436, fun _ _ => (pk BK434), fun _ => GW434.out, fun _ => GE434.out, fun _ => NB420_434.out, fun _ => NB434_420.out, fun _ => NB421_434.out, fun _ => NB434_421.out, fun _ => NB422_434.out, fun _ => NB434_422.out, fun _ => NB423_434.out, fun _ => NB434_423.out, z_BK435, Q_GW435, Q_GE435, Q_NB420_435, Q_NB435_420, Q_NB421_435, Q_NB435_421, Q_NB422_435, Q_NB435_422, Q_NB423_435, Q_NB435_423, z_BK436, Q_GW436, Q_GE436, Q_NB420_436, Q_NB436_420, Q_NB421_436, Q_NB436_421, Q_NB422_436, Q_NB436_422, Q_NB423_436, Q_NB436_423, fun h0_ => absurd ((hoff 12 (by kernel_rfl)).symm.trans h0_) (by decide), fun h0_ => absurd ((hoff 13 (by kernel_rfl)).symm.trans h0_) (by decide), fun h0_ => absurd ((hoff 14 (by kernel_rfl)).symm.trans h0_) (by decide), fun _ => rfl, Q_X10_, Q_X11_⟩
          refine steps_cons ?_ ?_
          · rintro b a w' ⟨gb434, gb435, gb436, m9_, m10_, m11_, ha, Q_BK420, Q_BK421, Q_BK422, Q_BK423, Q_HB, Q_NB435_434, Q_NB434_435, Q_NB436_434, Q_NB434_436, Q_NB436_435, Q_NB435_436, Q_BK434, Q_GW434, Q_GE434, Q_NB420_434, Q_NB434_420, Q_NB421_434, Q_NB434_421, Q_NB422_434, Q_NB434_422, Q_NB423_434, Q_NB434_423, Q_BK435, Q_GW435, Q_GE435, Q_NB420_435, Q_NB435_420, Q_NB421_435, Q_NB435_421, Q_NB422_435, Q_NB435_422, Q_NB423_435, Q_NB435_423, Q_BK436, Q_GW436, Q_GE436, Q_NB420_436, Q_NB436_420, Q_NB421_436, Q_NB436_421, Q_NB422_436, Q_NB436_422, Q_NB423_436, Q_NB436_423, Q_BK434_e12, Q_BK435_e13, Q_BK436_e14, Q_X9_, Q_X10_, Q_X11_⟩ hb_ hon hoff
            refine ⟨_, rfl, fun K hK => ?_⟩
            replace ha := Aside0.mk ha
            have BK420 := Aside0.mk Q_BK420
            have BK421 := Aside0.mk Q_BK421
            have BK422 := Aside0.mk Q_BK422
            have BK423 := Aside0.mk Q_BK423
            have HB := Aside0.mk Q_HB
            refine box_step ?hg (N := 11) ?hd (cs := #[.int .i64 0, .int .i64 0]) (t := 81) ?hr ?_; (case hd => rfl); (case hg => rfl); (case hr => first | (go_simp; done) | (go_simp; rfl))
            intro gb435 hg w90 hbox hb
            have n0_ := bb BK420 hb
            have n1_ := bb BK421 hb
            have n2_ := bb BK422 hb
            have n3_ := bb BK423 hb
            have n4_ := bst HB hb
            have n5_ := Aside0.mk (hbox)
            have n6_ := Aside0.mk ((by rw [hg]; exact (below_size (bnow HB)) : w.heap.size ≤ gb435))
            have n7_ := Aside0.mk ((by rw [hg]; exact (below_size (bnow HB)) : w.heap.size ≤ gb435))
            have n8_ := Aside0.mk ((by rw [hg]; exact Nat.ne_of_lt (blk_lt (g := gb420) (o := .cells #[.int .i64 a0_0, .int .i64 a0_1] 37 (0, 0)) (pk BK420)) : gb420 ≠ gb435))
            have n9_ := Aside0.mk ((by rw [hg]; exact Nat.ne_of_gt (blk_lt (g := gb420) (o := .cells #[.int .i64 a0_0, .int .i64 a0_1] 37 (0, 0)) (pk BK420)) : gb435 ≠ gb420))
            have n10_ := Aside0.mk ((by rw [hg]; exact Nat.ne_of_lt (blk_lt (g := gb421) (o := .cells #[.int .i64 a1_0, .int .i64 a1_1] 37 (0, 0)) (pk BK421)) : gb421 ≠ gb435))
            have n11_ := Aside0.mk ((by rw [hg]; exact Nat.ne_of_gt (blk_lt (g := gb421) (o := .cells #[.int .i64 a1_0, .int .i64 a1_1] 37 (0, 0)) (pk BK421)) : gb435 ≠ gb421))
            have n12_ := Aside0.mk ((by rw [hg]; exact Nat.ne_of_lt (blk_lt (g := gb422) (o := .cells #[.int .i64 a2_0, .int .i64 a2_1] 37 (0, 0)) (pk BK422)) : gb422 ≠ gb435))
            have n13_ := Aside0.mk ((by rw [hg]; exact Nat.ne_of_gt (blk_lt (g := gb422) (o := .cells #[.int .i64 a2_0, .int .i64 a2_1] 37 (0, 0)) (pk BK422)) : gb435 ≠ gb422))
            have n14_ := Aside0.mk ((by rw [hg]; exact Nat.ne_of_lt (blk_lt (g := gb423) (o := .cells #[.int .i64 a3_0, .int .i64 a3_1] 37 (0, 0)) (pk BK423)) : gb423 ≠ gb435))
            have n15_ := Aside0.mk ((by rw [hg]; exact Nat.ne_of_gt (blk_lt (g := gb423) (o := .cells #[.int .i64 a3_0, .int .i64 a3_1] 37 (0, 0)) (pk BK423)) : gb435 ≠ gb423))
            have z_NB435_434 := fun (h0_ : up b 10 9 = true) (h1_ : up b 10 10 = true) => (show gb435 ≠ gb434 from (by cases hb_ : b 12 with | false => exact ((by rw [hg]; exact Nat.ne_of_gt (blk_lt (g := gb434) (o := .cells #[.int .i64 0, .int .i64 0] 81 (0, 0)) (by (with_reducible repeat (first | refine blk_drewN ?_ _ | refine blk_drew ?_ | refine blk_alloc ?_ _)); exact (Q_BK434 h0_ hb_))) : gb435 ≠ gb434)) | true => exact ((by rw [hg]; exact Nat.ne_of_gt (blk_lt (g := gb434) (by (with_reducible repeat (first | refine blk_drewN ?_ _ | refine blk_drew ?_ | refine blk_alloc ?_ _)); exact (Q_BK434_e12 hb_))) : gb435 ≠ gb434))))
            have z_NB434_435 := fun (h0_ : up b 10 9 = true) (h1_ : up b 10 10 = true) => (show gb434 ≠ gb435 from (by cases hb_ : b 12 with | false => exact ((by rw [hg]; exact Nat.ne_of_lt (blk_lt (g := gb434) (o := .cells #[.int .i64 0, .int .i64 0] 81 (0, 0)) (by (with_reducible repeat (first | refine blk_drewN ?_ _ | refine blk_drew ?_ | refine blk_alloc ?_ _)); exact (Q_BK434 h0_ hb_))) : gb434 ≠ gb435)) | true => exact ((by rw [hg]; exact Nat.ne_of_lt (blk_lt (g := gb434) (by (with_reducible repeat (first | refine blk_drewN ?_ _ | refine blk_drew ?_ | refine blk_alloc ?_ _)); exact (Q_BK434_e12 hb_))) : gb434 ≠ gb435))))
            have z_NB436_435 := fun (h0_ : up b 10 10 = true) (h1_ : up b 10 11 = true) => (show gb436 ≠ gb435 from (by cases hb_ : b 14 with | false => exact ((by rw [hg]; exact Nat.ne_of_lt (blk_lt (g := gb436) (o := .cells #[.int .i64 0, .int .i64 0] 81 (0, 0)) (by (with_reducible repeat (first | refine blk_drewN ?_ _ | refine blk_drew ?_ | refine blk_alloc ?_ _)); exact (Q_BK436 h1_ hb_))) : gb436 ≠ gb435)) | true => exact ((by rw [hg]; exact Nat.ne_of_lt (blk_lt (g := gb436) (by (with_reducible repeat (first | refine blk_drewN ?_ _ | refine blk_drew ?_ | refine blk_alloc ?_ _)); exact (Q_BK436_e14 hb_))) : gb436 ≠ gb435))))
            have z_NB435_436 := fun (h0_ : up b 10 10 = true) (h1_ : up b 10 11 = true) => (show gb435 ≠ gb436 from (by cases hb_ : b 14 with | false => exact ((by rw [hg]; exact Nat.ne_of_gt (blk_lt (g := gb436) (o := .cells #[.int .i64 0, .int .i64 0] 81 (0, 0)) (by (with_reducible repeat (first | refine blk_drewN ?_ _ | refine blk_drew ?_ | refine blk_alloc ?_ _)); exact (Q_BK436 h1_ hb_))) : gb435 ≠ gb436)) | true => exact ((by rw [hg]; exact Nat.ne_of_gt (blk_lt (g := gb436) (by (with_reducible repeat (first | refine blk_drewN ?_ _ | refine blk_drew ?_ | refine blk_alloc ?_ _)); exact (Q_BK436_e14 hb_))) : gb435 ≠ gb436))))
            have z_BK434 := fun (h0_ : b 9 = true) (h1_ : b 12 = false) => (show w90.heap[gb434]? = some (.cells #[.int .i64 0, .int .i64 0] 81 (0, 0)) from by first | exact (blk_below (g := gb434) (o := .cells #[.int .i64 0, .int .i64 0] 81 (0, 0)) (by (with_reducible repeat (first | refine blk_drewN ?_ _ | refine blk_drew ?_ | refine blk_alloc ?_ _)); exact (Q_BK434 h0_ h1_)) hb))
            have z_BK436 := fun (h0_ : b 11 = true) (h1_ : b 14 = false) => (show w90.heap[gb436]? = some (.cells #[.int .i64 0, .int .i64 0] 81 (0, 0)) from by first | exact (blk_below (g := gb436) (o := .cells #[.int .i64 0, .int .i64 0] 81 (0, 0)) (by (with_reducible repeat (first | refine blk_drewN ?_ _ | refine blk_drew ?_ | refine blk_alloc ?_ _)); exact (Q_BK436 h0_ h1_)) hb))
            clear BK420
            clear BK421
            clear BK422
            clear BK423
            clear HB
            have BK420 := n0_
            have BK421 := n1_
            have BK422 := n2_
            have BK423 := n3_
            have HB := n4_
            have BK435 := n5_
            have GW435 := n6_
            have GE435 := n7_
            have NB420_435 := n8_
            have NB435_420 := n9_
            have NB421_435 := n10_
            have NB435_421 := n11_
            have NB422_435 := n12_
            have NB435_422 := n13_
            have NB423_435 := n14_
            have NB435_423 := n15_
            clear n0_ n1_ n2_ n3_ n4_ n5_ n6_ n7_ n8_ n9_ n10_ n11_ n12_ n13_ n14_ n15_
            clear hb hbox hg
            refine hK.out _ _ ⟨gb434, gb435, gb436, m9_, (.pointer (some ⟨gb435, 0, none⟩)), m11_, (by rw [ha.out]; exact putSel_upk 10 hb_ rfl rfl rfl), (pk BK420), (pk BK421), (pk BK422), (pk BK423), (bnow HB), z_NB435_434, z_NB434_435, Q_NB436_434, Q_NB434_436, z_NB436_435, z_NB435_436, z_BK434, Q_GW434, Q_GE434, Q_NB420_434, Q_NB434_420, Q_NB421_434, Q_NB434_421, Q_NB422_434, Q_NB434_422, Q_NB423_434, Q_NB434_423, fun _ _ => (pk BK435), fun _ => GW435.out, fun _ => GE435.out, fun _ => NB420_435.out, fun _ => NB435_420.out, fun _ => NB421_435.out, fun _ => NB435_421.out, fun _ => NB422_435.out, fun _ => NB435_422.out, fun _ => NB423_435.out, fun _ => NB435_423.out, z_BK436, Q_GW436, Q_GE436, Q_NB420_436, Q_NB436_420, Q_NB421_436, Q_NB436_421, Q_NB422_436, Q_NB436_422, Q_NB423_436, Q_NB436_423, fun h0_ => absurd ((hoff 12 (by kernel_rfl)).symm.trans h0_) (by decide), fun h0_ => absurd ((hoff 13 (by kernel_rfl)).symm.trans h0_) (by decide), fun h0_ => absurd ((hoff 14 (by kernel_rfl)).symm.trans h0_) (by decide), Q_X9_, fun _ => rfl, Q_X11_⟩
          refine steps_cons ?_ ?_
          · rintro b a w' ⟨gb434, gb435, gb436, m9_, m10_, m11_, ha, Q_BK420, Q_BK421, Q_BK422, Q_BK423, Q_HB, Q_NB435_434, Q_NB434_435, Q_NB436_434, Q_NB434_436, Q_NB436_435, Q_NB435_436, Q_BK434, Q_GW434, Q_GE434, Q_NB420_434, Q_NB434_420, Q_NB421_434, Q_NB434_421, Q_NB422_434, Q_NB434_422, Q_NB423_434, Q_NB434_423, Q_BK435, Q_GW435, Q_GE435, Q_NB420_435, Q_NB435_420, Q_NB421_435, Q_NB435_421, Q_NB422_435, Q_NB435_422, Q_NB423_435, Q_NB435_423, Q_BK436, Q_GW436, Q_GE436, Q_NB420_436, Q_NB436_420, Q_NB421_436, Q_NB436_421, Q_NB422_436, Q_NB436_422, Q_NB423_436, Q_NB436_423, Q_BK434_e12, Q_BK435_e13, Q_BK436_e14, Q_X9_, Q_X10_, Q_X11_⟩ hb_ hon hoff
            refine ⟨_, rfl, fun K hK => ?_⟩
            replace ha := Aside0.mk ha
            have BK420 := Aside0.mk Q_BK420
            have BK421 := Aside0.mk Q_BK421
            have BK422 := Aside0.mk Q_BK422
            have BK423 := Aside0.mk Q_BK423
            have HB := Aside0.mk Q_HB
            refine box_step ?hg (N := 12) ?hd (cs := #[.int .i64 0, .int .i64 0]) (t := 81) ?hr ?_; (case hd => rfl); (case hg => rfl); (case hr => first | (go_simp; done) | (go_simp; rfl))
            intro gb436 hg w90 hbox hb
            have n0_ := bb BK420 hb
            have n1_ := bb BK421 hb
            have n2_ := bb BK422 hb
            have n3_ := bb BK423 hb
            have n4_ := bst HB hb
            have n5_ := Aside0.mk (hbox)
            have n6_ := Aside0.mk ((by rw [hg]; exact (below_size (bnow HB)) : w.heap.size ≤ gb436))
            have n7_ := Aside0.mk ((by rw [hg]; exact (below_size (bnow HB)) : w.heap.size ≤ gb436))
            have n8_ := Aside0.mk ((by rw [hg]; exact Nat.ne_of_lt (blk_lt (g := gb420) (o := .cells #[.int .i64 a0_0, .int .i64 a0_1] 37 (0, 0)) (pk BK420)) : gb420 ≠ gb436))
            have n9_ := Aside0.mk ((by rw [hg]; exact Nat.ne_of_gt (blk_lt (g := gb420) (o := .cells #[.int .i64 a0_0, .int .i64 a0_1] 37 (0, 0)) (pk BK420)) : gb436 ≠ gb420))
            have n10_ := Aside0.mk ((by rw [hg]; exact Nat.ne_of_lt (blk_lt (g := gb421) (o := .cells #[.int .i64 a1_0, .int .i64 a1_1] 37 (0, 0)) (pk BK421)) : gb421 ≠ gb436))
            have n11_ := Aside0.mk ((by rw [hg]; exact Nat.ne_of_gt (blk_lt (g := gb421) (o := .cells #[.int .i64 a1_0, .int .i64 a1_1] 37 (0, 0)) (pk BK421)) : gb436 ≠ gb421))
            have n12_ := Aside0.mk ((by rw [hg]; exact Nat.ne_of_lt (blk_lt (g := gb422) (o := .cells #[.int .i64 a2_0, .int .i64 a2_1] 37 (0, 0)) (pk BK422)) : gb422 ≠ gb436))
            have n13_ := Aside0.mk ((by rw [hg]; exact Nat.ne_of_gt (blk_lt (g := gb422) (o := .cells #[.int .i64 a2_0, .int .i64 a2_1] 37 (0, 0)) (pk BK422)) : gb436 ≠ gb422))
            have n14_ := Aside0.mk ((by rw [hg]; exact Nat.ne_of_lt (blk_lt (g := gb423) (o := .cells #[.int .i64 a3_0, .int .i64 a3_1] 37 (0, 0)) (pk BK423)) : gb423 ≠ gb436))
            have n15_ := Aside0.mk ((by rw [hg]; exact Nat.ne_of_gt (blk_lt (g := gb423) (o := .cells #[.int .i64 a3_0, .int .i64 a3_1] 37 (0, 0)) (pk BK423)) : gb436 ≠ gb423))
            have z_NB436_434 := fun (h0_ : up b 11 9 = true) (h1_ : up b 11 11 = true) => (show gb436 ≠ gb434 from (by cases hb_ : b 12 with | false => exact ((by rw [hg]; exact Nat.ne_of_gt (blk_lt (g := gb434) (o := .cells #[.int .i64 0, .int .i64 0] 81 (0, 0)) (by (with_reducible repeat (first | refine blk_drewN ?_ _ | refine blk_drew ?_ | refine blk_alloc ?_ _)); exact (Q_BK434 h0_ hb_))) : gb436 ≠ gb434)) | true => exact ((by rw [hg]; exact Nat.ne_of_gt (blk_lt (g := gb434) (by (with_reducible repeat (first | refine blk_drewN ?_ _ | refine blk_drew ?_ | refine blk_alloc ?_ _)); exact (Q_BK434_e12 hb_))) : gb436 ≠ gb434))))
            have z_NB434_436 := fun (h0_ : up b 11 9 = true) (h1_ : up b 11 11 = true) => (show gb434 ≠ gb436 from (by cases hb_ : b 12 with | false => exact ((by rw [hg]; exact Nat.ne_of_lt (blk_lt (g := gb434) (o := .cells #[.int .i64 0, .int .i64 0] 81 (0, 0)) (by (with_reducible repeat (first | refine blk_drewN ?_ _ | refine blk_drew ?_ | refine blk_alloc ?_ _)); exact (Q_BK434 h0_ hb_))) : gb434 ≠ gb436)) | true => exact ((by rw [hg]; exact Nat.ne_of_lt (blk_lt (g := gb434) (by (with_reducible repeat (first | refine blk_drewN ?_ _ | refine blk_drew ?_ | refine blk_alloc ?_ _)); exact (Q_BK434_e12 hb_))) : gb434 ≠ gb436))))
            have z_NB436_435 := fun (h0_ : up b 11 10 = true) (h1_ : up b 11 11 = true) => (show gb436 ≠ gb435 from (by cases hb_ : b 13 with | false => exact ((by rw [hg]; exact Nat.ne_of_gt (blk_lt (g := gb435) (o := .cells #[.int .i64 0, .int .i64 0] 81 (0, 0)) (by (with_reducible repeat (first | refine blk_drewN ?_ _ | refine blk_drew ?_ | refine blk_alloc ?_ _)); exact (Q_BK435 h0_ hb_))) : gb436 ≠ gb435)) | true => exact ((by rw [hg]; exact Nat.ne_of_gt (blk_lt (g := gb435) (by (with_reducible repeat (first | refine blk_drewN ?_ _ | refine blk_drew ?_ | refine blk_alloc ?_ _)); exact (Q_BK435_e13 hb_))) : gb436 ≠ gb435))))
            have z_NB435_436 := fun (h0_ : up b 11 10 = true) (h1_ : up b 11 11 = true) => (show gb435 ≠ gb436 from (by cases hb_ : b 13 with | false => exact ((by rw [hg]; exact Nat.ne_of_lt (blk_lt (g := gb435) (o := .cells #[.int .i64 0, .int .i64 0] 81 (0, 0)) (by (with_reducible repeat (first | refine blk_drewN ?_ _ | refine blk_drew ?_ | refine blk_alloc ?_ _)); exact (Q_BK435 h0_ hb_))) : gb435 ≠ gb436)) | true => exact ((by rw [hg]; exact Nat.ne_of_lt (blk_lt (g := gb435) (by (with_reducible repeat (first | refine blk_drewN ?_ _ | refine blk_drew ?_ | refine blk_alloc ?_ _)); exact (Q_BK435_e13 hb_))) : gb435 ≠ gb436))))
            have z_BK434 := fun (h0_ : b 9 = true) (h1_ : b 12 = false) => (show w90.heap[gb434]? = some (.cells #[.int .i64 0, .int .i64 0] 81 (0, 0)) from by first | exact (blk_below (g := gb434) (o := .cells #[.int .i64 0, .int .i64 0] 81 (0, 0)) (by (with_reducible repeat (first | refine blk_drewN ?_ _ | refine blk_drew ?_ | refine blk_alloc ?_ _)); exact (Q_BK434 h0_ h1_)) hb))
            have z_BK435 := fun (h0_ : b 10 = true) (h1_ : b 13 = false) => (show w90.heap[gb435]? = some (.cells #[.int .i64 0, .int .i64 0] 81 (0, 0)) from by first | exact (blk_below (g := gb435) (o := .cells #[.int .i64 0, .int .i64 0] 81 (0, 0)) (by (with_reducible repeat (first | refine blk_drewN ?_ _ | refine blk_drew ?_ | refine blk_alloc ?_ _)); exact (Q_BK435 h0_ h1_)) hb))
            clear BK420
            clear BK421
            clear BK422
            clear BK423
            clear HB
            have BK420 := n0_
            have BK421 := n1_
            have BK422 := n2_
            have BK423 := n3_
            have HB := n4_
            have BK436 := n5_
            have GW436 := n6_
            have GE436 := n7_
            have NB420_436 := n8_
            have NB436_420 := n9_
            have NB421_436 := n10_
            have NB436_421 := n11_
            have NB422_436 := n12_
            have NB436_422 := n13_
            have NB423_436 := n14_
            have NB436_423 := n15_
            clear n0_ n1_ n2_ n3_ n4_ n5_ n6_ n7_ n8_ n9_ n10_ n11_ n12_ n13_ n14_ n15_
            clear hb hbox hg
            refine hK.out _ _ ⟨gb434, gb435, gb436, m9_, m10_, (.pointer (some ⟨gb436, 0, none⟩)), (by rw [ha.out]; exact putSel_upk 11 hb_ rfl rfl rfl), (pk BK420), (pk BK421), (pk BK422), (pk BK423), (bnow HB), Q_NB435_434, Q_NB434_435, z_NB436_434, z_NB434_436, z_NB436_435, z_NB435_436, z_BK434, Q_GW434, Q_GE434, Q_NB420_434, Q_NB434_420, Q_NB421_434, Q_NB434_421, Q_NB422_434, Q_NB434_422, Q_NB423_434, Q_NB434_423, z_BK435, Q_GW435, Q_GE435, Q_NB420_435, Q_NB435_420, Q_NB421_435, Q_NB435_421, Q_NB422_435, Q_NB435_422, Q_NB423_435, Q_NB435_423, fun _ _ => (pk BK436), fun _ => GW436.out, fun _ => GE436.out, fun _ => NB420_436.out, fun _ => NB436_420.out, fun _ => NB421_436.out, fun _ => NB436_421.out, fun _ => NB422_436.out, fun _ => NB436_422.out, fun _ => NB423_436.out, fun _ => NB436_423.out, fun h0_ => absurd ((hoff 12 (by kernel_rfl)).symm.trans h0_) (by decide), fun h0_ => absurd ((hoff 13 (by kernel_rfl)).symm.trans h0_) (by decide), fun h0_ => absurd ((hoff 14 (by kernel_rfl)).symm.trans h0_) (by decide), Q_X9_, Q_X10_, fun _ => rfl⟩
          refine steps_cons ?_ ?_
          · rintro b a w' ⟨gb434, gb435, gb436, m9_, m10_, m11_, ha, Q_BK420, Q_BK421, Q_BK422, Q_BK423, Q_HB, Q_NB435_434, Q_NB434_435, Q_NB436_434, Q_NB434_436, Q_NB436_435, Q_NB435_436, Q_BK434, Q_GW434, Q_GE434, Q_NB420_434, Q_NB434_420, Q_NB421_434, Q_NB434_421, Q_NB422_434, Q_NB434_422, Q_NB423_434, Q_NB434_423, Q_BK435, Q_GW435, Q_GE435, Q_NB420_435, Q_NB435_420, Q_NB421_435, Q_NB435_421, Q_NB422_435, Q_NB435_422, Q_NB423_435, Q_NB435_423, Q_BK436, Q_GW436, Q_GE436, Q_NB420_436, Q_NB436_420, Q_NB421_436, Q_NB436_421, Q_NB422_436, Q_NB436_422, Q_NB423_436, Q_NB436_423, Q_BK434_e12, Q_BK435_e13, Q_BK436_e14, Q_X9_, Q_X10_, Q_X11_⟩ hb_ hon hoff
            refine ⟨_, rfl, fun K hK => ?_⟩
            have e10 : a.tmps[10]? = some (m9_) := by rw [ha]; exact putSel_on (e := (9, 10, m9_)) 9 rfl rfl (hon 9 (by kernel_rfl)) rfl
            rw [Q_X9_ (hon 9 (by kernel_rfl))] at e10
            have e37 : a.tmps[37]? = some (.agg #[.int .i64 t428, .int .i64 t429]) := by rw [ha]; exact putSel_on (e := (2, 37, .agg #[.int .i64 t428, .int .i64 t429])) 2 rfl rfl (hon 2 (by kernel_rfl)) rfl
            replace ha := Aside0.mk ha
            have BK420 := Aside0.mk Q_BK420
            have BK421 := Aside0.mk Q_BK421
            have BK422 := Aside0.mk Q_BK422
            have BK423 := Aside0.mk Q_BK423
            have HB := Aside0.mk Q_HB
            have NB435_434 := Aside0.mk (Q_NB435_434 (hon 9 (by kernel_rfl)) (hon 10 (by kernel_rfl)))
            have NB434_435 := Aside0.mk (Q_NB434_435 (hon 9 (by kernel_rfl)) (hon 10 (by kernel_rfl)))
            have NB436_434 := Aside0.mk (Q_NB436_434 (hon 9 (by kernel_rfl)) (hon 11 (by kernel_rfl)))
            have NB434_436 := Aside0.mk (Q_NB434_436 (hon 9 (by kernel_rfl)) (hon 11 (by kernel_rfl)))
            have NB436_435 := Aside0.mk (Q_NB436_435 (hon 10 (by kernel_rfl)) (hon 11 (by kernel_rfl)))
            have NB435_436 := Aside0.mk (Q_NB435_436 (hon 10 (by kernel_rfl)) (hon 11 (by kernel_rfl)))
            have BK434 := Aside0.mk (Q_BK434 (hon 9 (by kernel_rfl)) hb_)
            have GW434 := Aside0.mk (Q_GW434 (hon 9 (by kernel_rfl)))
            have GE434 := Aside0.mk (Q_GE434 (hon 9 (by kernel_rfl)))
            have NB420_434 := Aside0.mk (Q_NB420_434 (hon 9 (by kernel_rfl)))
            have NB434_420 := Aside0.mk (Q_NB434_420 (hon 9 (by kernel_rfl)))
            have NB421_434 := Aside0.mk (Q_NB421_434 (hon 9 (by kernel_rfl)))
            have NB434_421 := Aside0.mk (Q_NB434_421 (hon 9 (by kernel_rfl)))
            have NB422_434 := Aside0.mk (Q_NB422_434 (hon 9 (by kernel_rfl)))
            have NB434_422 := Aside0.mk (Q_NB434_422 (hon 9 (by kernel_rfl)))
            have NB423_434 := Aside0.mk (Q_NB423_434 (hon 9 (by kernel_rfl)))
            have NB434_423 := Aside0.mk (Q_NB434_423 (hon 9 (by kernel_rfl)))
            have BK435 := Aside0.mk (Q_BK435 (hon 10 (by kernel_rfl)) (hoff 13 (by kernel_rfl)))
            have GW435 := Aside0.mk (Q_GW435 (hon 10 (by kernel_rfl)))
            have GE435 := Aside0.mk (Q_GE435 (hon 10 (by kernel_rfl)))
            have NB420_435 := Aside0.mk (Q_NB420_435 (hon 10 (by kernel_rfl)))
            have NB435_420 := Aside0.mk (Q_NB435_420 (hon 10 (by kernel_rfl)))
            have NB421_435 := Aside0.mk (Q_NB421_435 (hon 10 (by kernel_rfl)))
            have NB435_421 := Aside0.mk (Q_NB435_421 (hon 10 (by kernel_rfl)))
            have NB422_435 := Aside0.mk (Q_NB422_435 (hon 10 (by kernel_rfl)))
            have NB435_422 := Aside0.mk (Q_NB435_422 (hon 10 (by kernel_rfl)))
            have NB423_435 := Aside0.mk (Q_NB423_435 (hon 10 (by kernel_rfl)))
            have NB435_423 := Aside0.mk (Q_NB435_423 (hon 10 (by kernel_rfl)))
            have BK436 := Aside0.mk (Q_BK436 (hon 11 (by kernel_rfl)) (hoff 14 (by kernel_rfl)))
            have GW436 := Aside0.mk (Q_GW436 (hon 11 (by kernel_rfl)))
            have GE436 := Aside0.mk (Q_GE436 (hon 11 (by kernel_rfl)))
            have NB420_436 := Aside0.mk (Q_NB420_436 (hon 11 (by kernel_rfl)))
            have NB436_420 := Aside0.mk (Q_NB436_420 (hon 11 (by kernel_rfl)))
            have NB421_436 := Aside0.mk (Q_NB421_436 (hon 11 (by kernel_rfl)))
            have NB436_421 := Aside0.mk (Q_NB436_421 (hon 11 (by kernel_rfl)))
            have NB422_436 := Aside0.mk (Q_NB422_436 (hon 11 (by kernel_rfl)))
            have NB436_422 := Aside0.mk (Q_NB436_422 (hon 11 (by kernel_rfl)))
            have NB423_436 := Aside0.mk (Q_NB423_436 (hon 11 (by kernel_rfl)))
            have NB436_423 := Aside0.mk (Q_NB436_423 (hon 11 (by kernel_rfl)))
            have hs97 : w'.cell? ⟨gb434, 0, none⟩ = some (.int .i64 0) := (blk_cell BK434.out 0).trans rfl
            have hfs97 := blk_frozen BK434.out 0
            have hns97_0 := NB420_434.out
            have hns97_1 := NB421_434.out
            have hns97_2 := NB422_434.out
            have hns97_3 := NB423_434.out
            have hns97_5 := NB435_434.out
            have hns97_6 := NB436_434.out
            have hms97_0 := NB434_420.out
            have hms97_1 := NB434_421.out
            have hms97_2 := NB434_422.out
            have hms97_3 := NB434_423.out
            have hms97_5 := NB434_435.out
            have hms97_6 := NB434_436.out
            have hs98 : w'.cell? ⟨gb434, 1, none⟩ = some (.int .i64 0) := (blk_cell BK434.out 1).trans rfl
            have hfs98 := blk_frozen BK434.out 1
            have hns98_0 := NB420_434.out
            have hns98_1 := NB421_434.out
            have hns98_2 := NB422_434.out
            have hns98_3 := NB423_434.out
            have hns98_5 := NB435_434.out
            have hns98_6 := NB436_434.out
            have hms98_0 := NB434_420.out
            have hms98_1 := NB434_421.out
            have hms98_2 := NB434_422.out
            have hms98_3 := NB434_423.out
            have hms98_5 := NB434_435.out
            have hms98_6 := NB434_436.out
            refine skip_ (w1 := ?_) (by rfl) rfl ?_ ?_
            rotate_left
            · go_simp
              rfl
            refine hK.out _ _ ⟨gb434, gb435, gb436, m9_, m10_, m11_, (by rw [ha.out]; exact putSel_none (v := undef) rfl), (by (with_reducible repeat (first | refine blk_drewN ?_ _ | refine blk_drew ?_ | refine blk_alloc ?_ _)); refine blk_far ?_ NB420_434.out _; (with_reducible repeat (first | refine blk_drewN ?_ _ | refine blk_drew ?_ | refine blk_alloc ?_ _)); refine blk_far ?_ NB420_434.out _; (with_reducible repeat (first | refine blk_drewN ?_ _ | refine blk_drew ?_ | refine blk_alloc ?_ _)); exact BK420.out), (by (with_reducible repeat (first | refine blk_drewN ?_ _ | refine blk_drew ?_ | refine blk_alloc ?_ _)); refine blk_far ?_ NB421_434.out _; (with_reducible repeat (first | refine blk_drewN ?_ _ | refine blk_drew ?_ | refine blk_alloc ?_ _)); refine blk_far ?_ NB421_434.out _; (with_reducible repeat (first | refine blk_drewN ?_ _ | refine blk_drew ?_ | refine blk_alloc ?_ _)); exact BK421.out), (by (with_reducible repeat (first | refine blk_drewN ?_ _ | refine blk_drew ?_ | refine blk_alloc ?_ _)); refine blk_far ?_ NB422_434.out _; (with_reducible repeat (first | refine blk_drewN ?_ _ | refine blk_drew ?_ | refine blk_alloc ?_ _)); refine blk_far ?_ NB422_434.out _; (with_reducible repeat (first | refine blk_drewN ?_ _ | refine blk_drew ?_ | refine blk_alloc ?_ _)); exact BK422.out), (by (with_reducible repeat (first | refine blk_drewN ?_ _ | refine blk_drew ?_ | refine blk_alloc ?_ _)); refine blk_far ?_ NB423_434.out _; (with_reducible repeat (first | refine blk_drewN ?_ _ | refine blk_drew ?_ | refine blk_alloc ?_ _)); refine blk_far ?_ NB423_434.out _; (with_reducible repeat (first | refine blk_drewN ?_ _ | refine blk_drew ?_ | refine blk_alloc ?_ _)); exact BK423.out), (bnow HB), fun _ _ => NB435_434.out, fun _ _ => NB434_435.out, fun _ _ => NB436_434.out, fun _ _ => NB434_436.out, fun _ _ => NB436_435.out, fun _ _ => NB435_436.out, fun _ h1_ => absurd ((up_self b 12).symm.trans h1_) (by decide), fun _ => GW434.out, fun _ => GE434.out, fun _ => NB420_434.out, fun _ => NB434_420.out, fun _ => NB421_434.out, fun _ => NB434_421.out, fun _ => NB422_434.out, fun _ => NB434_422.out, fun _ => NB423_434.out, fun _ => NB434_423.out, fun _ _ => (by (with_reducible repeat (first | refine blk_drewN ?_ _ | refine blk_drew ?_ | refine blk_alloc ?_ _)); refine blk_far ?_ NB435_434.out _; (with_reducible repeat (first | refine blk_drewN ?_ _ | refine blk_drew ?_ | refine blk_alloc ?_ _)); refine blk_far ?_ NB435_434.out _; (with_reducible repeat (first | refine blk_drewN ?_ _ | refine blk_drew ?_ | refine blk_alloc ?_ _)); exact BK435.out), fun _ => GW435.out, fun _ => GE435.out, fun _ => NB420_435.out, fun _ => NB435_420.out, fun _ => NB421_435.out, fun _ => NB435_421.out, fun _ => NB422_435.out, fun _ => NB435_422.out, fun _ => NB423_435.out, fun _ => NB435_423.out, fun _ _ => (by (with_reducible repeat (first | refine blk_drewN ?_ _ | refine blk_drew ?_ | refine blk_alloc ?_ _)); refine blk_far ?_ NB436_434.out _; (with_reducible repeat (first | refine blk_drewN ?_ _ | refine blk_drew ?_ | refine blk_alloc ?_ _)); refine blk_far ?_ NB436_434.out _; (with_reducible repeat (first | refine blk_drewN ?_ _ | refine blk_drew ?_ | refine blk_alloc ?_ _)); exact BK436.out), fun _ => GW436.out, fun _ => GE436.out, fun _ => NB420_436.out, fun _ => NB436_420.out, fun _ => NB421_436.out, fun _ => NB436_421.out, fun _ => NB422_436.out, fun _ => NB436_422.out, fun _ => NB423_436.out, fun _ => NB436_423.out, fun _ => (by (with_reducible repeat (first | refine blk_drewN ?_ _ | refine blk_drew ?_ | refine blk_alloc ?_ _)); refine blk_put (cs := #[.int .i64 t428, .int .i64 0]) ?_ 1 _ rfl; (with_reducible repeat (first | refine blk_drewN ?_ _ | refine blk_drew ?_ | refine blk_alloc ?_ _)); refine blk_put (cs := #[.int .i64 0, .int .i64 0]) ?_ 0 _ rfl; (with_reducible repeat (first | refine blk_drewN ?_ _ | refine blk_drew ?_ | refine blk_alloc ?_ _)); exact BK434.out), fun h0_ => absurd ((hoff 13 (by kernel_rfl)).symm.trans h0_) (by decide), fun h0_ => absurd ((hoff 14 (by kernel_rfl)).symm.trans h0_) (by decide), Q_X9_, Q_X10_, Q_X11_⟩
          refine steps_cons ?_ ?_
          · rintro b a w' ⟨gb434, gb435, gb436, m9_, m10_, m11_, ha, Q_BK420, Q_BK421, Q_BK422, Q_BK423, Q_HB, Q_NB435_434, Q_NB434_435, Q_NB436_434, Q_NB434_436, Q_NB436_435, Q_NB435_436, Q_BK434, Q_GW434, Q_GE434, Q_NB420_434, Q_NB434_420, Q_NB421_434, Q_NB434_421, Q_NB422_434, Q_NB434_422, Q_NB423_434, Q_NB434_423, Q_BK435, Q_GW435, Q_GE435, Q_NB420_435, Q_NB435_420, Q_NB421_435, Q_NB435_421, Q_NB422_435, Q_NB435_422, Q_NB423_435, Q_NB435_423, Q_BK436, Q_GW436, Q_GE436, Q_NB420_436, Q_NB436_420, Q_NB421_436, Q_NB436_421, Q_NB422_436, Q_NB436_422, Q_NB423_436, Q_NB436_423, Q_BK434_e12, Q_BK435_e13, Q_BK436_e14, Q_X9_, Q_X10_, Q_X11_⟩ hb_ hon hoff
            refine ⟨_, rfl, fun K hK => ?_⟩
            have e11 : a.tmps[11]? = some (m10_) := by rw [ha]; exact putSel_on (e := (10, 11, m10_)) 10 rfl rfl (hon 10 (by kernel_rfl)) rfl
            rw [Q_X10_ (hon 10 (by kernel_rfl))] at e11
            have e40 : a.tmps[40]? = some (.agg #[.int .i64 t430, .int .i64 t431]) := by rw [ha]; exact putSel_on (e := (5, 40, .agg #[.int .i64 t430, .int .i64 t431])) 5 rfl rfl (hon 5 (by kernel_rfl)) rfl
            replace ha := Aside0.mk ha
            have BK420 := Aside0.mk Q_BK420
            have BK421 := Aside0.mk Q_BK421
            have BK422 := Aside0.mk Q_BK422
            have BK423 := Aside0.mk Q_BK423
            have HB := Aside0.mk Q_HB
            have NB435_434 := Aside0.mk (Q_NB435_434 (hon 9 (by kernel_rfl)) (hon 10 (by kernel_rfl)))
            have NB434_435 := Aside0.mk (Q_NB434_435 (hon 9 (by kernel_rfl)) (hon 10 (by kernel_rfl)))
            have NB436_434 := Aside0.mk (Q_NB436_434 (hon 9 (by kernel_rfl)) (hon 11 (by kernel_rfl)))
            have NB434_436 := Aside0.mk (Q_NB434_436 (hon 9 (by kernel_rfl)) (hon 11 (by kernel_rfl)))
            have NB436_435 := Aside0.mk (Q_NB436_435 (hon 10 (by kernel_rfl)) (hon 11 (by kernel_rfl)))
            have NB435_436 := Aside0.mk (Q_NB435_436 (hon 10 (by kernel_rfl)) (hon 11 (by kernel_rfl)))
            have GW434 := Aside0.mk (Q_GW434 (hon 9 (by kernel_rfl)))
            have GE434 := Aside0.mk (Q_GE434 (hon 9 (by kernel_rfl)))
            have NB420_434 := Aside0.mk (Q_NB420_434 (hon 9 (by kernel_rfl)))
            have NB434_420 := Aside0.mk (Q_NB434_420 (hon 9 (by kernel_rfl)))
            have NB421_434 := Aside0.mk (Q_NB421_434 (hon 9 (by kernel_rfl)))
            have NB434_421 := Aside0.mk (Q_NB434_421 (hon 9 (by kernel_rfl)))
            have NB422_434 := Aside0.mk (Q_NB422_434 (hon 9 (by kernel_rfl)))
            have NB434_422 := Aside0.mk (Q_NB434_422 (hon 9 (by kernel_rfl)))
            have NB423_434 := Aside0.mk (Q_NB423_434 (hon 9 (by kernel_rfl)))
            have NB434_423 := Aside0.mk (Q_NB434_423 (hon 9 (by kernel_rfl)))
            have BK435 := Aside0.mk (Q_BK435 (hon 10 (by kernel_rfl)) hb_)
            have GW435 := Aside0.mk (Q_GW435 (hon 10 (by kernel_rfl)))
            have GE435 := Aside0.mk (Q_GE435 (hon 10 (by kernel_rfl)))
            have NB420_435 := Aside0.mk (Q_NB420_435 (hon 10 (by kernel_rfl)))
            have NB435_420 := Aside0.mk (Q_NB435_420 (hon 10 (by kernel_rfl)))
            have NB421_435 := Aside0.mk (Q_NB421_435 (hon 10 (by kernel_rfl)))
            have NB435_421 := Aside0.mk (Q_NB435_421 (hon 10 (by kernel_rfl)))
            have NB422_435 := Aside0.mk (Q_NB422_435 (hon 10 (by kernel_rfl)))
            have NB435_422 := Aside0.mk (Q_NB435_422 (hon 10 (by kernel_rfl)))
            have NB423_435 := Aside0.mk (Q_NB423_435 (hon 10 (by kernel_rfl)))
            have NB435_423 := Aside0.mk (Q_NB435_423 (hon 10 (by kernel_rfl)))
            have BK436 := Aside0.mk (Q_BK436 (hon 11 (by kernel_rfl)) (hoff 14 (by kernel_rfl)))
            have GW436 := Aside0.mk (Q_GW436 (hon 11 (by kernel_rfl)))
            have GE436 := Aside0.mk (Q_GE436 (hon 11 (by kernel_rfl)))
            have NB420_436 := Aside0.mk (Q_NB420_436 (hon 11 (by kernel_rfl)))
            have NB436_420 := Aside0.mk (Q_NB436_420 (hon 11 (by kernel_rfl)))
            have NB421_436 := Aside0.mk (Q_NB421_436 (hon 11 (by kernel_rfl)))
            have NB436_421 := Aside0.mk (Q_NB436_421 (hon 11 (by kernel_rfl)))
            have NB422_436 := Aside0.mk (Q_NB422_436 (hon 11 (by kernel_rfl)))
            have NB436_422 := Aside0.mk (Q_NB436_422 (hon 11 (by kernel_rfl)))
            have NB423_436 := Aside0.mk (Q_NB423_436 (hon 11 (by kernel_rfl)))
            have NB436_423 := Aside0.mk (Q_NB436_423 (hon 11 (by kernel_rfl)))
            have BK434 := Aside0.mk (Q_BK434_e12 (hon 12 (by kernel_rfl)))
            have hs99 : w'.cell? ⟨gb435, 0, none⟩ = some (.int .i64 0) := (blk_cell BK435.out 0).trans rfl
            have hfs99 := blk_frozen BK435.out 0
            have hns99_0 := NB420_435.out
            have hns99_1 := NB421_435.out
            have hns99_2 := NB422_435.out
            have hns99_3 := NB423_435.out
            have hns99_4 := NB434_435.out
            have hns99_6 := NB436_435.out
            have hms99_0 := NB435_420.out
            have hms99_1 := NB435_421.out
            have hms99_2 := NB435_422.out
            have hms99_3 := NB435_423.out
            have hms99_4 := NB435_434.out
            have hms99_6 := NB435_436.out
            have hs100 : w'.cell? ⟨gb435, 1, none⟩ = some (.int .i64 0) := (blk_cell BK435.out 1).trans rfl
            have hfs100 := blk_frozen BK435.out 1
            have hns100_0 := NB420_435.out
            have hns100_1 := NB421_435.out
            have hns100_2 := NB422_435.out
            have hns100_3 := NB423_435.out
            have hns100_4 := NB434_435.out
            have hns100_6 := NB436_435.out
            have hms100_0 := NB435_420.out
            have hms100_1 := NB435_421.out
            have hms100_2 := NB435_422.out
            have hms100_3 := NB435_423.out
            have hms100_4 := NB435_434.out
            have hms100_6 := NB435_436.out
            refine skip_ (w1 := ?_) (by rfl) rfl ?_ ?_
            rotate_left
            · go_simp
              rfl
            refine hK.out _ _ ⟨gb434, gb435, gb436, m9_, m10_, m11_, (by rw [ha.out]; exact putSel_none (v := undef) rfl), (by (with_reducible repeat (first | refine blk_drewN ?_ _ | refine blk_drew ?_ | refine blk_alloc ?_ _)); refine blk_far ?_ NB420_435.out _; (with_reducible repeat (first | refine blk_drewN ?_ _ | refine blk_drew ?_ | refine blk_alloc ?_ _)); refine blk_far ?_ NB420_435.out _; (with_reducible repeat (first | refine blk_drewN ?_ _ | refine blk_drew ?_ | refine blk_alloc ?_ _)); exact BK420.out), (by (with_reducible repeat (first | refine blk_drewN ?_ _ | refine blk_drew ?_ | refine blk_alloc ?_ _)); refine blk_far ?_ NB421_435.out _; (with_reducible repeat (first | refine blk_drewN ?_ _ | refine blk_drew ?_ | refine blk_alloc ?_ _)); refine blk_far ?_ NB421_435.out _; (with_reducible repeat (first | refine blk_drewN ?_ _ | refine blk_drew ?_ | refine blk_alloc ?_ _)); exact BK421.out), (by (with_reducible repeat (first | refine blk_drewN ?_ _ | refine blk_drew ?_ | refine blk_alloc ?_ _)); refine blk_far ?_ NB422_435.out _; (with_reducible repeat (first | refine blk_drewN ?_ _ | refine blk_drew ?_ | refine blk_alloc ?_ _)); refine blk_far ?_ NB422_435.out _; (with_reducible repeat (first | refine blk_drewN ?_ _ | refine blk_drew ?_ | refine blk_alloc ?_ _)); exact BK422.out), (by (with_reducible repeat (first | refine blk_drewN ?_ _ | refine blk_drew ?_ | refine blk_alloc ?_ _)); refine blk_far ?_ NB423_435.out _; (with_reducible repeat (first | refine blk_drewN ?_ _ | refine blk_drew ?_ | refine blk_alloc ?_ _)); refine blk_far ?_ NB423_435.out _; (with_reducible repeat (first | refine blk_drewN ?_ _ | refine blk_drew ?_ | refine blk_alloc ?_ _)); exact BK423.out), (bnow HB), fun _ _ => NB435_434.out, fun _ _ => NB434_435.out, fun _ _ => NB436_434.out, fun _ _ => NB434_436.out, fun _ _ => NB436_435.out, fun _ _ => NB435_436.out, fun _ h1_ => absurd ((hon 12 (by kernel_rfl)).symm.trans h1_) (by decide), fun _ => GW434.out, fun _ => GE434.out, fun _ => NB420_434.out, fun _ => NB434_420.out, fun _ => NB421_434.out, fun _ => NB434_421.out, fun _ => NB422_434.out, fun _ => NB434_422.out, fun _ => NB423_434.out, fun _ => NB434_423.out, fun _ h1_ => absurd ((up_self b 13).symm.trans h1_) (by decide), fun _ => GW435.out, fun _ => GE435.out, fun _ => NB420_435.out, fun _ => NB435_420.out, fun _ => NB421_435.out, fun _ => NB435_421.out, fun _ => NB422_435.out, fun _ => NB435_422.out, fun _ => NB423_435.out, fun _ => NB435_423.out, fun _ _ => (by (with_reducible repeat (first | refine blk_drewN ?_ _ | refine blk_drew ?_ | refine blk_alloc ?_ _)); refine blk_far ?_ NB436_435.out _; (with_reducible repeat (first | refine blk_drewN ?_ _ | refine blk_drew ?_ | refine blk_alloc ?_ _)); refine blk_far ?_ NB436_435.out _; (with_reducible repeat (first | refine blk_drewN ?_ _ | refine blk_drew ?_ | refine blk_alloc ?_ _)); exact BK436.out), fun _ => GW436.out, fun _ => GE436.out, fun _ => NB420_436.out, fun _ => NB436_420.out, fun _ => NB421_436.out, fun _ => NB436_421.out, fun _ => NB422_436.out, fun _ => NB436_422.out, fun _ => NB423_436.out, fun _ => NB436_423.out, fun _ => (by (with_reducible repeat (first | refine blk_drewN ?_ _ | refine blk_drew ?_ | refine blk_alloc ?_ _)); refine blk_far ?_ NB434_435.out _; (with_reducible repeat (first | refine blk_drewN ?_ _ | refine blk_drew ?_ | refine blk_alloc ?_ _)); refine blk_far ?_ NB434_435.out _; (with_reducible repeat (first | refine blk_drewN ?_ _ | refine blk_drew ?_ | refine blk_alloc ?_ _)); exact BK434.out), fun _ => (by (with_reducible repeat (first | refine blk_drewN ?_ _ | refine blk_drew ?_ | refine blk_alloc ?_ _)); refine blk_put (cs := #[.int .i64 t430, .int .i64 0]) ?_ 1 _ rfl; (with_reducible repeat (first | refine blk_drewN ?_ _ | refine blk_drew ?_ | refine blk_alloc ?_ _)); refine blk_put (cs := #[.int .i64 0, .int .i64 0]) ?_ 0 _ rfl; (with_reducible repeat (first | refine blk_drewN ?_ _ | refine blk_drew ?_ | refine blk_alloc ?_ _)); exact BK435.out), fun h0_ => absurd ((hoff 14 (by kernel_rfl)).symm.trans h0_) (by decide), Q_X9_, Q_X10_, Q_X11_⟩
          refine steps_cons ?_ ?_
          · rintro b a w' ⟨gb434, gb435, gb436, m9_, m10_, m11_, ha, Q_BK420, Q_BK421, Q_BK422, Q_BK423, Q_HB, Q_NB435_434, Q_NB434_435, Q_NB436_434, Q_NB434_436, Q_NB436_435, Q_NB435_436, Q_BK434, Q_GW434, Q_GE434, Q_NB420_434, Q_NB434_420, Q_NB421_434, Q_NB434_421, Q_NB422_434, Q_NB434_422, Q_NB423_434, Q_NB434_423, Q_BK435, Q_GW435, Q_GE435, Q_NB420_435, Q_NB435_420, Q_NB421_435, Q_NB435_421, Q_NB422_435, Q_NB435_422, Q_NB423_435, Q_NB435_423, Q_BK436, Q_GW436, Q_GE436, Q_NB420_436, Q_NB436_420, Q_NB421_436, Q_NB436_421, Q_NB422_436, Q_NB436_422, Q_NB423_436, Q_NB436_423, Q_BK434_e12, Q_BK435_e13, Q_BK436_e14, Q_X9_, Q_X10_, Q_X11_⟩ hb_ hon hoff
            refine ⟨_, rfl, fun K hK => ?_⟩
            have e12 : a.tmps[12]? = some (m11_) := by rw [ha]; exact putSel_on (e := (11, 12, m11_)) 11 rfl rfl (hon 11 (by kernel_rfl)) rfl
            rw [Q_X11_ (hon 11 (by kernel_rfl))] at e12
            have e43 : a.tmps[43]? = some (.agg #[.int .i64 t432, .int .i64 t433]) := by rw [ha]; exact putSel_on (e := (8, 43, .agg #[.int .i64 t432, .int .i64 t433])) 8 rfl rfl (hon 8 (by kernel_rfl)) rfl
            replace ha := Aside0.mk ha
            have BK420 := Aside0.mk Q_BK420
            have BK421 := Aside0.mk Q_BK421
            have BK422 := Aside0.mk Q_BK422
            have BK423 := Aside0.mk Q_BK423
            have HB := Aside0.mk Q_HB
            have NB435_434 := Aside0.mk (Q_NB435_434 (hon 9 (by kernel_rfl)) (hon 10 (by kernel_rfl)))
            have NB434_435 := Aside0.mk (Q_NB434_435 (hon 9 (by kernel_rfl)) (hon 10 (by kernel_rfl)))
            have NB436_434 := Aside0.mk (Q_NB436_434 (hon 9 (by kernel_rfl)) (hon 11 (by kernel_rfl)))
            have NB434_436 := Aside0.mk (Q_NB434_436 (hon 9 (by kernel_rfl)) (hon 11 (by kernel_rfl)))
            have NB436_435 := Aside0.mk (Q_NB436_435 (hon 10 (by kernel_rfl)) (hon 11 (by kernel_rfl)))
            have NB435_436 := Aside0.mk (Q_NB435_436 (hon 10 (by kernel_rfl)) (hon 11 (by kernel_rfl)))
            have GW434 := Aside0.mk (Q_GW434 (hon 9 (by kernel_rfl)))
            have GE434 := Aside0.mk (Q_GE434 (hon 9 (by kernel_rfl)))
            have NB420_434 := Aside0.mk (Q_NB420_434 (hon 9 (by kernel_rfl)))
            have NB434_420 := Aside0.mk (Q_NB434_420 (hon 9 (by kernel_rfl)))
            have NB421_434 := Aside0.mk (Q_NB421_434 (hon 9 (by kernel_rfl)))
            have NB434_421 := Aside0.mk (Q_NB434_421 (hon 9 (by kernel_rfl)))
            have NB422_434 := Aside0.mk (Q_NB422_434 (hon 9 (by kernel_rfl)))
            have NB434_422 := Aside0.mk (Q_NB434_422 (hon 9 (by kernel_rfl)))
            have NB423_434 := Aside0.mk (Q_NB423_434 (hon 9 (by kernel_rfl)))
            have NB434_423 := Aside0.mk (Q_NB434_423 (hon 9 (by kernel_rfl)))
            have GW435 := Aside0.mk (Q_GW435 (hon 10 (by kernel_rfl)))
            have GE435 := Aside0.mk (Q_GE435 (hon 10 (by kernel_rfl)))
            have NB420_435 := Aside0.mk (Q_NB420_435 (hon 10 (by kernel_rfl)))
            have NB435_420 := Aside0.mk (Q_NB435_420 (hon 10 (by kernel_rfl)))
            have NB421_435 := Aside0.mk (Q_NB421_435 (hon 10 (by kernel_rfl)))
            have NB435_421 := Aside0.mk (Q_NB435_421 (hon 10 (by kernel_rfl)))
            have NB422_435 := Aside0.mk (Q_NB422_435 (hon 10 (by kernel_rfl)))
            have NB435_422 := Aside0.mk (Q_NB435_422 (hon 10 (by kernel_rfl)))
            have NB423_435 := Aside0.mk (Q_NB423_435 (hon 10 (by kernel_rfl)))
            have NB435_423 := Aside0.mk (Q_NB435_423 (hon 10 (by kernel_rfl)))
            have BK436 := Aside0.mk (Q_BK436 (hon 11 (by kernel_rfl)) hb_)
            have GW436 := Aside0.mk (Q_GW436 (hon 11 (by kernel_rfl)))
            have GE436 := Aside0.mk (Q_GE436 (hon 11 (by kernel_rfl)))
            have NB420_436 := Aside0.mk (Q_NB420_436 (hon 11 (by kernel_rfl)))
            have NB436_420 := Aside0.mk (Q_NB436_420 (hon 11 (by kernel_rfl)))
            have NB421_436 := Aside0.mk (Q_NB421_436 (hon 11 (by kernel_rfl)))
            have NB436_421 := Aside0.mk (Q_NB436_421 (hon 11 (by kernel_rfl)))
            have NB422_436 := Aside0.mk (Q_NB422_436 (hon 11 (by kernel_rfl)))
            have NB436_422 := Aside0.mk (Q_NB436_422 (hon 11 (by kernel_rfl)))
            have NB423_436 := Aside0.mk (Q_NB423_436 (hon 11 (by kernel_rfl)))
            have NB436_423 := Aside0.mk (Q_NB436_423 (hon 11 (by kernel_rfl)))
            have BK434 := Aside0.mk (Q_BK434_e12 (hon 12 (by kernel_rfl)))
            have BK435 := Aside0.mk (Q_BK435_e13 (hon 13 (by kernel_rfl)))
            have hs101 : w'.cell? ⟨gb436, 0, none⟩ = some (.int .i64 0) := (blk_cell BK436.out 0).trans rfl
            have hfs101 := blk_frozen BK436.out 0
            have hns101_0 := NB420_436.out
            have hns101_1 := NB421_436.out
            have hns101_2 := NB422_436.out
            have hns101_3 := NB423_436.out
            have hns101_4 := NB434_436.out
            have hns101_5 := NB435_436.out
            have hms101_0 := NB436_420.out
            have hms101_1 := NB436_421.out
            have hms101_2 := NB436_422.out
            have hms101_3 := NB436_423.out
            have hms101_4 := NB436_434.out
            have hms101_5 := NB436_435.out
            have hs102 : w'.cell? ⟨gb436, 1, none⟩ = some (.int .i64 0) := (blk_cell BK436.out 1).trans rfl
            have hfs102 := blk_frozen BK436.out 1
            have hns102_0 := NB420_436.out
            have hns102_1 := NB421_436.out
            have hns102_2 := NB422_436.out
            have hns102_3 := NB423_436.out
            have hns102_4 := NB434_436.out
            have hns102_5 := NB435_436.out
            have hms102_0 := NB436_420.out
            have hms102_1 := NB436_421.out
            have hms102_2 := NB436_422.out
            have hms102_3 := NB436_423.out
            have hms102_4 := NB436_434.out
            have hms102_5 := NB436_435.out
            refine skip_ (w1 := ?_) (by rfl) rfl ?_ ?_
            rotate_left
            · go_simp
              rfl
            refine hK.out _ _ ⟨gb434, gb435, gb436, m9_, m10_, m11_, (by rw [ha.out]; exact putSel_none (v := undef) rfl), (by (with_reducible repeat (first | refine blk_drewN ?_ _ | refine blk_drew ?_ | refine blk_alloc ?_ _)); refine blk_far ?_ NB420_436.out _; (with_reducible repeat (first | refine blk_drewN ?_ _ | refine blk_drew ?_ | refine blk_alloc ?_ _)); refine blk_far ?_ NB420_436.out _; (with_reducible repeat (first | refine blk_drewN ?_ _ | refine blk_drew ?_ | refine blk_alloc ?_ _)); exact BK420.out), (by (with_reducible repeat (first | refine blk_drewN ?_ _ | refine blk_drew ?_ | refine blk_alloc ?_ _)); refine blk_far ?_ NB421_436.out _; (with_reducible repeat (first | refine blk_drewN ?_ _ | refine blk_drew ?_ | refine blk_alloc ?_ _)); refine blk_far ?_ NB421_436.out _; (with_reducible repeat (first | refine blk_drewN ?_ _ | refine blk_drew ?_ | refine blk_alloc ?_ _)); exact BK421.out), (by (with_reducible repeat (first | refine blk_drewN ?_ _ | refine blk_drew ?_ | refine blk_alloc ?_ _)); refine blk_far ?_ NB422_436.out _; (with_reducible repeat (first | refine blk_drewN ?_ _ | refine blk_drew ?_ | refine blk_alloc ?_ _)); refine blk_far ?_ NB422_436.out _; (with_reducible repeat (first | refine blk_drewN ?_ _ | refine blk_drew ?_ | refine blk_alloc ?_ _)); exact BK422.out), (by (with_reducible repeat (first | refine blk_drewN ?_ _ | refine blk_drew ?_ | refine blk_alloc ?_ _)); refine blk_far ?_ NB423_436.out _; (with_reducible repeat (first | refine blk_drewN ?_ _ | refine blk_drew ?_ | refine blk_alloc ?_ _)); refine blk_far ?_ NB423_436.out _; (with_reducible repeat (first | refine blk_drewN ?_ _ | refine blk_drew ?_ | refine blk_alloc ?_ _)); exact BK423.out), (bnow HB), fun _ _ => NB435_434.out, fun _ _ => NB434_435.out, fun _ _ => NB436_434.out, fun _ _ => NB434_436.out, fun _ _ => NB436_435.out, fun _ _ => NB435_436.out, fun _ h1_ => absurd ((hon 12 (by kernel_rfl)).symm.trans h1_) (by decide), fun _ => GW434.out, fun _ => GE434.out, fun _ => NB420_434.out, fun _ => NB434_420.out, fun _ => NB421_434.out, fun _ => NB434_421.out, fun _ => NB422_434.out, fun _ => NB434_422.out, fun _ => NB423_434.out, fun _ => NB434_423.out, fun _ h1_ => absurd ((hon 13 (by kernel_rfl)).symm.trans h1_) (by decide), fun _ => GW435.out, fun _ => GE435.out, fun _ => NB420_435.out, fun _ => NB435_420.out, fun _ => NB421_435.out, fun _ => NB435_421.out, fun _ => NB422_435.out, fun _ => NB435_422.out, fun _ => NB423_435.out, fun _ => NB435_423.out, fun _ h1_ => absurd ((up_self b 14).symm.trans h1_) (by decide), fun _ => GW436.out, fun _ => GE436.out, fun _ => NB420_436.out, fun _ => NB436_420.out, fun _ => NB421_436.out, fun _ => NB436_421.out, fun _ => NB422_436.out, fun _ => NB436_422.out, fun _ => NB423_436.out, fun _ => NB436_423.out, fun _ => (by (with_reducible repeat (first | refine blk_drewN ?_ _ | refine blk_drew ?_ | refine blk_alloc ?_ _)); refine blk_far ?_ NB434_436.out _; (with_reducible repeat (first | refine blk_drewN ?_ _ | refine blk_drew ?_ | refine blk_alloc ?_ _)); refine blk_far ?_ NB434_436.out _; (with_reducible repeat (first | refine blk_drewN ?_ _ | refine blk_drew ?_ | refine blk_alloc ?_ _)); exact BK434.out), fun _ => (by (with_reducible repeat (first | refine blk_drewN ?_ _ | refine blk_drew ?_ | refine blk_alloc ?_ _)); refine blk_far ?_ NB435_436.out _; (with_reducible repeat (first | refine blk_drewN ?_ _ | refine blk_drew ?_ | refine blk_alloc ?_ _)); refine blk_far ?_ NB435_436.out _; (with_reducible repeat (first | refine blk_drewN ?_ _ | refine blk_drew ?_ | refine blk_alloc ?_ _)); exact BK435.out), fun _ => (by (with_reducible repeat (first | refine blk_drewN ?_ _ | refine blk_drew ?_ | refine blk_alloc ?_ _)); refine blk_put (cs := #[.int .i64 t432, .int .i64 0]) ?_ 1 _ rfl; (with_reducible repeat (first | refine blk_drewN ?_ _ | refine blk_drew ?_ | refine blk_alloc ?_ _)); refine blk_put (cs := #[.int .i64 0, .int .i64 0]) ?_ 0 _ rfl; (with_reducible repeat (first | refine blk_drewN ?_ _ | refine blk_drew ?_ | refine blk_alloc ?_ _)); exact BK436.out), Q_X9_, Q_X10_, Q_X11_⟩
          exact steps_nil
        rintro b a w102 hall ⟨gb434, gb435, gb436, m9_, m10_, m11_, ha, Q_BK420, Q_BK421, Q_BK422, Q_BK423, Q_HB, Q_NB435_434, Q_NB434_435, Q_NB436_434, Q_NB434_436, Q_NB436_435, Q_NB435_436, Q_BK434, Q_GW434, Q_GE434, Q_NB420_434, Q_NB434_420, Q_NB421_434, Q_NB434_421, Q_NB422_434, Q_NB434_422, Q_NB423_434, Q_NB434_423, Q_BK435, Q_GW435, Q_GE435, Q_NB420_435, Q_NB435_420, Q_NB421_435, Q_NB435_421, Q_NB422_435, Q_NB435_422, Q_NB423_435, Q_NB435_423, Q_BK436, Q_GW436, Q_GE436, Q_NB420_436, Q_NB436_420, Q_NB421_436, Q_NB436_421, Q_NB422_436, Q_NB436_422, Q_NB423_436, Q_NB436_423, Q_BK434_e12, Q_BK435_e13, Q_BK436_e14, Q_X9_, Q_X10_, Q_X11_⟩
        clear BK420 BK421 BK422 BK423 HB
        have hb0_ := hall 0 (by kernel_rfl)
        have hb1_ := hall 1 (by kernel_rfl)
        have hb2_ := hall 2 (by kernel_rfl)
        have hb3_ := hall 3 (by kernel_rfl)
        have hb4_ := hall 4 (by kernel_rfl)
        have hb5_ := hall 5 (by kernel_rfl)
        have hb6_ := hall 6 (by kernel_rfl)
        have hb7_ := hall 7 (by kernel_rfl)
        have hb8_ := hall 8 (by kernel_rfl)
        have hb9_ := hall 9 (by kernel_rfl)
        have hb10_ := hall 10 (by kernel_rfl)
        have hb11_ := hall 11 (by kernel_rfl)
        have hb12_ := hall 12 (by kernel_rfl)
        have hb13_ := hall 13 (by kernel_rfl)
        have hb14_ := hall 14 (by kernel_rfl)
        subst ha
        obtain rfl := Q_X9_ hb9_
        obtain rfl := Q_X10_ hb10_
        obtain rfl := Q_X11_ hb11_
        simp only [putSel, hb0_, hb1_, hb2_, hb3_, hb4_, hb5_, hb6_, hb7_, hb8_, hb9_, hb10_, hb11_, hb12_, hb13_, hb14_, if_true, Act.put, List.setIfInBounds_toArray, List.set_cons_zero, List.set_cons_succ]
        have BK420 := Aside0.mk Q_BK420
        clear Q_BK420
        have BK421 := Aside0.mk Q_BK421
        clear Q_BK421
        have BK422 := Aside0.mk Q_BK422
        clear Q_BK422
        have BK423 := Aside0.mk Q_BK423
        clear Q_BK423
        have HB := Aside0.mk Q_HB
        clear Q_HB
        have NB435_434 := Aside0.mk (Q_NB435_434 hb9_ hb10_)
        clear Q_NB435_434
        have NB434_435 := Aside0.mk (Q_NB434_435 hb9_ hb10_)
        clear Q_NB434_435
        have NB436_434 := Aside0.mk (Q_NB436_434 hb9_ hb11_)
        clear Q_NB436_434
        have NB434_436 := Aside0.mk (Q_NB434_436 hb9_ hb11_)
        clear Q_NB434_436
        have NB436_435 := Aside0.mk (Q_NB436_435 hb10_ hb11_)
        clear Q_NB436_435
        have NB435_436 := Aside0.mk (Q_NB435_436 hb10_ hb11_)
        clear Q_NB435_436
        clear Q_BK434
        have GW434 := Aside0.mk (Q_GW434 hb9_)
        clear Q_GW434
        have GE434 := Aside0.mk (Q_GE434 hb9_)
        clear Q_GE434
        have NB420_434 := Aside0.mk (Q_NB420_434 hb9_)
        clear Q_NB420_434
        have NB434_420 := Aside0.mk (Q_NB434_420 hb9_)
        clear Q_NB434_420
        have NB421_434 := Aside0.mk (Q_NB421_434 hb9_)
        clear Q_NB421_434
        have NB434_421 := Aside0.mk (Q_NB434_421 hb9_)
        clear Q_NB434_421
        have NB422_434 := Aside0.mk (Q_NB422_434 hb9_)
        clear Q_NB422_434
        have NB434_422 := Aside0.mk (Q_NB434_422 hb9_)
        clear Q_NB434_422
        have NB423_434 := Aside0.mk (Q_NB423_434 hb9_)
        clear Q_NB423_434
        have NB434_423 := Aside0.mk (Q_NB434_423 hb9_)
        clear Q_NB434_423
        clear Q_BK435
        have GW435 := Aside0.mk (Q_GW435 hb10_)
        clear Q_GW435
        have GE435 := Aside0.mk (Q_GE435 hb10_)
        clear Q_GE435
        have NB420_435 := Aside0.mk (Q_NB420_435 hb10_)
        clear Q_NB420_435
        have NB435_420 := Aside0.mk (Q_NB435_420 hb10_)
        clear Q_NB435_420
        have NB421_435 := Aside0.mk (Q_NB421_435 hb10_)
        clear Q_NB421_435
        have NB435_421 := Aside0.mk (Q_NB435_421 hb10_)
        clear Q_NB435_421
        have NB422_435 := Aside0.mk (Q_NB422_435 hb10_)
        clear Q_NB422_435
        have NB435_422 := Aside0.mk (Q_NB435_422 hb10_)
        clear Q_NB435_422
        have NB423_435 := Aside0.mk (Q_NB423_435 hb10_)
        clear Q_NB423_435
        have NB435_423 := Aside0.mk (Q_NB435_423 hb10_)
        clear Q_NB435_423
        clear Q_BK436
        have GW436 := Aside0.mk (Q_GW436 hb11_)
        clear Q_GW436
        have GE436 := Aside0.mk (Q_GE436 hb11_)
        clear Q_GE436
        have NB420_436 := Aside0.mk (Q_NB420_436 hb11_)
        clear Q_NB420_436
        have NB436_420 := Aside0.mk (Q_NB436_420 hb11_)
        clear Q_NB436_420
        have NB421_436 := Aside0.mk (Q_NB421_436 hb11_)
        clear Q_NB421_436
        have NB436_421 := Aside0.mk (Q_NB436_421 hb11_)
        clear Q_NB436_421
        have NB422_436 := Aside0.mk (Q_NB422_436 hb11_)
        clear Q_NB422_436
        have NB436_422 := Aside0.mk (Q_NB436_422 hb11_)
        clear Q_NB436_422
        have NB423_436 := Aside0.mk (Q_NB423_436 hb11_)
        clear Q_NB423_436
        have NB436_423 := Aside0.mk (Q_NB436_423 hb11_)
        clear Q_NB436_423
        have BK434 := Aside0.mk (Q_BK434_e12 hb12_)
        clear Q_BK434_e12
        have BK435 := Aside0.mk (Q_BK435_e13 hb13_)
        clear Q_BK435_e13
        have BK436 := Aside0.mk (Q_BK436_e14 hb14_)
        clear Q_BK436_e14
        clear hall hb0_ hb1_ hb2_ hb3_ hb4_ hb5_ hb6_ hb7_ hb8_ hb9_ hb10_ hb11_ hb12_ hb13_ hb14_
        try go_wp2
        have n0_ := Aside0.mk (blk_drew BK420.out)
        have n1_ := Aside0.mk (blk_drew BK421.out)
        have n2_ := Aside0.mk (blk_drew BK422.out)
        have n3_ := Aside0.mk (blk_drew BK423.out)
        have n4_ := Aside0.mk (blk_drew BK434.out)
        have n5_ := Aside0.mk (blk_drew BK435.out)
        have n6_ := Aside0.mk (blk_drew BK436.out)
        have n7_ := Aside0.mk (below_drew1 HB.out)
        clear BK420
        clear BK421
        clear BK422
        clear BK423
        clear BK434
        clear BK435
        clear BK436
        clear HB
        have BK420 := n0_
        have BK421 := n1_
        have BK422 := n2_
        have BK423 := n3_
        have BK434 := n4_
        have BK435 := n5_
        have BK436 := n6_
        have HB := n7_
        clear n0_ n1_ n2_ n3_ n4_ n5_ n6_ n7_
        refine start_ (n := 15) (S := fun w' => w'.cell? ⟨gb434, 0, none⟩ = some (.int .i64 t428) ∧ w'.cell? ⟨gb434, 1, none⟩ = some (.int .i64 t429) ∧ w'.cell? ⟨gb435, 0, none⟩ = some (.int .i64 t430) ∧ w'.cell? ⟨gb435, 1, none⟩ = some (.int .i64 t431) ∧ w'.cell? ⟨gb436, 0, none⟩ = some (.int .i64 t432) ∧ w'.cell? ⟨gb436, 1, none⟩ = some (.int .i64 t433)) (ds := []) #[false, false, false, false, false, false, false, false, false, false, false, false, false, false, false] (by kernel_rfl) rfl rfl ⟨(blk_cell BK434.out 0).trans rfl, (blk_cell BK434.out 1).trans rfl, (blk_cell BK435.out 0).trans rfl, (blk_cell BK435.out 1).trans rfl, (blk_cell BK436.out 0).trans rfl, (blk_cell BK436.out 1).trans rfl⟩ (fun hHeld => ?_); refine with_tabW grids_Turn.tab4 grids_Turn.bits4 (fun HT_ HW_ => ?_)
        generalize w102.drew = w103 at BK420 BK421 BK422 BK423 BK434 BK435 BK436 HB hHeld ⊢
        refine take_ (i := 0) (N := some 44) (v := ?_) (a' := ?_) #[true, false, false, false, false, false, false, false, false, false, false, false, false, false, false] rfl rfl (take_ofW HT_.out HW_.out (by kernel_rfl)) (fun _ _ _ h => h) (Or.inl ⟨by rfl, ?_⟩) hHeld ?_ ?_
        rotate_left
        · rintro w' ⟨s0, s1, s2, s3, s4, s5⟩
          go_simp
          with_reducible rfl
        rotate_left
        · simp only [Act.put, List.setIfInBounds_toArray, List.set_cons_zero, List.set_cons_succ, i64_w, i32_w]
          rfl
        refine take_ (i := 1) (N := some 45) (v := ?_) (a' := ?_) #[true, true, false, false, false, false, false, false, false, false, false, false, false, false, false] rfl rfl (take_ofW HT_.out HW_.out (by kernel_rfl)) (fun _ _ _ h => h) (Or.inl ⟨by rfl, ?_⟩) hHeld ?_ ?_
        rotate_left
        · rintro w' ⟨s0, s1, s2, s3, s4, s5⟩
          go_simp
          with_reducible rfl
        rotate_left
        · simp only [Act.put, List.setIfInBounds_toArray, List.set_cons_zero, List.set_cons_succ, i64_w, i32_w]
          rfl
        refine take_ (i := 3) (N := some 47) (v := ?_) (a' := ?_) #[true, true, false, true, false, false, false, false, false, false, false, false, false, false, false] rfl rfl (take_ofW HT_.out HW_.out (by kernel_rfl)) (fun _ _ _ h => h) (Or.inl ⟨by rfl, ?_⟩) hHeld ?_ ?_
        rotate_left
        · rintro w' ⟨s0, s1, s2, s3, s4, s5⟩
          go_simp
          with_reducible rfl
        rotate_left
        · simp only [Act.put, List.setIfInBounds_toArray, List.set_cons_zero, List.set_cons_succ, i64_w, i32_w]
          rfl
        refine take_ (i := 4) (N := some 48) (v := ?_) (a' := ?_) #[true, true, false, true, true, false, false, false, false, false, false, false, false, false, false] rfl rfl (take_ofW HT_.out HW_.out (by kernel_rfl)) (fun _ _ _ h => h) (Or.inl ⟨by rfl, ?_⟩) hHeld ?_ ?_
        rotate_left
        · rintro w' ⟨s0, s1, s2, s3, s4, s5⟩
          go_simp
          with_reducible rfl
        rotate_left
        · simp only [Act.put, List.setIfInBounds_toArray, List.set_cons_zero, List.set_cons_succ, i64_w, i32_w]
          rfl
        refine take_ (i := 7) (N := some 51) (v := ?_) (a' := ?_) #[true, true, false, true, true, false, false, true, false, false, false, false, false, false, false] rfl rfl (take_ofW HT_.out HW_.out (by kernel_rfl)) (fun _ _ _ h => h) (Or.inl ⟨by rfl, ?_⟩) hHeld ?_ ?_
        rotate_left
        · rintro w' ⟨s0, s1, s2, s3, s4, s5⟩
          go_simp
          with_reducible rfl
        rotate_left
        · simp only [Act.put, List.setIfInBounds_toArray, List.set_cons_zero, List.set_cons_succ, i64_w, i32_w]
          rfl
        refine take_ (i := 8) (N := some 52) (v := ?_) (a' := ?_) #[true, true, false, true, true, false, false, true, true, false, false, false, false, false, false] rfl rfl (take_ofW HT_.out HW_.out (by kernel_rfl)) (fun _ _ _ h => h) (Or.inl ⟨by rfl, ?_⟩) hHeld ?_ ?_
        rotate_left
        · rintro w' ⟨s0, s1, s2, s3, s4, s5⟩
          go_simp
          with_reducible rfl
        rotate_left
        · simp only [Act.put, List.setIfInBounds_toArray, List.set_cons_zero, List.set_cons_succ, i64_w, i32_w]
          rfl
        refine one_ (i := 2) (N := some 46) #[true, true, true, true, true, false, false, true, true, false, false, false, false, false, false] rfl rfl (one_of HT_.out (by kernel_rfl)) (by decide) (fun K hK => ?_)
        refine goes_ Try.func53 (by kernel_rfl) rfl #[.agg #[.int .i64 t428, .int .i64 t429], .agg #[.int .i64 t430, .int .i64 t431]] (by rfl) rfl rfl am ?_
        with_reducible refine (grids_step_half.calls kj4 t428 t429 t430 t431 t437 _ A83.out).mono ?_
        rintro e w104 ⟨rfl, hb⟩
        refine ⟨_, rfl, ?_⟩
        replace BK420 := bb BK420 hb
        replace BK421 := bb BK421 hb
        replace BK422 := bb BK422 hb
        replace BK423 := bb BK423 hb
        replace BK434 := bb BK434 hb
        replace BK435 := bb BK435 hb
        replace BK436 := bb BK436 hb
        replace HB := bst HB hb
        (try clear hb)
        (try clear hb2)
        (try clear hk)
        (try clear hi)
        refine hK.out _ _ ⟨(blk_cell BK434.out 0).trans rfl, (blk_cell BK434.out 1).trans rfl, (blk_cell BK435.out 0).trans rfl, (blk_cell BK435.out 1).trans rfl, (blk_cell BK436.out 0).trans rfl, (blk_cell BK436.out 1).trans rfl⟩ (fun hHeld => ?_)
        clear hK K
        refine norm_ (a' := ?_) ?_ ?_
        rotate_left
        · show Act.put _ (some 46) _ = _
          simp only [Act.put, List.setIfInBounds_toArray, List.set_cons_zero, List.set_cons_succ, i64_w, i32_w]
          rfl
        refine one_ (i := 5) (N := some 49) #[true, true, true, true, true, true, false, true, true, false, false, false, false, false, false] rfl rfl (one_of HT_.out (by kernel_rfl)) (by decide) (fun K hK => ?_)
        refine goes_ Try.func53 (by kernel_rfl) rfl #[.agg #[.int .i64 t428, .int .i64 t429], .agg #[.int .i64 t432, .int .i64 t433]] (by rfl) rfl rfl am ?_
        with_reducible refine (grids_step_half.calls kj4 t428 t429 t432 t433 t438 _ A84.out).mono ?_
        rintro e w105 ⟨rfl, hb⟩
        refine ⟨_, rfl, ?_⟩
        replace BK420 := bb BK420 hb
        replace BK421 := bb BK421 hb
        replace BK422 := bb BK422 hb
        replace BK423 := bb BK423 hb
        replace BK434 := bb BK434 hb
        replace BK435 := bb BK435 hb
        replace BK436 := bb BK436 hb
        replace HB := bst HB hb
        (try clear hb)
        (try clear hb2)
        (try clear hk)
        (try clear hi)
        refine hK.out _ _ ⟨(blk_cell BK434.out 0).trans rfl, (blk_cell BK434.out 1).trans rfl, (blk_cell BK435.out 0).trans rfl, (blk_cell BK435.out 1).trans rfl, (blk_cell BK436.out 0).trans rfl, (blk_cell BK436.out 1).trans rfl⟩ (fun hHeld => ?_)
        clear hK K
        refine norm_ (a' := ?_) ?_ ?_
        rotate_left
        · show Act.put _ (some 49) _ = _
          simp only [Act.put, List.setIfInBounds_toArray, List.set_cons_zero, List.set_cons_succ, i64_w, i32_w]
          rfl
        refine one_ (i := 6) (N := some 50) #[true, true, true, true, true, true, true, true, true, false, false, false, false, false, false] rfl rfl (one_of HT_.out (by kernel_rfl)) (by decide) (fun K hK => ?_)
        refine goes_ Try.func52 (by kernel_rfl) rfl #[.int .i64 t437, .int .i64 t438] (by rfl) rfl rfl am ?_
        with_reducible refine (cmp_Compare_int.calls t437 t438 t439 _ A85.out).mono ?_
        rintro e w' ⟨rfl, ⟨nd, rfl⟩⟩
        refine ⟨_, rfl, ?_⟩
        refine hK.out _ _ ⟨(blk_cell BK434.out 0).trans rfl, (blk_cell BK434.out 1).trans rfl, (blk_cell BK435.out 0).trans rfl, (blk_cell BK435.out 1).trans rfl, (blk_cell BK436.out 0).trans rfl, (blk_cell BK436.out 1).trans rfl⟩ (fun hHeld => ?_)
        clear hK K
        refine norm_ (a' := ?_) ?_ ?_
        rotate_left
        · show Act.put _ (some 50) _ = _
          simp only [Act.put, List.setIfInBounds_toArray, List.set_cons_zero, List.set_cons_succ, i64_w, i32_w]
          rfl
        refine one_ (i := 9) (N := some 53) #[true, true, true, true, true, true, true, true, true, true, false, false, false, false, false] rfl rfl (one_of HT_.out (by kernel_rfl)) (by decide) (fun K hK => ?_)
        refine goes_ Try.func55 (by kernel_rfl) rfl #[.agg #[.int .i64 t430, .int .i64 t431], .agg #[.int .i64 t432, .int .i64 t433]] (by rfl) rfl rfl am ?_
        with_reducible refine (grids_step_cross.calls t430 t431 t432 t433 t440 _ A86.out).mono ?_
        rintro e w106 ⟨rfl, hb⟩
        refine ⟨_, rfl, ?_⟩
        replace BK420 := bb BK420 hb
        replace BK421 := bb BK421 hb
        replace BK422 := bb BK422 hb
        replace BK423 := bb BK423 hb
        replace BK434 := bb BK434 hb
        replace BK435 := bb BK435 hb
        replace BK436 := bb BK436 hb
        replace HB := bst HB hb
        (try clear hb)
        (try clear hb2)
        (try clear hk)
        (try clear hi)
        refine hK.out _ _ ⟨(blk_cell BK434.out 0).trans rfl, (blk_cell BK434.out 1).trans rfl, (blk_cell BK435.out 0).trans rfl, (blk_cell BK435.out 1).trans rfl, (blk_cell BK436.out 0).trans rfl, (blk_cell BK436.out 1).trans rfl⟩ (fun hHeld => ?_)
        clear hK K
        refine norm_ (a' := ?_) ?_ ?_
        rotate_left
        · show Act.put _ (some 53) _ = _
          simp only [Act.put, List.setIfInBounds_toArray, List.set_cons_zero, List.set_cons_succ, i64_w, i32_w]
          rfl
        refine one_ (i := 10) (N := some 54) #[true, true, true, true, true, true, true, true, true, true, true, false, false, false, false] rfl rfl (one_of HT_.out (by kernel_rfl)) (by decide) (fun K hK => ?_)
        refine goes_ Try.func54 (by kernel_rfl) rfl #[.int .i64 0, .int .i64 t440] (by rfl) rfl rfl am ?_
        with_reducible refine (cmp_Compare_int64.calls 0 t440 t441 _ A87.out).mono ?_
        rintro e w' ⟨rfl, ⟨nd, rfl⟩⟩
        refine ⟨_, rfl, ?_⟩
        refine hK.out _ _ ⟨(blk_cell BK434.out 0).trans rfl, (blk_cell BK434.out 1).trans rfl, (blk_cell BK435.out 0).trans rfl, (blk_cell BK435.out 1).trans rfl, (blk_cell BK436.out 0).trans rfl, (blk_cell BK436.out 1).trans rfl⟩ (fun hHeld => ?_)
        clear hK K
        refine norm_ (a' := ?_) ?_ ?_
        rotate_left
        · show Act.put _ (some 54) _ = _
          simp only [Act.put, List.setIfInBounds_toArray, List.set_cons_zero, List.set_cons_succ, i64_w, i32_w]
          rfl
        refine one_ (i := 11) (N := some 55) #[true, true, true, true, true, true, true, true, true, true, true, true, false, false, false] rfl rfl (one_of HT_.out (by kernel_rfl)) (by decide) (fun K hK => ?_)
        refine Kd.R_lit_step (Kd.int .i64) _ 3 ?hg (N := 55) ?hd (xs := ([t439, t441] : List Int)) (inner := [.int .i64 t439, .int .i64 t441]) (ok := fun _ => True) (okp := fun _ => True) ?hr ?hp (fun _ hk => hk) trivial (Below.refl _ _) (Nat.le_refl _) (by simp) ?_; (case hd => rfl); (case hg => rfl); (case hr => first | (go_simp; done) | (go_simp; rfl)); (case hp => exact (Reps.one (show Kd.M (Kd.int .i64) _ _ _ t439 [.int .i64 t439] from rfl) (Reps.one (show Kd.M (Kd.int .i64) _ _ _ t441 [.int .i64 t441] from rfl) (Reps.none _ _))))
        intro v443 w107 ho108 hb hg_ hnew_
        clear hg_ hnew_
        (first | rw [← Ny442.out] at ho108 | (simp only [Int.reduceToNat] at ho108; rw [← Ny442.out] at ho108))
        have HO444 := Aside0.mk (Kd.R_lower ho108 (below_size (bnow HB)))
        replace BK420 := bb BK420 hb
        replace BK421 := bb BK421 hb
        replace BK422 := bb BK422 hb
        replace BK423 := bb BK423 hb
        replace BK434 := bb BK434 hb
        replace BK435 := bb BK435 hb
        replace BK436 := bb BK436 hb
        replace HB := bst HB hb
        clear hb ho108
        obtain ⟨Ao109, co109, eo109⟩ := Kd.R_slice HO444.out
        (first | subst eo109 | (injection eo109 with f1_ f2_ f3_; have f4_ := f1_.symm; have f5_ := f3_.symm; clear f1_ f2_ f3_; subst f4_; subst f5_))
        refine hK.out _ _ ⟨(blk_cell BK434.out 0).trans rfl, (blk_cell BK434.out 1).trans rfl, (blk_cell BK435.out 0).trans rfl, (blk_cell BK435.out 1).trans rfl, (blk_cell BK436.out 0).trans rfl, (blk_cell BK436.out 1).trans rfl⟩ (fun hHeld => ?_)
        clear hK K
        refine norm_ (a' := ?_) ?_ ?_
        rotate_left
        · show Act.put _ (some 55) _ = _
          simp only [Act.put, List.setIfInBounds_toArray, List.set_cons_zero, List.set_cons_succ, i64_w, i32_w]
          rfl
        refine one_ (i := 12) (N := some 56) #[true, true, true, true, true, true, true, true, true, true, true, true, true, false, false] rfl rfl (one_of HT_.out (by kernel_rfl)) (by decide) (fun K hK => ?_)
        refine goes_ Try.func51 (by kernel_rfl) rfl #[.slice Ao109 y442.length co109] (by rfl) rfl rfl am ?_
        with_reducible refine (cmp_Or_int.calls kj4 _ _ y442 t445 _ ?side1 ?side2 A88.out).mono ?_
        (case side1 => repeat (first | exact (Kd.R_reads' HO444.out).2.2 | (with_reducible refine Kd.C_alloc ?_ _) | (with_reducible refine Kd.C_drewN ?_ _) | (with_reducible refine Kd.C_drew ?_)))
        (case side2 => exact (Kd.R_reads' HO444.out).2.1)
        rintro e w' ⟨rfl, ⟨nd, rfl⟩⟩
        refine ⟨_, rfl, ?_⟩
        refine hK.out _ _ ⟨(blk_cell BK434.out 0).trans rfl, (blk_cell BK434.out 1).trans rfl, (blk_cell BK435.out 0).trans rfl, (blk_cell BK435.out 1).trans rfl, (blk_cell BK436.out 0).trans rfl, (blk_cell BK436.out 1).trans rfl⟩ (fun hHeld => ?_)
        clear hK K
        refine norm_ (a' := ?_) ?_ ?_
        rotate_left
        · show Act.put _ (some 56) _ = _
          simp only [Act.put, List.setIfInBounds_toArray, List.set_cons_zero, List.set_cons_succ, i64_w, i32_w]
          rfl
        refine pure_ (i := 13) (N := some 8) (v := ?_) (a' := ?_) #[true, true, true, true, true, true, true, true, true, true, true, true, true, true, false] rfl rfl (any_of HT_.out (by kernel_rfl)) (fun _ _ _ h => h) (Or.inl ⟨by rfl, ?_⟩) ?_ ?_
        rotate_left
        · intro w'
          go_simp
          with_reducible rfl
        rotate_left
        · simp only [Act.put, List.setIfInBounds_toArray, List.set_cons_zero, List.set_cons_succ, i64_w, i32_w]
          rfl
        refine pure_ (i := 14) (N := some 9) (v := ?_) (a' := ?_) #[true, true, true, true, true, true, true, true, true, true, true, true, true, true, true] rfl rfl (any_of HT_.out (by kernel_rfl)) (fun _ _ _ h => h) (Or.inl ⟨by rfl, ?_⟩) ?_ ?_
        rotate_left
        · intro w'
          go_simp
          with_reducible rfl
        rotate_left
        · simp only [Act.put, List.setIfInBounds_toArray, List.set_cons_zero, List.set_cons_succ, i64_w, i32_w]
          rfl
        refine done_ (done_of HT_.out (by kernel_rfl)) ?_
        try go_wp2
        go_ret2
        exact ⟨by first | rfl | (simp [errW_none, errW_some] <;> rfl) | (simp [*, errW_none, errW_some] <;> rfl), by repeat (first | (with_reducible first | exact HB.out | apply below_alloc | apply pw_below_drewN | apply below_drew1 | refine below_set ?_ GE420.out | refine below_set ?_ GE421.out | refine below_set ?_ GE422.out | refine below_set ?_ GE423.out | refine below_set ?_ GE434.out | refine below_set ?_ GE435.out | refine below_set ?_ GE436.out) | exact HB.out)⟩
end
section
theorem eqA23 (d : Nat) (w : World) (x0 y0 : Int) (x1 y1 : Int) (x2 y2 : Int) :
    (Op.equalIn (d + 2) 23 (.agg #[.int .i64 x0, .int .i64 x1, .int .i64 x2]) (.agg #[.int .i64 y0, .int .i64 y1, .int .i64 y2])).run Try.prog w = .ok (x0 == y0 && (x1 == y1 && (x2 == y2))) w := by
  refine eqA_of Try.underlying23 (by kernel_rfl) ?_
  refine eqf_cons (by rfl) (by go_simp; rfl) (by go_simp; rfl) (by go_simp) ?_
  refine eqf_cons (by rfl) (by go_simp; rfl) (by go_simp; rfl) (by go_simp) ?_
  exact eqf_last (by rfl) (by go_simp; rfl) (by go_simp; rfl) (by go_simp)
end
section
theorem eqA25 (d : Nat) (w : World) (x0 y0 : Int) (x1 y1 : Int) (x2 y2 : Int) (x3 y3 : Int) :
    (Op.equalIn (d + 2) 25 (.agg #[.int .i64 x0, .int .i64 x1, .int .i64 x2, .int .i64 x3]) (.agg #[.int .i64 y0, .int .i64 y1, .int .i64 y2, .int .i64 y3])).run Try.prog w = .ok (x0 == y0 && (x1 == y1 && (x2 == y2 && (x3 == y3)))) w := by
  refine eqA_of Try.underlying25 (by kernel_rfl) ?_
  refine eqf_cons (by rfl) (by go_simp; rfl) (by go_simp; rfl) (by go_simp) ?_
  refine eqf_cons (by rfl) (by go_simp; rfl) (by go_simp; rfl) (by go_simp) ?_
  refine eqf_cons (by rfl) (by go_simp; rfl) (by go_simp; rfl) (by go_simp) ?_
  exact eqf_last (by rfl) (by go_simp; rfl) (by go_simp; rfl) (by go_simp)
end
section
/-! ### grids_Check: function 14 -/
def grids_Check.j0 : Nat → Bool → Option (Int)
  | 0, _ => none
  | k + 1, x38 => if x38 = true then (some 2) else (some 0)
def grids_Check.f (k : Nat) (a0_0 : Int) (a0_1 : Int) (a0_2 : Int) : Option (Int) := if a0_0 < 1 then (grids_Check.j0 k true) else (if a0_2 < 1 then (grids_Check.j0 k true) else (if a0_0 > 10000 then (grids_Check.j0 k true) else (if a0_2 > 10000 then (grids_Check.j0 k true) else ((grids_outside.f a0_1 10000).bind fun t103 => (if t103 = true then (grids_Check.j0 k true) else ((some (wrap64 (a0_0 * a0_2))).bind fun z104 => ((some (wrap64 (a0_1 * a0_1))).bind fun z105 => (grids_Check.j0 k (decide (z104 ≤ z105))))))))))
theorem grids_Check.mono_l : ∀ k, (∀ y0, LeO (grids_Check.j0 k y0) (grids_Check.j0 (k + 1) y0))
  | 0 => fun _ r h => by simp [grids_Check.j0] at h
  | k + 1 => by
    have ih0 := grids_Check.mono_l k
    · intro y0
      unfold grids_Check.j0
      repeat' first
      | (with_reducible exact ih0 _)
      | (with_reducible exact LeO.refl _)
      | (with_reducible exact LeO.none _)
      | (with_reducible refine LeO.ite ?_ ?_)
      | (with_reducible refine LeO.bind ?_ (fun _ => ?_))
      | exact ih0 _
      | exact LeO.none _
      | refine LeO.ite ?_ ?_
      | refine LeO.bind ?_ (fun _ => ?_)
theorem grids_Check.mono : ∀ a0 a1 a2 k, LeO (grids_Check.f k a0 a1 a2) (grids_Check.f (k + 1) a0 a1 a2) := by
  intro a0 a1 a2 k
  have ih0 := grids_Check.mono_l k
  unfold grids_Check.f
  repeat' first
      | (with_reducible exact ih0 _)
      | (with_reducible exact LeO.refl _)
      | (with_reducible exact LeO.none _)
      | (with_reducible refine LeO.ite ?_ ?_)
      | (with_reducible refine LeO.bind ?_ (fun _ => ?_))
      | exact ih0 _
      | exact LeO.none _
      | refine LeO.ite ?_ ?_
      | refine LeO.bind ?_ (fun _ => ?_)
set_option maxHeartbeats 8000000 in
set_option maxRecDepth 100000 in
theorem grids_Check.calls (k : Nat) (a0_0 : Int) (a0_1 : Int) (a0_2 : Int) (r : Int) (w : World) (h : grids_Check.f k a0_0 a0_1 a0_2 = some r) :
    Calls Try.prog 14 #[.agg #[.int .i64 a0_0, .int .i64 a0_1, .int .i64 a0_2]] w fun e w' => e = .returned (.int .i64 r) ∧ Below w.heap.size w w' := by
  have hu23 := Try.underlying23
  have HB := Aside0.mk (Below.refl w.heap.size w)
  have H : (if a0_0 < 1 then (grids_Check.j0 k true) else (if a0_2 < 1 then (grids_Check.j0 k true) else (if a0_0 > 10000 then (grids_Check.j0 k true) else (if a0_2 > 10000 then (grids_Check.j0 k true) else ((grids_outside.f a0_1 10000).bind fun t103 => (if t103 = true then (grids_Check.j0 k true) else ((some (wrap64 (a0_0 * a0_2))).bind fun z104 => ((some (wrap64 (a0_1 * a0_1))).bind fun z105 => (grids_Check.j0 k (decide (z104 ≤ z105))))))))))) = some r := h
  clear h
  have HC2 := Aside0.mk H
  clear H
  go_enter Try.func14, Try.ntmps14
  go_upto_region 1 with (first | ((with_reducible refine gate_dst (N := 1) rfl ?_); refine box_event ?hg (N := 1) ?hd (cs := #[.int .i64 a0_0, .int .i64 a0_1, .int .i64 a0_2]) (t := 23) ?hr ?_; (case hd => rfl); (case hg => rfl); (case hr => first | (go_simp; done) | (go_simp; rfl)); intro gb102 hg w3 hbox hb; have BK102 := Aside0.mk (hbox); have GW102 := Aside0.mk ((by rw [hg]; exact (below_size (bnow HB)) : w.heap.size ≤ gb102)); have GE102 := Aside0.mk ((by rw [hg]; exact (below_size (bnow HB)) : w.heap.size ≤ gb102)); replace HB := bst HB hb; clear hb hbox hg))
  (try simp only [Act.put, List.setIfInBounds_toArray, List.set_cons_zero, List.set_cons_succ])
  go_cut [38] (fun v38 wc => ∃ (kq : Nat) (x38_1 : Bool), v38 = .bool x38_1 ∧ Aside0 (grids_Check.j0 kq x38_1 = some r) ∧ Aside0 (kq ≤ k) ∧ Aside0 (wc.heap[gb102]? = some (.cells #[.int .i64 a0_0, .int .i64 a0_1, .int .i64 a0_2] 23 (0, 0))) ∧ Aside0 (Below w.heap.size w wc))
  case first =>
    have H := HC2.out
    clear HC2
    by_cases c4 : a0_0 < 1
    · rw [if_pos c4] at H
      have c4b0 : decide (a0_0 < 1) = true := decide_eq_true c4
      clear c4
      (first | rw [c4b0] | (simp only [i64_w, i32_w]; rw [c4b0]) | skip)
      have H' := Aside0.mk H
      clear H
      have hcz5_0 : w3.cell? ⟨gb102, 0, none⟩ = some (.int .i64 a0_0) := (blk_cell BK102.out 0).trans rfl
      have hcz5_1 : w3.cell? ⟨gb102, 1, none⟩ = some (.int .i64 a0_1) := (blk_cell BK102.out 1).trans rfl
      have hcz5_2 : w3.cell? ⟨gb102, 2, none⟩ = some (.int .i64 a0_2) := (blk_cell BK102.out 2).trans rfl
      have hfz5_0 := blk_frozen BK102.out 0
      have hfz5_1 := blk_frozen BK102.out 1
      have hfz5_2 := blk_frozen BK102.out 2
      go_wp2
      go_meet
      case rel => exact ⟨_, (true), (by first | rfl | (simp; done) | (simp [*]; done)), H', ⟨by first | omega | exact Nat.le_refl _⟩, ⟨pk BK102⟩, ⟨bnow HB⟩⟩
    · rw [if_neg c4] at H
      have c4b0 : decide (a0_0 < 1) = false := decide_eq_false c4
      clear c4
      (first | rw [c4b0] | (simp only [i64_w, i32_w]; rw [c4b0]) | skip)
      by_cases c6 : a0_2 < 1
      · rw [if_pos c6] at H
        have c6b0 : decide (a0_2 < 1) = true := decide_eq_true c6
        clear c6
        have H' := Aside0.mk H
        clear H
        have hcz7_0 : w3.cell? ⟨gb102, 0, none⟩ = some (.int .i64 a0_0) := (blk_cell BK102.out 0).trans rfl
        have hcz7_1 : w3.cell? ⟨gb102, 1, none⟩ = some (.int .i64 a0_1) := (blk_cell BK102.out 1).trans rfl
        have hcz7_2 : w3.cell? ⟨gb102, 2, none⟩ = some (.int .i64 a0_2) := (blk_cell BK102.out 2).trans rfl
        have hfz7_0 := blk_frozen BK102.out 0
        have hfz7_1 := blk_frozen BK102.out 1
        have hfz7_2 := blk_frozen BK102.out 2
        go_wp2
        go_meet
        case rel => exact ⟨_, (true), (by first | rfl | (simp; done) | (simp [*]; done)), H', ⟨by first | omega | exact Nat.le_refl _⟩, ⟨pk BK102⟩, ⟨bnow HB⟩⟩
      · rw [if_neg c6] at H
        have c6b0 : decide (a0_2 < 1) = false := decide_eq_false c6
        clear c6
        by_cases c8 : a0_0 > 10000
        · rw [if_pos c8] at H
          have c8b0 : decide (10000 < a0_0) = true := decide_eq_true c8
          clear c8
          have H' := Aside0.mk H
          clear H
          have hcz9_0 : w3.cell? ⟨gb102, 0, none⟩ = some (.int .i64 a0_0) := (blk_cell BK102.out 0).trans rfl
          have hcz9_1 : w3.cell? ⟨gb102, 1, none⟩ = some (.int .i64 a0_1) := (blk_cell BK102.out 1).trans rfl
          have hcz9_2 : w3.cell? ⟨gb102, 2, none⟩ = some (.int .i64 a0_2) := (blk_cell BK102.out 2).trans rfl
          have hfz9_0 := blk_frozen BK102.out 0
          have hfz9_1 := blk_frozen BK102.out 1
          have hfz9_2 := blk_frozen BK102.out 2
          go_wp2
          go_meet
          case rel => exact ⟨_, (true), (by first | rfl | (simp; done) | (simp [*]; done)), H', ⟨by first | omega | exact Nat.le_refl _⟩, ⟨pk BK102⟩, ⟨bnow HB⟩⟩
        · rw [if_neg c8] at H
          have c8b0 : decide (10000 < a0_0) = false := decide_eq_false c8
          clear c8
          by_cases c10 : a0_2 > 10000
          · rw [if_pos c10] at H
            have c10b0 : decide (10000 < a0_2) = true := decide_eq_true c10
            clear c10
            have H' := Aside0.mk H
            clear H
            have hcz11_0 : w3.cell? ⟨gb102, 0, none⟩ = some (.int .i64 a0_0) := (blk_cell BK102.out 0).trans rfl
            have hcz11_1 : w3.cell? ⟨gb102, 1, none⟩ = some (.int .i64 a0_1) := (blk_cell BK102.out 1).trans rfl
            have hcz11_2 : w3.cell? ⟨gb102, 2, none⟩ = some (.int .i64 a0_2) := (blk_cell BK102.out 2).trans rfl
            have hfz11_0 := blk_frozen BK102.out 0
            have hfz11_1 := blk_frozen BK102.out 1
            have hfz11_2 := blk_frozen BK102.out 2
            go_wp2
            go_meet
            case rel => exact ⟨_, (true), (by first | rfl | (simp; done) | (simp [*]; done)), H', ⟨by first | omega | exact Nat.le_refl _⟩, ⟨pk BK102⟩, ⟨bnow HB⟩⟩
          · rw [if_neg c10] at H
            have c10b0 : decide (10000 < a0_2) = false := decide_eq_false c10
            clear c10
            replace H := Option.bind_eq_some_iff.mp H
            obtain ⟨t103, A120, H⟩ := H
            replace H : (if t103 = true then (grids_Check.j0 k true) else ((some (wrap64 (a0_0 * a0_2))).bind fun z104 => ((some (wrap64 (a0_1 * a0_1))).bind fun z105 => (grids_Check.j0 k (decide (z104 ≤ z105)))))) = some r := H
            have A12 := Aside0.mk A120
            clear A120
            by_cases c13 : t103 = true
            · subst c13
              have H1 : (grids_Check.j0 k true) = some r := by rw [if_pos rfl] at H; exact H
              clear H
              have H := H1
              clear H1
              have H' := Aside0.mk H
              clear H
              have hcz14_0 : w3.cell? ⟨gb102, 0, none⟩ = some (.int .i64 a0_0) := (blk_cell BK102.out 0).trans rfl
              have hcz14_1 : w3.cell? ⟨gb102, 1, none⟩ = some (.int .i64 a0_1) := (blk_cell BK102.out 1).trans rfl
              have hcz14_2 : w3.cell? ⟨gb102, 2, none⟩ = some (.int .i64 a0_2) := (blk_cell BK102.out 2).trans rfl
              have hfz14_0 := blk_frozen BK102.out 0
              have hfz14_1 := blk_frozen BK102.out 1
              have hfz14_2 := blk_frozen BK102.out 2
              go_wp2_with (first | (go_at_call 46; (with_reducible refine (grids_outside.calls a0_1 10000 true _ A12.out).mono ?_); rintro e w' ⟨rfl, ⟨nd, rfl⟩⟩))
              go_meet
              case rel => exact ⟨_, (true), (by first | rfl | (simp; done) | (simp [*]; done)), H', ⟨by first | omega | exact Nat.le_refl _⟩, ⟨pk BK102⟩, ⟨bnow HB⟩⟩
            · replace c13 := Bool.eq_false_iff.mpr c13
              subst c13
              have H1 : ((some (wrap64 (a0_0 * a0_2))).bind fun z104 => ((some (wrap64 (a0_1 * a0_1))).bind fun z105 => (grids_Check.j0 k (decide (z104 ≤ z105))))) = some r := by rw [if_neg (show ¬ (false = true) by decide)] at H; exact H
              clear H
              have H := H1
              clear H1
              replace H := Option.bind_eq_some_iff.mp H
              obtain ⟨z104, E150, H⟩ := H
              replace H : ((some (wrap64 (a0_1 * a0_1))).bind fun z105 => (grids_Check.j0 k (decide (z104 ≤ z105)))) = some r := H
              replace E150 := Option.some.inj E150
              have E15w : (IntKind.i64.wrap (a0_0 * a0_2)) = z104 := (i64_w _).trans E150
              replace H := Option.bind_eq_some_iff.mp H
              obtain ⟨z105, E160, H⟩ := H
              replace H : (grids_Check.j0 k (decide (z104 ≤ z105))) = some r := H
              replace E160 := Option.some.inj E160
              have E16w : (IntKind.i64.wrap (a0_1 * a0_1)) = z105 := (i64_w _).trans E160
              have H' := Aside0.mk H
              clear H
              have hcz17_0 : w3.cell? ⟨gb102, 0, none⟩ = some (.int .i64 a0_0) := (blk_cell BK102.out 0).trans rfl
              have hcz17_1 : w3.cell? ⟨gb102, 1, none⟩ = some (.int .i64 a0_1) := (blk_cell BK102.out 1).trans rfl
              have hcz17_2 : w3.cell? ⟨gb102, 2, none⟩ = some (.int .i64 a0_2) := (blk_cell BK102.out 2).trans rfl
              have hfz17_0 := blk_frozen BK102.out 0
              have hfz17_1 := blk_frozen BK102.out 1
              have hfz17_2 := blk_frozen BK102.out 2
              go_wp2_with (first | (go_at_call 46; (with_reducible refine (grids_outside.calls a0_1 10000 false _ A12.out).mono ?_); rintro e w' ⟨rfl, ⟨nd, rfl⟩⟩))
              go_meet
              case rel => exact ⟨_, (decide (z104 ≤ z105)), (by first | rfl | (simp; done) | (simp [*]; done)), H', ⟨by first | omega | exact Nat.le_refl _⟩, ⟨pk BK102⟩, ⟨bnow HB⟩⟩
  case rest =>
    clear HC2
    try clear c1
    try clear p2
    try clear c4
    try clear c4b0
    try clear c6
    try clear c6b0
    try clear p6
    try clear c8
    try clear c8b0
    try clear c10
    try clear c10b0
    try clear c13
    try clear c14
    try clear hcz11_0
    try clear hcz11_1
    try clear hcz11_2
    try clear hcz14_0
    try clear hcz14_1
    try clear hcz14_2
    try clear hcz17_0
    try clear hcz17_1
    try clear hcz17_2
    try clear hcz5_0
    try clear hcz5_1
    try clear hcz5_2
    try clear hcz7_0
    try clear hcz7_1
    try clear hcz7_2
    try clear hcz9_0
    try clear hcz9_1
    try clear hcz9_2
    try clear hfz11_0
    try clear hfz11_1
    try clear hfz11_2
    try clear hfz14_0
    try clear hfz14_1
    try clear hfz14_2
    try clear hfz17_0
    try clear hfz17_1
    try clear hfz17_2
    try clear hfz5_0
    try clear hfz5_1
    try clear hfz5_2
    try clear hfz7_0
    try clear hfz7_1
    try clear hfz7_2
    try clear hfz9_0
    try clear hfz9_1
    try clear hfz9_2
    obtain ⟨kq, x38_1, rfl, HA, HJ1, BK102, HB⟩ := hcut
    cases kq with
    | zero => exact absurd HA.out (by simp [grids_Check.j0])
    | succ kj1 =>
      have H := HA.out
      clear HA
      simp only [grids_Check.j0] at H
      by_cases c18 : x38_1 = true
      · subst c18
        have H1 : (some 2) = some r := by rw [if_pos rfl] at H; exact H
        clear H
        have H := H1
        clear H1
        obtain rfl := Option.some.inj H
        go_wp2
        go_ret
        exact ⟨by first | rfl | (simp [errW_none, errW_some] <;> rfl) | (simp [*, errW_none, errW_some] <;> rfl), by repeat (first | (with_reducible first | exact HB.out | apply below_alloc | apply pw_below_drewN | apply below_drew1 | refine below_set ?_ GE102.out) | exact HB.out)⟩
      · replace c18 := Bool.eq_false_iff.mpr c18
        subst c18
        have H1 : (some 0) = some r := by rw [if_neg (show ¬ (false = true) by decide)] at H; exact H
        clear H
        have H := H1
        clear H1
        obtain rfl := Option.some.inj H
        go_wp2
        go_ret
        exact ⟨by first | rfl | (simp [errW_none, errW_some] <;> rfl) | (simp [*, errW_none, errW_some] <;> rfl), by repeat (first | (with_reducible first | exact HB.out | apply below_alloc | apply pw_below_drewN | apply below_drew1 | refine below_set ?_ GE102.out) | exact HB.out)⟩
end
section
/-! ### grids_times: function 40 -/
def grids_times.f (a0_0 : Int) (a0_1 : Int) (a0_2 : Int) (a0_3 : Int) (a1_0 : Int) (a1_1 : Int) (a1_2 : Int) (a1_3 : Int) : Option (Int × Int × Int × Int) := (some (wrap64 (a0_0 * a1_0))).bind fun z109 => ((some (wrap64 (a0_1 * a1_2))).bind fun z110 => ((some (wrap64 (z109 + z110))).bind fun z111 => ((some (wrap64 (a0_0 * a1_1))).bind fun z112 => ((some (wrap64 (a0_1 * a1_3))).bind fun z113 => ((some (wrap64 (z112 + z113))).bind fun z114 => ((some (wrap64 (a0_2 * a1_0))).bind fun z115 => ((some (wrap64 (a0_3 * a1_2))).bind fun z116 => ((some (wrap64 (z115 + z116))).bind fun z117 => ((some (wrap64 (a0_2 * a1_1))).bind fun z118 => ((some (wrap64 (a0_3 * a1_3))).bind fun z119 => ((some (wrap64 (z118 + z119))).bind fun z120 => (some (z111, z114, z117, z120)))))))))))))
set_option maxHeartbeats 8000000 in
set_option maxRecDepth 100000 in
theorem grids_times.calls (a0_0 : Int) (a0_1 : Int) (a0_2 : Int) (a0_3 : Int) (a1_0 : Int) (a1_1 : Int) (a1_2 : Int) (a1_3 : Int) (r1 : Int) (r2 : Int) (r3 : Int) (r4 : Int) (w : World) (h : grids_times.f a0_0 a0_1 a0_2 a0_3 a1_0 a1_1 a1_2 a1_3 = some (r1, r2, r3, r4)) :
    Calls Try.prog 40 #[.agg #[.int .i64 a0_0, .int .i64 a0_1, .int .i64 a0_2, .int .i64 a0_3], .agg #[.int .i64 a1_0, .int .i64 a1_1, .int .i64 a1_2, .int .i64 a1_3]] w fun e w' => e = .returned (.agg #[.int .i64 r1, .int .i64 r2, .int .i64 r3, .int .i64 r4]) ∧ Below w.heap.size w w' := by
  have hu25 := Try.underlying25
  have HB := Aside0.mk (Below.refl w.heap.size w)
  have H : ((some (wrap64 (a0_0 * a1_0))).bind fun z109 => ((some (wrap64 (a0_1 * a1_2))).bind fun z110 => ((some (wrap64 (z109 + z110))).bind fun z111 => ((some (wrap64 (a0_0 * a1_1))).bind fun z112 => ((some (wrap64 (a0_1 * a1_3))).bind fun z113 => ((some (wrap64 (z112 + z113))).bind fun z114 => ((some (wrap64 (a0_2 * a1_0))).bind fun z115 => ((some (wrap64 (a0_3 * a1_2))).bind fun z116 => ((some (wrap64 (z115 + z116))).bind fun z117 => ((some (wrap64 (a0_2 * a1_1))).bind fun z118 => ((some (wrap64 (a0_3 * a1_3))).bind fun z119 => ((some (wrap64 (z118 + z119))).bind fun z120 => (some (z111, z114, z117, z120)))))))))))))) = some (r1, r2, r3, r4) := h
  clear h
  replace H := Option.bind_eq_some_iff.mp H
  obtain ⟨z109, E30, H⟩ := H
  replace H : ((some (wrap64 (a0_1 * a1_2))).bind fun z110 => ((some (wrap64 (z109 + z110))).bind fun z111 => ((some (wrap64 (a0_0 * a1_1))).bind fun z112 => ((some (wrap64 (a0_1 * a1_3))).bind fun z113 => ((some (wrap64 (z112 + z113))).bind fun z114 => ((some (wrap64 (a0_2 * a1_0))).bind fun z115 => ((some (wrap64 (a0_3 * a1_2))).bind fun z116 => ((some (wrap64 (z115 + z116))).bind fun z117 => ((some (wrap64 (a0_2 * a1_1))).bind fun z118 => ((some (wrap64 (a0_3 * a1_3))).bind fun z119 => ((some (wrap64 (z118 + z119))).bind fun z120 => (some (z111, z114, z117, z120))))))))))))) = some (r1, r2, r3, r4) := H
  replace E30 := Option.some.inj E30
  have E3w : (IntKind.i64.wrap (a0_0 * a1_0)) = z109 := (i64_w _).trans E30
  replace H := Option.bind_eq_some_iff.mp H
  obtain ⟨z110, E40, H⟩ := H
  replace H : ((some (wrap64 (z109 + z110))).bind fun z111 => ((some (wrap64 (a0_0 * a1_1))).bind fun z112 => ((some (wrap64 (a0_1 * a1_3))).bind fun z113 => ((some (wrap64 (z112 + z113))).bind fun z114 => ((some (wrap64 (a0_2 * a1_0))).bind fun z115 => ((some (wrap64 (a0_3 * a1_2))).bind fun z116 => ((some (wrap64 (z115 + z116))).bind fun z117 => ((some (wrap64 (a0_2 * a1_1))).bind fun z118 => ((some (wrap64 (a0_3 * a1_3))).bind fun z119 => ((some (wrap64 (z118 + z119))).bind fun z120 => (some (z111, z114, z117, z120)))))))))))) = some (r1, r2, r3, r4) := H
  replace E40 := Option.some.inj E40
  have E4w : (IntKind.i64.wrap (a0_1 * a1_2)) = z110 := (i64_w _).trans E40
  replace H := Option.bind_eq_some_iff.mp H
  obtain ⟨z111, E50, H⟩ := H
  replace H : ((some (wrap64 (a0_0 * a1_1))).bind fun z112 => ((some (wrap64 (a0_1 * a1_3))).bind fun z113 => ((some (wrap64 (z112 + z113))).bind fun z114 => ((some (wrap64 (a0_2 * a1_0))).bind fun z115 => ((some (wrap64 (a0_3 * a1_2))).bind fun z116 => ((some (wrap64 (z115 + z116))).bind fun z117 => ((some (wrap64 (a0_2 * a1_1))).bind fun z118 => ((some (wrap64 (a0_3 * a1_3))).bind fun z119 => ((some (wrap64 (z118 + z119))).bind fun z120 => (some (z111, z114, z117, z120))))))))))) = some (r1, r2, r3, r4) := H
  replace E50 := Option.some.inj E50
  have E5w : (IntKind.i64.wrap (z109 + z110)) = z111 := (i64_w _).trans E50
  replace H := Option.bind_eq_some_iff.mp H
  obtain ⟨z112, E60, H⟩ := H
  replace H : ((some (wrap64 (a0_1 * a1_3))).bind fun z113 => ((some (wrap64 (z112 + z113))).bind fun z114 => ((some (wrap64 (a0_2 * a1_0))).bind fun z115 => ((some (wrap64 (a0_3 * a1_2))).bind fun z116 => ((some (wrap64 (z115 + z116))).bind fun z117 => ((some (wrap64 (a0_2 * a1_1))).bind fun z118 => ((some (wrap64 (a0_3 * a1_3))).bind fun z119 => ((some (wrap64 (z118 + z119))).bind fun z120 => (some (z111, z114, z117, z120)))))))))) = some (r1, r2, r3, r4) := H
  replace E60 := Option.some.inj E60
  have E6w : (IntKind.i64.wrap (a0_0 * a1_1)) = z112 := (i64_w _).trans E60
  replace H := Option.bind_eq_some_iff.mp H
  obtain ⟨z113, E70, H⟩ := H
  replace H : ((some (wrap64 (z112 + z113))).bind fun z114 => ((some (wrap64 (a0_2 * a1_0))).bind fun z115 => ((some (wrap64 (a0_3 * a1_2))).bind fun z116 => ((some (wrap64 (z115 + z116))).bind fun z117 => ((some (wrap64 (a0_2 * a1_1))).bind fun z118 => ((some (wrap64 (a0_3 * a1_3))).bind fun z119 => ((some (wrap64 (z118 + z119))).bind fun z120 => (some (z111, z114, z117, z120))))))))) = some (r1, r2, r3, r4) := H
  replace E70 := Option.some.inj E70
  have E7w : (IntKind.i64.wrap (a0_1 * a1_3)) = z113 := (i64_w _).trans E70
  replace H := Option.bind_eq_some_iff.mp H
  obtain ⟨z114, E80, H⟩ := H
  replace H : ((some (wrap64 (a0_2 * a1_0))).bind fun z115 => ((some (wrap64 (a0_3 * a1_2))).bind fun z116 => ((some (wrap64 (z115 + z116))).bind fun z117 => ((some (wrap64 (a0_2 * a1_1))).bind fun z118 => ((some (wrap64 (a0_3 * a1_3))).bind fun z119 => ((some (wrap64 (z118 + z119))).bind fun z120 => (some (z111, z114, z117, z120)))))))) = some (r1, r2, r3, r4) := H
  replace E80 := Option.some.inj E80
  have E8w : (IntKind.i64.wrap (z112 + z113)) = z114 := (i64_w _).trans E80
  replace H := Option.bind_eq_some_iff.mp H
  obtain ⟨z115, E90, H⟩ := H
  replace H : ((some (wrap64 (a0_3 * a1_2))).bind fun z116 => ((some (wrap64 (z115 + z116))).bind fun z117 => ((some (wrap64 (a0_2 * a1_1))).bind fun z118 => ((some (wrap64 (a0_3 * a1_3))).bind fun z119 => ((some (wrap64 (z118 + z119))).bind fun z120 => (some (z111, z114, z117, z120))))))) = some (r1, r2, r3, r4) := H
  replace E90 := Option.some.inj E90
  have E9w : (IntKind.i64.wrap (a0_2 * a1_0)) = z115 := (i64_w _).trans E90
  replace H := Option.bind_eq_some_iff.mp H
  obtain ⟨z116, E100, H⟩ := H
  replace H : ((some (wrap64 (z115 + z116))).bind fun z117 => ((some (wrap64 (a0_2 * a1_1))).bind fun z118 => ((some (wrap64 (a0_3 * a1_3))).bind fun z119 => ((some (wrap64 (z118 + z119))).bind fun z120 => (some (z111, z114, z117, z120)))))) = some (r1, r2, r3, r4) := H
  replace E100 := Option.some.inj E100
  have E10w : (IntKind.i64.wrap (a0_3 * a1_2)) = z116 := (i64_w _).trans E100
  replace H := Option.bind_eq_some_iff.mp H
  obtain ⟨z117, E110, H⟩ := H
  replace H : ((some (wrap64 (a0_2 * a1_1))).bind fun z118 => ((some (wrap64 (a0_3 * a1_3))).bind fun z119 => ((some (wrap64 (z118 + z119))).bind fun z120 => (some (z111, z114, z117, z120))))) = some (r1, r2, r3, r4) := H
  replace E110 := Option.some.inj E110
  have E11w : (IntKind.i64.wrap (z115 + z116)) = z117 := (i64_w _).trans E110
  replace H := Option.bind_eq_some_iff.mp H
  obtain ⟨z118, E120, H⟩ := H
  replace H : ((some (wrap64 (a0_3 * a1_3))).bind fun z119 => ((some (wrap64 (z118 + z119))).bind fun z120 => (some (z111, z114, z117, z120)))) = some (r1, r2, r3, r4) := H
  replace E120 := Option.some.inj E120
  have E12w : (IntKind.i64.wrap (a0_2 * a1_1)) = z118 := (i64_w _).trans E120
  replace H := Option.bind_eq_some_iff.mp H
  obtain ⟨z119, E130, H⟩ := H
  replace H : ((some (wrap64 (z118 + z119))).bind fun z120 => (some (z111, z114, z117, z120))) = some (r1, r2, r3, r4) := H
  replace E130 := Option.some.inj E130
  have E13w : (IntKind.i64.wrap (a0_3 * a1_3)) = z119 := (i64_w _).trans E130
  replace H := Option.bind_eq_some_iff.mp H
  obtain ⟨z120, E140, H⟩ := H
  replace H : (some (z111, z114, z117, z120)) = some (r1, r2, r3, r4) := H
  replace E140 := Option.some.inj E140
  have E14w : (IntKind.i64.wrap (z118 + z119)) = z120 := (i64_w _).trans E140
  simp only [Option.some.injEq, Prod.mk.injEq] at H
  obtain ⟨rfl, rfl, rfl, rfl⟩ := H
  go_enter Try.func40, Try.ntmps40
  go_wp2_with (first | ((with_reducible refine gate_dst (N := 2) rfl ?_); refine box_event ?hg (N := 2) ?hd (cs := #[.int .i64 a0_0, .int .i64 a0_1, .int .i64 a0_2, .int .i64 a0_3]) (t := 25) ?hr ?_; (case hd => rfl); (case hg => rfl); (case hr => first | (go_simp; done) | (go_simp; rfl)); intro gb106 hg w15 hbox hb; have BK106 := Aside0.mk (hbox); have GW106 := Aside0.mk ((by rw [hg]; exact (below_size (bnow HB)) : w.heap.size ≤ gb106)); have GE106 := Aside0.mk ((by rw [hg]; exact (below_size (bnow HB)) : w.heap.size ≤ gb106)); replace HB := bst HB hb; clear hb hbox hg) | ((with_reducible refine gate_dst (N := 3) rfl ?_); refine box_event ?hg (N := 3) ?hd (cs := #[.int .i64 a1_0, .int .i64 a1_1, .int .i64 a1_2, .int .i64 a1_3]) (t := 25) ?hr ?_; (case hd => rfl); (case hg => rfl); (case hr => first | (go_simp; done) | (go_simp; rfl)); intro gb107 hg w16 hbox hb; have BK107 := Aside0.mk (hbox); have GW107 := Aside0.mk ((by rw [hg]; exact (below_size (bnow HB)) : w.heap.size ≤ gb107)); have GE107 := Aside0.mk ((by rw [hg]; exact (below_size (bnow HB)) : w.heap.size ≤ gb107)); have NB106_107 := Aside0.mk ((by rw [hg]; exact Nat.ne_of_lt (blk_lt (g := gb106) (o := .cells #[.int .i64 a0_0, .int .i64 a0_1, .int .i64 a0_2, .int .i64 a0_3] 25 (0, 0)) (pk BK106)) : gb106 ≠ gb107)); have NB107_106 := Aside0.mk ((by rw [hg]; exact Nat.ne_of_gt (blk_lt (g := gb106) (o := .cells #[.int .i64 a0_0, .int .i64 a0_1, .int .i64 a0_2, .int .i64 a0_3] 25 (0, 0)) (pk BK106)) : gb107 ≠ gb106)); replace BK106 := bb BK106 hb; replace HB := bst HB hb; clear hb hbox hg) | ((with_reducible refine gate_dst (N := 4) rfl ?_); refine box_event ?hg (N := 4) ?hd (cs := #[.int .i64 0, .int .i64 0, .int .i64 0, .int .i64 0]) (t := 25) ?hr ?_; (case hd => rfl); (case hg => rfl); (case hr => first | (go_simp; done) | (go_simp; rfl)); intro gb108 hg w17 hbox hb; have BK108 := Aside0.mk (hbox); have GW108 := Aside0.mk ((by rw [hg]; exact (below_size (bnow HB)) : w.heap.size ≤ gb108)); have GE108 := Aside0.mk ((by rw [hg]; exact (below_size (bnow HB)) : w.heap.size ≤ gb108)); have NB106_108 := Aside0.mk ((by rw [hg]; exact Nat.ne_of_lt (blk_lt (g := gb106) (o := .cells #[.int .i64 a0_0, .int .i64 a0_1, .int .i64 a0_2, .int .i64 a0_3] 25 (0, 0)) (pk BK106)) : gb106 ≠ gb108)); have NB108_106 := Aside0.mk ((by rw [hg]; exact Nat.ne_of_gt (blk_lt (g := gb106) (o := .cells #[.int .i64 a0_0, .int .i64 a0_1, .int .i64 a0_2, .int .i64 a0_3] 25 (0, 0)) (pk BK106)) : gb108 ≠ gb106)); have NB107_108 := Aside0.mk ((by rw [hg]; exact Nat.ne_of_lt (blk_lt (g := gb107) (o := .cells #[.int .i64 a1_0, .int .i64 a1_1, .int .i64 a1_2, .int .i64 a1_3] 25 (0, 0)) (pk BK107)) : gb107 ≠ gb108)); have NB108_107 := Aside0.mk ((by rw [hg]; exact Nat.ne_of_gt (blk_lt (g := gb107) (o := .cells #[.int .i64 a1_0, .int .i64 a1_1, .int .i64 a1_2, .int .i64 a1_3] 25 (0, 0)) (pk BK107)) : gb108 ≠ gb107)); replace BK106 := bb BK106 hb; replace BK107 := bb BK107 hb; replace HB := bst HB hb; clear hb hbox hg; have hnb18 := NB106_107.out; have hnc18 := NB107_106.out; have hnb19 := NB106_108.out; have hnc19 := NB108_106.out; have hcz20_0 : w17.cell? ⟨gb106, 0, none⟩ = some (.int .i64 a0_0) := (blk_cell BK106.out 0).trans rfl; have hcz20_1 : w17.cell? ⟨gb106, 1, none⟩ = some (.int .i64 a0_1) := (blk_cell BK106.out 1).trans rfl; have hcz20_2 : w17.cell? ⟨gb106, 2, none⟩ = some (.int .i64 a0_2) := (blk_cell BK106.out 2).trans rfl; have hcz20_3 : w17.cell? ⟨gb106, 3, none⟩ = some (.int .i64 a0_3) := (blk_cell BK106.out 3).trans rfl; have hfz20_0 := blk_frozen BK106.out 0; have hfz20_1 := blk_frozen BK106.out 1; have hfz20_2 := blk_frozen BK106.out 2; have hfz20_3 := blk_frozen BK106.out 3; have hnb21 := NB107_108.out; have hnc21 := NB108_107.out; have hcz22_0 : w17.cell? ⟨gb107, 0, none⟩ = some (.int .i64 a1_0) := (blk_cell BK107.out 0).trans rfl; have hcz22_1 : w17.cell? ⟨gb107, 1, none⟩ = some (.int .i64 a1_1) := (blk_cell BK107.out 1).trans rfl; have hcz22_2 : w17.cell? ⟨gb107, 2, none⟩ = some (.int .i64 a1_2) := (blk_cell BK107.out 2).trans rfl; have hcz22_3 : w17.cell? ⟨gb107, 3, none⟩ = some (.int .i64 a1_3) := (blk_cell BK107.out 3).trans rfl; have hfz22_0 := blk_frozen BK107.out 0; have hfz22_1 := blk_frozen BK107.out 1; have hfz22_2 := blk_frozen BK107.out 2; have hfz22_3 := blk_frozen BK107.out 3; have hcz23_0 : w17.cell? ⟨gb108, 0, none⟩ = some (.int .i64 0) := (blk_cell BK108.out 0).trans rfl; have hcz23_1 : w17.cell? ⟨gb108, 1, none⟩ = some (.int .i64 0) := (blk_cell BK108.out 1).trans rfl; have hcz23_2 : w17.cell? ⟨gb108, 2, none⟩ = some (.int .i64 0) := (blk_cell BK108.out 2).trans rfl; have hcz23_3 : w17.cell? ⟨gb108, 3, none⟩ = some (.int .i64 0) := (blk_cell BK108.out 3).trans rfl; have hfz23_0 := blk_frozen BK108.out 0; have hfz23_1 := blk_frozen BK108.out 1; have hfz23_2 := blk_frozen BK108.out 2; have hfz23_3 := blk_frozen BK108.out 3) | ((with_reducible refine gate_store (t := 25) (p := 4) rfl ?_); refine store_event (t := 25) (p := 4) (v := ?vo_w24) (w1 := ((((w17.setCell ⟨gb108, 0, none⟩ (.int .i64 z111)).setCell ⟨gb108, 1, none⟩ (.int .i64 z114)).setCell ⟨gb108, 2, none⟩ (.int .i64 z117)).setCell ⟨gb108, 3, none⟩ (.int .i64 z120))) ?hg ?ho ?hn ?hr ?_; (case ho => rfl); (case hg => rfl); (case hn => rfl); (case hr => first | (go_simp; done) | (go_simp; rfl)); intro w24 hw; have n0_ : Aside0 (w24.heap[gb106]? = some (.cells #[.int .i64 a0_0, .int .i64 a0_1, .int .i64 a0_2, .int .i64 a0_3] 25 (0, 0))) := ⟨(by rw [hw]; exact (by (with_reducible repeat (first | refine blk_drewN ?_ _ | refine blk_drew ?_ | refine blk_alloc ?_ _)); refine blk_far ?_ NB106_108.out _; (with_reducible repeat (first | refine blk_drewN ?_ _ | refine blk_drew ?_ | refine blk_alloc ?_ _)); refine blk_far ?_ NB106_108.out _; (with_reducible repeat (first | refine blk_drewN ?_ _ | refine blk_drew ?_ | refine blk_alloc ?_ _)); refine blk_far ?_ NB106_108.out _; (with_reducible repeat (first | refine blk_drewN ?_ _ | refine blk_drew ?_ | refine blk_alloc ?_ _)); refine blk_far ?_ NB106_108.out _; (with_reducible repeat (first | refine blk_drewN ?_ _ | refine blk_drew ?_ | refine blk_alloc ?_ _)); exact BK106.out))⟩; have n1_ : Aside0 (w24.heap[gb107]? = some (.cells #[.int .i64 a1_0, .int .i64 a1_1, .int .i64 a1_2, .int .i64 a1_3] 25 (0, 0))) := ⟨(by rw [hw]; exact (by (with_reducible repeat (first | refine blk_drewN ?_ _ | refine blk_drew ?_ | refine blk_alloc ?_ _)); refine blk_far ?_ NB107_108.out _; (with_reducible repeat (first | refine blk_drewN ?_ _ | refine blk_drew ?_ | refine blk_alloc ?_ _)); refine blk_far ?_ NB107_108.out _; (with_reducible repeat (first | refine blk_drewN ?_ _ | refine blk_drew ?_ | refine blk_alloc ?_ _)); refine blk_far ?_ NB107_108.out _; (with_reducible repeat (first | refine blk_drewN ?_ _ | refine blk_drew ?_ | refine blk_alloc ?_ _)); refine blk_far ?_ NB107_108.out _; (with_reducible repeat (first | refine blk_drewN ?_ _ | refine blk_drew ?_ | refine blk_alloc ?_ _)); exact BK107.out))⟩; have n2_ : Aside0 (w24.heap[gb108]? = some (.cells #[.int .i64 z111, .int .i64 z114, .int .i64 z117, .int .i64 z120] 25 (0, 0))) := ⟨(by rw [hw]; exact (by (with_reducible repeat (first | refine blk_drewN ?_ _ | refine blk_drew ?_ | refine blk_alloc ?_ _)); refine blk_put (cs := #[.int .i64 z111, .int .i64 z114, .int .i64 z117, .int .i64 0]) ?_ 3 _ rfl; (with_reducible repeat (first | refine blk_drewN ?_ _ | refine blk_drew ?_ | refine blk_alloc ?_ _)); refine blk_put (cs := #[.int .i64 z111, .int .i64 z114, .int .i64 0, .int .i64 0]) ?_ 2 _ rfl; (with_reducible repeat (first | refine blk_drewN ?_ _ | refine blk_drew ?_ | refine blk_alloc ?_ _)); refine blk_put (cs := #[.int .i64 z111, .int .i64 0, .int .i64 0, .int .i64 0]) ?_ 1 _ rfl; (with_reducible repeat (first | refine blk_drewN ?_ _ | refine blk_drew ?_ | refine blk_alloc ?_ _)); refine blk_put (cs := #[.int .i64 0, .int .i64 0, .int .i64 0, .int .i64 0]) ?_ 0 _ rfl; (with_reducible repeat (first | refine blk_drewN ?_ _ | refine blk_drew ?_ | refine blk_alloc ?_ _)); exact BK108.out))⟩; have n3_ : Aside0 (Below w.heap.size w w24) := ⟨(by rw [hw]; exact (bnow HB))⟩; clear hw; clear BK106; clear BK107; clear BK108; clear HB; have BK106 := n0_; have BK107 := n1_; have BK108 := n2_; have HB := n3_; clear n0_ n1_ n2_ n3_))
  refine bodyPost_ret (results_cell_row rfl _ _ gb108 25 #[.int .i64 z111, .int .i64 z114, .int .i64 z117, .int .i64 z120] (0, 0) _ rfl (pk BK108) Try.underlying25 rfl (by kernel_rfl)) rfl ?_
  exact ⟨by first | rfl | (simp [errW_none, errW_some] <;> rfl) | (simp [*, errW_none, errW_some] <;> rfl), by repeat (first | (with_reducible first | exact HB.out | apply below_alloc | apply pw_below_drewN | apply below_drew1 | refine below_set ?_ GE106.out | refine below_set ?_ GE107.out | refine below_set ?_ GE108.out) | exact HB.out)⟩
end
section
/-! ### grids_floor: function 71 -/
def grids_floor.f (a0 : Int) (a1 : Int) : Option (Int) := if a1 = 0 then (none) else ((some (wrap64 (Int.tdiv a0 a1))).bind fun z121 => ((some (Int.tmod a0 a1)).bind fun z122 => (if z122 = 0 then (some z121) else (if ((decide (a0 < 0)) != (decide (a1 < 0))) = true then ((some (wrap64 (z121 - 1))).bind fun z123 => (some z123)) else (some z121)))))
set_option maxHeartbeats 8000000 in
set_option maxRecDepth 100000 in
theorem grids_floor.calls (a0 : Int) (a1 : Int) (r : Int) (w : World) (h : grids_floor.f a0 a1 = some r) :
    Calls Try.prog 71 #[.int .i64 a0, .int .i64 a1] w fun e w' => e = .returned (.int .i64 r) ∧ Drawn0 w w' := by
  have H : (if a1 = 0 then (none) else ((some (wrap64 (Int.tdiv a0 a1))).bind fun z121 => ((some (Int.tmod a0 a1)).bind fun z122 => (if z122 = 0 then (some z121) else (if ((decide (a0 < 0)) != (decide (a1 < 0))) = true then ((some (wrap64 (z121 - 1))).bind fun z123 => (some z123)) else (some z121)))))) = some r := h
  clear h
  by_cases c3 : a1 = 0
  · rw [if_pos c3] at H
    exact absurd H (by simp)
  · rw [if_neg c3] at H
    have c3b0 : (a1 == 0) = false := beq_eq_false_iff_ne.mpr c3
    have c3b1 : (a1 != 0) = true := bne_iff_ne.mpr c3
    replace H := Option.bind_eq_some_iff.mp H
    obtain ⟨z121, E40, H⟩ := H
    replace H : ((some (Int.tmod a0 a1)).bind fun z122 => (if z122 = 0 then (some z121) else (if ((decide (a0 < 0)) != (decide (a1 < 0))) = true then ((some (wrap64 (z121 - 1))).bind fun z123 => (some z123)) else (some z121)))) = some r := H
    replace E40 := Option.some.inj E40
    have E4w : (IntKind.i64.wrap (Int.tdiv a0 a1)) = z121 := (i64_w _).trans E40
    replace H := Option.bind_eq_some_iff.mp H
    obtain ⟨z122, E50, H⟩ := H
    replace H : (if z122 = 0 then (some z121) else (if ((decide (a0 < 0)) != (decide (a1 < 0))) = true then ((some (wrap64 (z121 - 1))).bind fun z123 => (some z123)) else (some z121))) = some r := H
    replace E50 := Option.some.inj E50
    by_cases c6 : z122 = 0
    · rw [if_pos c6] at H
      have c6b0 : (z122 == 0) = true := beq_iff_eq.mpr c6
      have c6b1 : (z122 != 0) = false := bne_eq_false_iff_eq.mpr c6
      clear c6
      obtain rfl := Option.some.inj H
      go_enter Try.func71, Try.ntmps71
      go_wp2
      go_ret
      exact ⟨by first | rfl | (simp; done) | (simp [*]; done), by repeat (first | exact Drawn0.refl _ | apply Drawn0.step)⟩
    · rw [if_neg c6] at H
      have c6b0 : (z122 == 0) = false := beq_eq_false_iff_ne.mpr c6
      have c6b1 : (z122 != 0) = true := bne_iff_ne.mpr c6
      by_cases c7 : ((decide (a0 < 0)) != (decide (a1 < 0))) = true
      · rw [if_pos c7] at H
        have c7b0 : ((decide (a0 < 0)) != (decide (a1 < 0))) = true := c7
        (try (have c7b1 : decide ((decide (a0 < 0)) = (decide (a1 < 0))) = false := by simpa using c7))
        (try (have c7b2 : ((decide (a0 < 0)) == (decide (a1 < 0))) = false := by simpa using c7))
        (try (have c7b3 : ¬ ((decide (a0 < 0)) = (decide (a1 < 0))) := by simpa using c7))
        clear c7
        replace H := Option.bind_eq_some_iff.mp H
        obtain ⟨z123, E80, H⟩ := H
        replace H : (some z123) = some r := H
        replace E80 := Option.some.inj E80
        have E8w : (IntKind.i64.wrap (z121 - 1)) = z123 := (i64_w _).trans E80
        obtain rfl := Option.some.inj H
        go_enter Try.func71, Try.ntmps71
        go_wp2
        go_ret
        exact ⟨by first | rfl | (simp; done) | (simp [*]; done), by repeat (first | exact Drawn0.refl _ | apply Drawn0.step)⟩
      · rw [if_neg c7] at H
        have c7b0 : ((decide (a0 < 0)) != (decide (a1 < 0))) = false := by simpa using c7
        (try (have c7b1 : decide ((decide (a0 < 0)) = (decide (a1 < 0))) = true := by simpa using c7))
        (try (have c7b2 : ((decide (a0 < 0)) == (decide (a1 < 0))) = true := by simpa using c7))
        clear c7
        obtain rfl := Option.some.inj H
        go_enter Try.func71, Try.ntmps71
        go_wp2
        go_ret
        exact ⟨by first | rfl | (simp; done) | (simp [*]; done), by repeat (first | exact Drawn0.refl _ | apply Drawn0.step)⟩
end
end Go.Proofs.Ytmcajdepoohlhaa.G
