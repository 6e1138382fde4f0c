/- The law GridsMoves, for every input: its row, out of the walk and the pure statement. No condition. -/
import Derived.Test.YtmcajdepoohlhaaRows
import Derived.Test.YtmcajdepoohlhaaCMovesP3
import Derived.Test.YtmcajdepoohlhaaCMovesOpen
import Derived.Test.YtmcajdepoohlhaaCMovesPureMoves
import Derived.WalkKit
import Derived.ProofKit
import Derived.OpenShut
import Derived.ShutString
import Derived.ChangeOld
import Derived.Below
import Derived.SizedLaws
namespace Go.Proofs.Ytmcajdepoohlhaa.gridsMoves
open Go.ChangeShapes Go.WideShapes Go.ChangeAt Go.RowKit Go.Proofs.Ytmcajdepoohlhaa.Open
open Go.ChangeMaps (open_string shut_string)
set_option linter.unusedVariables false
theorem own : ownKnob Try.prog.godebug = none := by kernel_rfl
theorem laidOut : laidOutB Try.prog = true := by kernel_rfl
theorem flat2 : Flat Try.prog 2 1 := Flat.int Try.underlying2 (by kernel_rfl)
theorem flat25 : Flat Try.prog 25 4 := by
  refine Flat.struct Try.underlying25 (by kernel_rfl) ?_ (by kernel_rfl)
  intro f hf
  simp only [List.mem_toArray, List.mem_cons, List.not_mem_nil, or_false] at hf
  rcases hf with rfl | rfl | rfl | rfl
  · exact ⟨_, flat2⟩
  · exact ⟨_, flat2⟩
  · exact ⟨_, flat2⟩
  · exact ⟨_, flat2⟩
theorem flat37 : Flat Try.prog 37 2 := by
  refine Flat.struct Try.underlying37 (by kernel_rfl) ?_ (by kernel_rfl)
  intro f hf
  simp only [List.mem_toArray, List.mem_cons, List.not_mem_nil, or_false] at hf
  rcases hf with rfl | rfl
  · exact ⟨_, flat2⟩
  · exact ⟨_, flat2⟩
theorem flat55 : Flat Try.prog 55 6 := by
  refine Flat.struct Try.underlying55 (by kernel_rfl) ?_ (by kernel_rfl)
  intro f hf
  simp only [List.mem_toArray, List.mem_cons, List.not_mem_nil, or_false] at hf
  rcases hf with rfl | rfl
  · exact ⟨_, flat25⟩
  · exact ⟨_, flat37⟩
theorem lst2 (f : List Int) (h : f.length = 2) : ∃ x0 x1, f = [x0, x1] := by
  match f, h with
  | [x0, x1], _ => exact ⟨_, _, rfl⟩
theorem lst6 (f : List Int) (h : f.length = 6) : ∃ x0 x1 x2 x3 x4 x5, f = [x0, x1, x2, x3, x4, x5] := by
  match f, h with
  | [x0, x1, x2, x3, x4, x5], _ => exact ⟨_, _, _, _, _, _, rfl⟩
set_option maxRecDepth 100000 in
theorem lifted (os : Os) (started : os.Started) (H : Type) (enc : TypeId × Value → H) :
    ReturnsInHanded {} Try.checked os 8 .any (Rows.gridsMovesSpec.pre6 enc Try.prog Try.f8 Rows.gridsMovesRow.domain false) (Rows.gridsMovesSpec.post enc Try.prog Try.f8 false true false false) := by
  refine returnsInHanded_of_change_sized (C := Try.checked) own started (by kernel_rfl) Try.func8
    (ChangeSpec.witness6 (enc := enc) (C := Try.checked) false ⟨#[], #[.agg #[.int .i64 0, .int .i64 0, .int .i64 0, .int .i64 0, .int .i64 0, .int .i64 0], .agg #[.int .i64 0, .int .i64 0, .int .i64 0, .int .i64 0, .int .i64 0, .int .i64 0], .agg #[.int .i64 0, .int .i64 0]], []⟩ 8 (by kernel_rfl) (by kernel_rfl) (by kernel_rfl) (by kernel_rfl)) ?_
  intro W base args ds gs before hval0 hW hcnd hsz0 _
  have hval : ∀ (j : Nat) t v, Try.f8.params[j]? = some t → args[j]? = some v → Value.okWide Try.prog W .any base t v := hval0
  have hW' := hW
  obtain ⟨p, q, hA0, hV, rfl, hfz, hnd⟩ := hW
  have hA : DataW.TrodAll enc Try.prog W 0 (fun _ => true) true Try.f8.params.toList args.toList ds p := hA0
  rw [Try.params8] at hA hval
  obtain ⟨v0, vs0, d0, ds0, p0, q0, hargs, rfl, rfl, h0, r0⟩ := trodAll_cons hA
  obtain ⟨v1, vs1, d1, ds1, p1, q1, rfl, rfl, rfl, h1, r1⟩ := trodAll_cons r0
  obtain ⟨v2, vs2, d2, ds2, p2, q2, rfl, rfl, rfl, h2, r2⟩ := trodAll_cons r1
  obtain ⟨rfl, rfl, rfl⟩ := trodAll_nil r2
  obtain rfl : args = #[v0, v1, v2] := by cases args; simp_all
  obtain ⟨rfl, rfl⟩ := trodVars_none hV
  have k0 := h0
  have lt0 : ∀ x ∈ p0, x.block < W.heap.size := by obtain ⟨m, hm⟩ := k0; exact DataW.trod_lt m _ _ _ hm
  obtain ⟨f0, fl0, rfl, w0⟩ := open_flat Try.underlying55 flat55 (hval 0 55 v0 rfl rfl) h0
  obtain ⟨a0_0, a0_1, a0_2, a0_3, a0_4, a0_5, rfl⟩ : ∃ a0_0 a0_1 a0_2 a0_3 a0_4 a0_5, f0 = [a0_0, a0_1, a0_2, a0_3, a0_4, a0_5] := lst6 f0 fl0
  have k1 := h1
  have lt1 : ∀ x ∈ p1, x.block < W.heap.size := by obtain ⟨m, hm⟩ := k1; exact DataW.trod_lt m _ _ _ hm
  obtain ⟨f1, fl1, rfl, w1⟩ := open_flat Try.underlying55 flat55 (hval 1 55 v1 rfl rfl) h1
  obtain ⟨a1_0, a1_1, a1_2, a1_3, a1_4, a1_5, rfl⟩ : ∃ a1_0 a1_1 a1_2 a1_3 a1_4 a1_5, f1 = [a1_0, a1_1, a1_2, a1_3, a1_4, a1_5] := lst6 f1 fl1
  have k2 := h2
  have lt2 : ∀ x ∈ p2, x.block < W.heap.size := by obtain ⟨m, hm⟩ := k2; exact DataW.trod_lt m _ _ _ hm
  obtain ⟨f2, fl2, rfl, w2⟩ := open_flat Try.underlying37 flat37 (hval 2 37 v2 rfl rfl) h2
  obtain ⟨a2_0, a2_1, rfl⟩ : ∃ a2_0 a2_1, f2 = [a2_0, a2_1] := lst2 f2 fl2
  clear hA0 hval0 hsz0
  obtain ⟨k, hk⟩ := Pure.GridsMoves a0_0 a0_1 a0_2 a0_3 a0_4 a0_5 a1_0 a1_1 a1_2 a1_3 a1_4 a1_5 a2_0 a2_1 w0 w1 w2
  simp only [List.map_cons, List.map_nil]
  refine (G.torchonlaw06_GridsMoves.calls k a0_0 a0_1 a0_2 a0_3 a0_4 a0_5 a1_0 a1_1 a1_2 a1_3 a1_4 a1_5 a2_0 a2_1 true W hk).mono fun e W' ⟨he, bel⟩ => ?_
  subst he
  exact ⟨_, rfl, _, _, _, [], _, [], hW', trodAll_mk1 (shut_bool Try.underlying4 _), (trodAll_cons_mk (Below.trod laidOut (by kernel_rfl) (of_decide_eq_true (by kernel_rfl)) k0 bel lt0) (trodAll_cons_mk (Below.trod laidOut (by kernel_rfl) (of_decide_eq_true (by kernel_rfl)) k1 bel lt1) (trodAll_cons_mk (Below.trod laidOut (by kernel_rfl) (of_decide_eq_true (by kernel_rfl)) k2 bel lt2) trodAll_mk0))), rfl, bel.frame _, fun h => by cases h⟩
theorem over : Rows.gridsMovesRow.holds Try.pinned (OpenSpec.ofChange Rows.gridsMovesSpec) :=
  OpenClaim.holds_of_wide 8 Try.f8 rfl rfl rfl rfl rfl rfl rfl ⟨rfl, rfl, rfl, rfl, rfl⟩ rfl rfl rfl rfl rfl (by kernel_rfl) Try.func8 (by kernel_rfl)
    (of_decide_eq_true (by kernel_rfl)) (by unfold Func.isWrapper; first | (rw [if_pos (by decide +kernel)]; kernel_rfl) | (rw [if_neg (by decide +kernel)]; exact ⟨rfl, rfl⟩))
    (fun os started H enc _ => lifted os started H enc)
theorem proved : Rows.GridsMovesSaid := over
#print axioms proved
end Go.Proofs.Ytmcajdepoohlhaa.gridsMoves
namespace Go.Proofs.Ytmcajdepoohlhaa
/-- The row, under a short name, for the claim. -/
theorem gridsMoves_holds : Rows.GridsMovesSaid := gridsMoves.proved
end Go.Proofs.Ytmcajdepoohlhaa
