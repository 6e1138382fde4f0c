/- The law GridsKeep, for every input: its row, out of the walk and the pure statement. No condition. -/
import Derived.Test.YtmcajdepoohlhaaRows
import Derived.Test.YtmcajdepoohlhaaCKeepP6
import Derived.Test.YtmcajdepoohlhaaCKeepOpen
import Derived.Test.YtmcajdepoohlhaaCKeepPureKeep
import Derived.WalkKit
import Derived.ProofKit
import Derived.OpenShut
import Derived.ShutString
import Derived.ChangeOld
import Derived.Below
import Derived.SizedLaws
namespace Go.Proofs.Ytmcajdepoohlhaa.gridsKeep
open Go.ChangeShapes Go.WideShapes Go.ChangeAt Go.RowKit Go.Proofs.Ytmcajdepoohlhaa.Open
open Go.ChangeMaps (open_string shut_string)
set_option linter.unusedVariables false
theorem own : ownKnob Try.prog.godebug = none := by kernel_rfl
theorem laidOut : laidOutB Try.prog = true := by kernel_rfl
theorem flat2 : Flat Try.prog 2 1 := Flat.int Try.underlying2 (by kernel_rfl)
theorem flat23 : Flat Try.prog 23 3 := by
  refine Flat.struct Try.underlying23 (by kernel_rfl) ?_ (by kernel_rfl)
  intro f hf
  simp only [List.mem_toArray, List.mem_cons, List.not_mem_nil, or_false] at hf
  rcases hf with rfl | rfl | rfl
  · exact ⟨_, flat2⟩
  · exact ⟨_, flat2⟩
  · exact ⟨_, flat2⟩
theorem flat37 : Flat Try.prog 37 2 := by
  refine Flat.struct Try.underlying37 (by kernel_rfl) ?_ (by kernel_rfl)
  intro f hf
  simp only [List.mem_toArray, List.mem_cons, List.not_mem_nil, or_false] at hf
  rcases hf with rfl | rfl
  · exact ⟨_, flat2⟩
  · exact ⟨_, flat2⟩
theorem flat39 : Flat Try.prog 39 8 := by
  refine Flat.struct Try.underlying39 (by kernel_rfl) ?_ (by kernel_rfl)
  intro f hf
  simp only [List.mem_toArray, List.mem_cons, List.not_mem_nil, or_false] at hf
  rcases hf with rfl | rfl | rfl | rfl
  · exact ⟨_, flat37⟩
  · exact ⟨_, flat37⟩
  · exact ⟨_, flat37⟩
  · exact ⟨_, flat37⟩
theorem flat25 : Flat Try.prog 25 4 := by
  refine Flat.struct Try.underlying25 (by kernel_rfl) ?_ (by kernel_rfl)
  intro f hf
  simp only [List.mem_toArray, List.mem_cons, List.not_mem_nil, or_false] at hf
  rcases hf with rfl | rfl | rfl | rfl
  · exact ⟨_, flat2⟩
  · exact ⟨_, flat2⟩
  · exact ⟨_, flat2⟩
  · exact ⟨_, flat2⟩
theorem lst3 (f : List Int) (h : f.length = 3) : ∃ x0 x1 x2, f = [x0, x1, x2] := by
  match f, h with
  | [x0, x1, x2], _ => exact ⟨_, _, _, rfl⟩
theorem lst4 (f : List Int) (h : f.length = 4) : ∃ x0 x1 x2 x3, f = [x0, x1, x2, x3] := by
  match f, h with
  | [x0, x1, x2, x3], _ => exact ⟨_, _, _, _, rfl⟩
theorem lst8 (f : List Int) (h : f.length = 8) : ∃ x0 x1 x2 x3 x4 x5 x6 x7, f = [x0, x1, x2, x3, x4, x5, x6, x7] := by
  match f, h with
  | [x0, x1, x2, x3, x4, x5, x6, x7], _ => exact ⟨_, _, _, _, _, _, _, _, rfl⟩
set_option maxRecDepth 100000 in
theorem lifted (os : Os) (started : os.Started) (H : Type) (enc : TypeId × Value → H) :
    ReturnsInHanded {} Try.checked os 9 .any (Rows.gridsKeepSpec.pre6 enc Try.prog Try.f9 Rows.gridsKeepRow.domain false) (Rows.gridsKeepSpec.post enc Try.prog Try.f9 false true false false) := by
  refine returnsInHanded_of_change_sized (C := Try.checked) own started (by kernel_rfl) Try.func9
    (ChangeSpec.witness6 (enc := enc) (C := Try.checked) false ⟨#[], #[.agg #[.int .i64 0, .int .i64 0, .int .i64 0], .agg #[.int .i64 0, .int .i64 0, .int .i64 0, .int .i64 0, .int .i64 0, .int .i64 0, .int .i64 0, .int .i64 0], .agg #[.int .i64 0, .int .i64 0, .int .i64 0, .int .i64 0]], []⟩ 8 (by kernel_rfl) (by kernel_rfl) (by kernel_rfl) (by kernel_rfl)) ?_
  intro W base args ds gs before hval0 hW hcnd hsz0 _
  have hval : ∀ (j : Nat) t v, Try.f9.params[j]? = some t → args[j]? = some v → Value.okWide Try.prog W .any base t v := hval0
  have hW' := hW
  obtain ⟨p, q, hA0, hV, rfl, hfz, hnd⟩ := hW
  have hA : DataW.TrodAll enc Try.prog W 0 (fun _ => true) true Try.f9.params.toList args.toList ds p := hA0
  rw [Try.params9] at hA hval
  obtain ⟨v0, vs0, d0, ds0, p0, q0, hargs, rfl, rfl, h0, r0⟩ := trodAll_cons hA
  obtain ⟨v1, vs1, d1, ds1, p1, q1, rfl, rfl, rfl, h1, r1⟩ := trodAll_cons r0
  obtain ⟨v2, vs2, d2, ds2, p2, q2, rfl, rfl, rfl, h2, r2⟩ := trodAll_cons r1
  obtain ⟨rfl, rfl, rfl⟩ := trodAll_nil r2
  obtain rfl : args = #[v0, v1, v2] := by cases args; simp_all
  obtain ⟨rfl, rfl⟩ := trodVars_none hV
  have k0 := h0
  have lt0 : ∀ x ∈ p0, x.block < W.heap.size := by obtain ⟨m, hm⟩ := k0; exact DataW.trod_lt m _ _ _ hm
  obtain ⟨f0, fl0, rfl, w0⟩ := open_flat Try.underlying23 flat23 (hval 0 23 v0 rfl rfl) h0
  obtain ⟨a0_0, a0_1, a0_2, rfl⟩ : ∃ a0_0 a0_1 a0_2, f0 = [a0_0, a0_1, a0_2] := lst3 f0 fl0
  have k1 := h1
  have lt1 : ∀ x ∈ p1, x.block < W.heap.size := by obtain ⟨m, hm⟩ := k1; exact DataW.trod_lt m _ _ _ hm
  obtain ⟨f1, fl1, rfl, w1⟩ := open_flat Try.underlying39 flat39 (hval 1 39 v1 rfl rfl) h1
  obtain ⟨a1_0, a1_1, a1_2, a1_3, a1_4, a1_5, a1_6, a1_7, rfl⟩ : ∃ a1_0 a1_1 a1_2 a1_3 a1_4 a1_5 a1_6 a1_7, f1 = [a1_0, a1_1, a1_2, a1_3, a1_4, a1_5, a1_6, a1_7] := lst8 f1 fl1
  have k2 := h2
  have lt2 : ∀ x ∈ p2, x.block < W.heap.size := by obtain ⟨m, hm⟩ := k2; exact DataW.trod_lt m _ _ _ hm
  obtain ⟨f2, fl2, rfl, w2⟩ := open_flat Try.underlying25 flat25 (hval 2 25 v2 rfl rfl) h2
  obtain ⟨a2_0, a2_1, a2_2, a2_3, rfl⟩ : ∃ a2_0 a2_1 a2_2 a2_3, f2 = [a2_0, a2_1, a2_2, a2_3] := lst4 f2 fl2
  clear hA0 hval0 hsz0
  obtain ⟨k, hk⟩ := Pure.GridsKeep a0_0 a0_1 a0_2 a1_0 a1_1 a1_2 a1_3 a1_4 a1_5 a1_6 a1_7 a2_0 a2_1 a2_2 a2_3 w0 w1 w2
  simp only [List.map_cons, List.map_nil]
  refine (G.torchonlaw06_GridsKeep.calls k a0_0 a0_1 a0_2 a1_0 a1_1 a1_2 a1_3 a1_4 a1_5 a1_6 a1_7 a2_0 a2_1 a2_2 a2_3 true W hk).mono fun e W' ⟨he, bel⟩ => ?_
  subst he
  exact ⟨_, rfl, _, _, _, [], _, [], hW', trodAll_mk1 (shut_bool Try.underlying4 _), (trodAll_cons_mk (Below.trod laidOut (by kernel_rfl) (of_decide_eq_true (by kernel_rfl)) k0 bel lt0) (trodAll_cons_mk (Below.trod laidOut (by kernel_rfl) (of_decide_eq_true (by kernel_rfl)) k1 bel lt1) (trodAll_cons_mk (Below.trod laidOut (by kernel_rfl) (of_decide_eq_true (by kernel_rfl)) k2 bel lt2) trodAll_mk0))), rfl, bel.frame _, fun h => by cases h⟩
theorem over : Rows.gridsKeepRow.holds Try.pinned (OpenSpec.ofChange Rows.gridsKeepSpec) :=
  OpenClaim.holds_of_wide 9 Try.f9 rfl rfl rfl rfl rfl rfl rfl ⟨rfl, rfl, rfl, rfl, rfl⟩ rfl rfl rfl rfl rfl (by kernel_rfl) Try.func9 (by kernel_rfl)
    (of_decide_eq_true (by kernel_rfl)) (by unfold Func.isWrapper; first | (rw [if_pos (by decide +kernel)]; kernel_rfl) | (rw [if_neg (by decide +kernel)]; exact ⟨rfl, rfl⟩))
    (fun os started H enc _ => lifted os started H enc)
theorem proved : Rows.GridsKeepSaid := over
#print axioms proved
end Go.Proofs.Ytmcajdepoohlhaa.gridsKeep
namespace Go.Proofs.Ytmcajdepoohlhaa
/-- The row, under a short name, for the claim. -/
theorem gridsKeep_holds : Rows.GridsKeepSaid := gridsKeep.proved
end Go.Proofs.Ytmcajdepoohlhaa
