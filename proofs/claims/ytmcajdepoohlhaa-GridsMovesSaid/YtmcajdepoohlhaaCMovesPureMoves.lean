/- The law GridsMoves, as its printed function tells it: true for every two moves and every point. No condition beyond that the numbers fit. -/
import Derived.Test.YtmcajdepoohlhaaCMovesVal9
import Derived.Test.YtmcajdepoohlhaaCMovesAwake
import Derived.Test.YtmcajdepoohlhaaCMovesP3
namespace Go.Proofs.Ytmcajdepoohlhaa.Pure
open Go.RowKit Go.Proofs.Ytmcajdepoohlhaa.G Go.Proofs.Ytmcajdepoohlhaa.Spec Go.Proofs.Ytmcajdepoohlhaa.Val
theorem GridsMoves (a0_0 a0_1 a0_2 a0_3 a0_4 a0_5 a1_0 a1_1 a1_2 a1_3 a1_4 a1_5 a2_0 a2_1 : Int) (_h0 : ∀ x ∈ [a0_0, a0_1, a0_2, a0_3, a0_4, a0_5], (Lit.int .i64 x).wf = true) (_h1 : ∀ x ∈ [a1_0, a1_1, a1_2, a1_3, a1_4, a1_5], (Lit.int .i64 x).wf = true) (_h2 : ∀ x ∈ [a2_0, a2_1], (Lit.int .i64 x).wf = true) :
    ∃ k, torchonlaw06_GridsMoves.f k a0_0 a0_1 a0_2 a0_3 a0_4 a0_5 a1_0 a1_1 a1_2 a1_3 a1_4 a1_5 a2_0 a2_1 = some true := by
  obtain ⟨k, hk⟩ : ∃ k : Nat, 1000 ≤ k := ⟨1000, Nat.le_refl _⟩
  refine ⟨k + 1, ?_⟩
  obtain ⟨v, rfl, rfl, rfl, rfl, rfl, rfl⟩ : ∃ v : Mov, a0_0 = v.M.a ∧ a0_1 = v.M.b ∧ a0_2 = v.M.c ∧ a0_3 = v.M.d ∧ a0_4 = v.T.x ∧ a0_5 = v.T.y := ⟨⟨⟨a0_0, a0_1, a0_2, a0_3⟩, ⟨a0_4, a0_5⟩⟩, rfl, rfl, rfl, rfl, rfl, rfl⟩
  obtain ⟨w, rfl, rfl, rfl, rfl, rfl, rfl⟩ : ∃ v : Mov, a1_0 = v.M.a ∧ a1_1 = v.M.b ∧ a1_2 = v.M.c ∧ a1_3 = v.M.d ∧ a1_4 = v.T.x ∧ a1_5 = v.T.y := ⟨⟨⟨a1_0, a1_1, a1_2, a1_3⟩, ⟨a1_4, a1_5⟩⟩, rfl, rfl, rfl, rfl, rfl, rfl⟩
  obtain ⟨p, rfl, rfl⟩ : ∃ p : Vec, a2_0 = p.x ∧ a2_1 = p.y := ⟨⟨a2_0, a2_1⟩, rfl, rfl⟩
  unfold torchonlaw06_GridsMoves.f
  rw [Apply_val (k + 1) v p (by omega), refApply_val (k + 1) v p (by omega), Compose_val (k + 1) v w (by omega), refCompose_val (k + 1) v w (by omega)]
  simp only [Option.bind_some, beq_self_eq_true, Bool.not_true, Bool.or_self, Bool.false_eq_true, if_false, if_true, bne_self_eq_false]
  simp only [torchonlaw06_GridsMoves.j0, Bool.false_eq_true, if_false]
  rw [Invert_val k v (by omega), refInvert_val k v (by omega), Order_val k v.M (by omega), refOrder_val k v.M (by omega), awake_val k (by omega)]
  simp
end Go.Proofs.Ytmcajdepoohlhaa.Pure
