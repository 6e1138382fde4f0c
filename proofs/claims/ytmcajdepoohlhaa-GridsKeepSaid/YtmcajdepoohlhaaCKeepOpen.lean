/- Arguments by value that are structs or arrays of whole numbers only: their cells, each a number that fits. No condition. -/
import Derived.Carry
import Derived.OpenShut
import Derived.ProofKit
namespace Go.Proofs.Ytmcajdepoohlhaa.Open
open Go.ChangeShapes Go.WideShapes Go.ChangeAt Go.RowKit
/-- All cells are numbers that fit. -/
def Nums (cs : List Value) : Prop := ∃ f : List Int, cs = f.map (Value.int .i64) ∧ ∀ a ∈ f, (Lit.int .i64 a).wf = true
theorem Nums.len {cs : List Value} (h : ∀ c ∈ cs, ∃ a, c = Value.int .i64 a ∧ (Lit.int .i64 a).wf = true) : Nums cs := by
  induction cs with
  | nil => exact ⟨[], rfl, fun _ h => absurd h (by simp)⟩
  | cons c cs ih =>
    obtain ⟨f, hf, hw⟩ := ih (fun x hx => h x (List.mem_cons_of_mem _ hx))
    obtain ⟨a, rfl, ha⟩ := h c (List.mem_cons_self ..)
    refine ⟨a :: f, by rw [hf]; rfl, ?_⟩
    intro b hb
    rcases List.mem_cons.1 hb with rfl | hb
    · exact ha
    · exact hw b hb
/-- A type of n cells, all of them whole numbers. -/
def Flat (P : Program) (t : TypeId) (n : Nat) : Prop := P.cellsOf t = n ∧ ∀ (H : Type) (enc : TypeId × Value → H) (w : World) (base : Nat) (spare : Nat → Bool) (held : Bool) (fuel : Nat) (cs : List Value) (x : DataW H × List MemPlace),
  DataW.trod enc P w base spare held fuel t cs = some x → ∀ c ∈ cs, ∃ a, c = Value.int .i64 a ∧ (Lit.int .i64 a).wf = true
theorem Flat.int {P : Program} {t : TypeId} (ht : P.underlying t = some (.int .i64)) (hc : P.cellsOf t = 1) : Flat P t 1 := by
  refine ⟨hc, ?_⟩
  intro H enc w base spare held fuel cs x h c hm
  obtain ⟨n, rfl, _, hw⟩ := DataW.trod_int ht h
  exact ⟨n, by simpa using hm, hw⟩
theorem mem_cut {cs : List Value} {c : Value} {i o n : Nat} (hi : cs[i]? = some c) (h0 : o ≤ i) (h1 : i < o + n) : c ∈ (cs.drop o).take n := by
  obtain ⟨hlt, rfl⟩ := List.getElem?_eq_some_iff.1 hi
  refine List.mem_iff_getElem.2 ⟨i - o, by simp; omega, ?_⟩
  rw [List.getElem_take, List.getElem_drop]
  congr 1
  omega
theorem Flat.struct {P : Program} {t : TypeId} {fs : Array Field} {n : Nat} (ht : P.underlying t = some (.struct fs)) (hc : P.cellsOf t = n) (hf : ∀ f ∈ fs, ∃ m, Flat P f.type m)
    (hcov : (List.range n).all (fun i => fs.any fun f => decide (f.offset ≤ i) && decide (i < f.offset + P.cellsOf f.type)) = true) : Flat P t n := by
  refine ⟨hc, ?_⟩
  intro H enc w base spare held fuel cs x h c hm
  obtain ⟨xs, m, _, _, hl, hxl, hg⟩ := DataW.trod_struct ht h
  obtain ⟨i, hi, rfl⟩ := List.mem_iff_getElem.1 hm
  have h1 := List.all_eq_true.1 hcov i (List.mem_range.2 (by omega))
  obtain ⟨j, hj, hp⟩ := Array.any_eq_true.1 h1
  simp only [Bool.and_eq_true, decide_eq_true_eq] at hp
  have hfj : fs[j]? = some fs[j] := Array.getElem?_eq_getElem hj
  have hgj := hg j fs[j] hfj
  obtain ⟨m', hm'⟩ := hf fs[j] (Array.getElem_mem hj)
  have hxj : xs[j]? = some (xs[j]'(by omega)) := List.getElem?_eq_getElem (by omega)
  rw [hxj] at hgj
  exact hm'.2 H enc w base spare held m _ _ hgj _ (mem_cut (List.getElem?_eq_getElem hi) hp.1 hp.2)
theorem Flat.array {P : Program} {t e : TypeId} {k m n : Nat} (ht : P.underlying t = some (.array k e)) (hc : P.cellsOf t = n) (he : Flat P e m) (hn : n = k * m) (h0 : 0 < m) : Flat P t n := by
  refine ⟨hc, ?_⟩
  intro H enc w base spare held fuel cs x h c hm
  obtain ⟨xs, q, _, _, hl, hxl, hg⟩ := DataW.trod_array ht h
  obtain ⟨i, hi, rfl⟩ := List.mem_iff_getElem.1 hm
  have hcm : P.cellsOf e = m := he.1
  have hik : i / m < k := by rw [Nat.div_lt_iff_lt_mul h0]; omega
  have hgj := hg (i / m) hik
  have hxj : xs[i / m]? = some (xs[i / m]'(by omega)) := List.getElem?_eq_getElem (by omega)
  rw [hxj, hcm] at hgj
  have hdm := Nat.div_add_mod i m
  have hml := Nat.mod_lt i h0
  exact he.2 H enc w base spare held q _ _ hgj _ (mem_cut (List.getElem?_eq_getElem hi) (by rw [Nat.mul_comm]; omega) (by rw [Nat.mul_comm (i / m)]; omega))
/-- An argument of such a type. -/
theorem open_flat {P : Program} {w : World} {H : Type} {enc : TypeId × Value → H} {base : Nat} {spare : Nat → Bool} {held : Bool} {r : Reach} {b0 : Nat} {t : TypeId} {fs : Array Field} {n : Nat} {v : Value} {d : DataW H} {p : List MemPlace}
    (ht : P.underlying t = some (.struct fs)) (hF : Flat P t n) (hv : Value.okWide P w r b0 t v) (h : DataW.Trod enc P w base spare held t v d p) :
    ∃ f : List Int, f.length = n ∧ v = .agg (f.map (Value.int .i64)).toArray ∧ ∀ a ∈ f, (Lit.int .i64 a).wf = true := by
  obtain ⟨cs, rfl, hs⟩ := okWide_struct ht hv
  obtain ⟨fuel, hf⟩ := h
  obtain ⟨f, hcs, hw⟩ := Nums.len (hF.2 H enc w base spare held fuel _ _ hf)
  have hcs' : cs.toList = f.map (Value.int .i64) := hcs
  refine ⟨f, ?_, ?_, hw⟩
  · have h1 : cs.toList.length = (f.map (Value.int .i64)).length := by rw [hcs']
    rw [List.length_map, Array.length_toList] at h1
    rw [← h1, hs, hF.1]
  · rw [← hcs', Array.toArray_toList]
theorem okWide_array {P : Program} {w : World} {r : Reach} {base : Nat} {t e : TypeId} {v : Value} {n : Nat} (ht : P.underlying t = some (.array n e)) (h : Value.okWide P w r base t v) : ∃ cs, v = .agg cs ∧ cs.size = P.cellsOf t := by
  simp only [Value.okWide, ht] at h
  obtain ⟨cs, h1, h2, _⟩ := h
  exact ⟨cs, h1, h2⟩
theorem open_flat_array {P : Program} {w : World} {H : Type} {enc : TypeId × Value → H} {base : Nat} {spare : Nat → Bool} {held : Bool} {r : Reach} {b0 : Nat} {t e : TypeId} {k n : Nat} {v : Value} {d : DataW H} {p : List MemPlace}
    (ht : P.underlying t = some (.array k e)) (hF : Flat P t n) (hv : Value.okWide P w r b0 t v) (h : DataW.Trod enc P w base spare held t v d p) :
    ∃ f : List Int, f.length = n ∧ v = .agg (f.map (Value.int .i64)).toArray ∧ ∀ a ∈ f, (Lit.int .i64 a).wf = true := by
  obtain ⟨cs, rfl, hs⟩ := okWide_array ht hv
  obtain ⟨fuel, hf⟩ := h
  obtain ⟨f, hcs, hw⟩ := Nums.len (hF.2 H enc w base spare held fuel _ _ hf)
  have hcs' : cs.toList = f.map (Value.int .i64) := hcs
  refine ⟨f, ?_, ?_, hw⟩
  · have h1 : cs.toList.length = (f.map (Value.int .i64)).length := by rw [hcs']
    rw [List.length_map, Array.length_toList] at h1
    rw [← h1, hs, hF.1]
  · rw [← hcs', Array.toArray_toList]
end Go.Proofs.Ytmcajdepoohlhaa.Open
