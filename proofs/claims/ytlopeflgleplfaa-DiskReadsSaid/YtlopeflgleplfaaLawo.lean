/-
  A slice of bools that came in.
-/
import Derived.Test.YtlopeflgleplfaaLaw
import Derived.Deep.Grids
namespace Go.Proofs.Ytlopeflgleplfaa
open Go.RowKit Go.ChangeShapes Go.WideShapes Go.ChangeAt
theorem law_bools {H : Type} {enc : TypeId × Value → H} {W : World} {base : Nat} {v : Value} {d : DataW H} {ps : List MemPlace} (hv : Value.okWide Try.prog W .any base 40 v)
    (h : DataW.Trod enc Try.prog W 0 (fun _ => true) true 40 v d ps) : ∃ A n cap, ∃ l : List Bool, v = .slice A n cap ∧ Rd W W.heap.size 1 A n cap (l.map Value.bool) := by
  obtain ⟨a0, len, cap, rfl⟩ := okWide_slice Try.underlying40 hv
  obtain ⟨fuel, hf⟩ := h
  rcases Go.Deep.open_bools Try.underlying40 Try.underlying4 (by kernel_rfl) hf with ⟨hcs, _⟩ | ⟨a, l, c, B, hcs, _, hl, hm, _, hcell⟩
  · simp [Value.cells] at hcs
    obtain ⟨rfl, rfl, rfl⟩ := hcs
    exact ⟨none, 0, 0, [], rfl, Rd.nil _ _ _⟩
  · simp [Value.cells] at hcs
    obtain ⟨rfl, rfl, rfl⟩ := hcs
    refine ⟨_, _, _, (List.range len).map B, rfl, by simp, hl, hm, fun hn => ?_⟩
    have h0 := hcell 0 (by omega)
    obtain ⟨b, off, spot⟩ := a
    have hspot : spot = none := by simpa [Addr.add] using World.cell?_spot h0
    subst hspot
    refine ⟨b, off, rfl, World.block_lt_of_cell? _ _ (by simpa [Addr.add] using h0), fun j u hu => ?_⟩
    have hj : j < len := by
      have := (List.getElem?_eq_some_iff.1 hu).1
      simpa using this
    have hc := hcell j (by omega)
    rw [addr_add] at hc
    rw [hc]
    simp [hj] at hu
    rw [← hu]
end Go.Proofs.Ytlopeflgleplfaa
