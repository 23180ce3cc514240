/-
  A slice of slices of bytes that came in.
-/
import Derived.Test.YtlopeflgleplfaaLaw
import Derived.Test.YtlopeflgleplfaaBrows
namespace Go.Proofs.Ytlopeflgleplfaa
open Go.RowKit Go.ChangeShapes Go.WideShapes Go.ChangeAt
theorem law_brows {H : Type} {enc : TypeId × Value → H} {W : World} {base : Nat} {v : Value} {d : DataW H} {ps : List MemPlace} (hv : Value.okWide Try.prog W .any base 39 v)
    (h : DataW.Trod enc Try.prog W 0 (fun _ => true) true 39 v d ps) : ∃ A n cap l, v = .slice A n cap ∧ RdRows W W.heap.size A n cap l := by
  obtain ⟨a0, len, cap, rfl⟩ := okWide_slice Try.underlying39 hv
  obtain ⟨fuel, hf⟩ := h
  rcases DataW.trod_slice Try.underlying39 hf with ⟨hcs, _⟩ | ⟨a, len', cap', elems, rest, fl, _, hcs, _, _, hl, hm, hel, hat, _, _⟩
  · simp [Value.cells] at hcs
    obtain ⟨rfl, rfl, rfl⟩ := hcs
    exact ⟨none, 0, 0, [], rfl, [], Rd.nil _ _ _, rfl, by simp⟩
  · simp [Value.cells] at hcs
    obtain ⟨rfl, rfl, rfl⟩ := hcs
    have hce : Try.prog.cellsOf 22 = 1 := by kernel_rfl
    have each : ∀ i, i < len → ∃ u, ∃ l : List UInt8, W.cell? (a.add i) = some u ∧ ∃ A' c', u = .slice A' l.length c' ∧ By W W.heap.size A' l.length c' l := by
      intro i hi
      have h1 := hat i hi
      rw [hce, Nat.mul_one, List.getElem?_eq_getElem (by omega), Option.bind_eq_some_iff] at h1
      obtain ⟨cs, h2, h3⟩ := h1
      obtain ⟨u, rfl, h4⟩ := cells_one h2
      obtain ⟨A', n', c', l, h5, h6⟩ := cells_bytes h3
      injection h5 with h5 _
      subst h5
      obtain rfl := h6.len
      exact ⟨_, l, h4, A', c', rfl, h6⟩
    by_cases h0 : 0 < len
    · obtain ⟨u0, _, hu0, _⟩ := each 0 h0
      obtain ⟨b, off, spot⟩ := a
      have hspot : spot = none := by simpa [Addr.add] using World.cell?_spot hu0
      subst hspot
      have hblt : b < W.heap.size := World.block_lt_of_cell? _ _ (by simpa [Addr.add] using hu0)
      have each' : ∀ i, i < len → ∃ u, ∃ l : List UInt8, W.cell? ⟨b, off + i, none⟩ = some u ∧ ∃ A' c', u = .slice A' l.length c' ∧ By W W.heap.size A' l.length c' l := fun i hi => by
        have := each i hi
        rwa [addr_add] at this
      obtain ⟨f, hf⟩ : ∃ f : Nat → Value × List UInt8, ∀ i, i < len → W.cell? ⟨b, off + i, none⟩ = some (f i).1 ∧ ∃ A' c', (f i).1 = .slice A' (f i).2.length c' ∧ By W W.heap.size A' (f i).2.length c' (f i).2 := by
        refine ⟨fun i => if h : i < len then (Classical.choose (each' i h), Classical.choose (Classical.choose_spec (each' i h))) else default, fun i hi => ?_⟩
        simp only [dif_pos hi]
        exact Classical.choose_spec (Classical.choose_spec (each' i hi))
      refine ⟨_, _, _, (List.range len).map fun i => (f i).2, rfl, (List.range len).map fun i => (f i).1, ⟨by simp, hl, hm, fun _ => ⟨b, off, rfl, hblt, fun j u hu => ?_⟩⟩, by simp, fun i u l hu hl => ?_⟩
      · have hj : j < len := by have := (List.getElem?_eq_some_iff.1 hu).1; simpa using this
        simp [hj] at hu
        rw [← hu]
        exact (hf j hj).1
      · have hi : i < len := by have := (List.getElem?_eq_some_iff.1 hu).1; simpa using this
        simp [hi] at hu hl
        rw [← hu, ← hl]
        exact (hf i hi).2
    · obtain rfl : len = 0 := by omega
      exact ⟨_, _, _, [], rfl, [], ⟨rfl, hl, hm, fun h => by omega⟩, rfl, by simp⟩
end Go.Proofs.Ytlopeflgleplfaa
