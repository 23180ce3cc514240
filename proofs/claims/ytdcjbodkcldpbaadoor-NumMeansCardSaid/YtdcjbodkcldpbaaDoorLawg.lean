/-
  A slice of floats that came in.
-/
import Derived.Test.YtdcjbodkcldpbaaDoorLawf
namespace Go.Proofs.YtdcjbodkcldpbaaDoor
open Go.RowKit Go.ChangeShapes Go.WideShapes Go.ChangeAt
set_option maxRecDepth 100000
theorem law_floats {H : Type} {enc : TypeId × Value → H} {W : World} {base : Nat} {v : Value} {d : DataW H} {ps : List MemPlace} (hv : Value.okWide Tryd.prog W .any base 30 v)
    (h : DataW.Trod enc Tryd.prog W 0 (fun _ => true) true 30 v d ps) : ∃ A n cap, ∃ l : List Nat, v = .slice A n cap ∧ Rd W W.heap.size 1 A n cap (l.map (Value.float .f64)) ∧ ∀ x ∈ l, x < 18446744073709551616 := by
  obtain ⟨a0, len, cap, rfl⟩ := okWide_slice Tryd.underlying30 hv
  obtain ⟨fuel, hf⟩ := h
  rcases DataW.trod_slice Tryd.underlying30 hf with ⟨hcs, _⟩ | ⟨a, len', cap', elems, rest, fl, _, hcs, _, _, hl, hm, hel, hat, _, _⟩
  · simp [Value.cells] at hcs
    obtain ⟨rfl, rfl, rfl⟩ := hcs
    exact ⟨none, 0, 0, [], rfl, Rd.nil _ _ _, by simp⟩
  · simp [Value.cells] at hcs
    obtain ⟨rfl, rfl, rfl⟩ := hcs
    have hce : Tryd.prog.cellsOf 22 = 1 := by kernel_rfl
    have each : ∀ i, i < len → ∃ b, W.cell? (a.add (i * 1)) = some (.float .f64 b) ∧ b < 18446744073709551616 := by
      intro i hi
      have h1 := hat i hi
      rw [hce, List.getElem?_eq_getElem (by omega), Option.bind_eq_some_iff] at h1
      obtain ⟨cs, h2, h3⟩ := h1
      obtain ⟨u, rfl, hu⟩ := cells_one h2
      obtain ⟨b, e, hb⟩ := trod_float h3
      injection e with e _
      subst e
      exact ⟨b, hu, hb⟩
    by_cases h0 : 0 < len
    · obtain ⟨_, hu0, _⟩ := each 0 h0
      obtain ⟨b, off, spot⟩ := a
      have hspot : spot = none := by simpa [Addr.add] using World.cell?_spot hu0
      subst hspot
      have hblt : b < W.heap.size := World.block_lt_of_cell? _ _ (by simpa [Addr.add] using hu0)
      have each' : ∀ i, i < len → ∃ x, W.cell? ⟨b, off + i, none⟩ = some (.float .f64 x) ∧ x < 18446744073709551616 := fun i hi => by
        obtain ⟨x, h1, h2⟩ := each i hi
        rw [addr_add, Nat.mul_one] at h1
        exact ⟨x, h1, h2⟩
      refine ⟨_, _, _, (List.range len).map fun i => if h : i < len then Classical.choose (each' i h) else 0, rfl, ⟨by simp, hl, hm, fun _ => ⟨b, off, rfl, hblt, fun j u hu => ?_⟩⟩, fun x hx => ?_⟩
      · have hj : j < len := by
          have := (List.getElem?_eq_some_iff.1 hu).1
          simpa using this
        have hc := (Classical.choose_spec (each' j hj)).1
        rw [hc]
        simp [hj] at hu
        rw [← hu]
      · obtain ⟨i, hi, rfl⟩ := List.mem_map.1 hx
        have hi' : i < len := by simpa using hi
        rw [dif_pos hi']
        exact (Classical.choose_spec (each' i hi')).2
    · obtain rfl : len = 0 := by omega
      exact ⟨_, _, _, [], rfl, ⟨rfl, hl, hm, fun h => by omega⟩, by simp⟩
end Go.Proofs.YtdcjbodkcldpbaaDoor
