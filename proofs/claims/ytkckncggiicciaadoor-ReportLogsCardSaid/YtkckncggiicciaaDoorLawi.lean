/-
  A slice of whole numbers that came in; the powers of ten, where they lie.
-/
import Derived.Test.YtkckncggiicciaaDoorLawt
import Derived.Test.YtkckncggiicciaaDoorRlagw
namespace Go.Proofs.YtkckncggiicciaaDoor
open Go.RowKit Go.ChangeShapes Go.WideShapes Go.ChangeAt
set_option maxRecDepth 100000
theorem law_ints {H : Type} {enc : TypeId × Value → H} {W : World} {base : Nat} {v : Value} {d : DataW H} {ps : List MemPlace} (hv : Value.okWide Tryd.prog W .any base 22 v)
    (h : DataW.Trod enc Tryd.prog W 0 (fun _ => true) true 22 v d ps) : ∃ A n cap, ∃ l : List Int, v = .slice A n cap ∧ Rd W W.heap.size 1 A n cap (l.map iV) ∧ ∀ x ∈ l, In64 x := by
  obtain ⟨a0, len, cap, rfl⟩ := okWide_slice Tryd.underlying22 hv
  obtain ⟨fuel, hf⟩ := h
  rcases DataW.trod_slice Tryd.underlying22 hf with ⟨hcs, _⟩ | ⟨a, len', cap', elems, rest, fl, _, hcs, _, _, hl, hm, hel, hat, _, _⟩
  · simp [Value.cells] at hcs
    obtain ⟨rfl, rfl, rfl⟩ := hcs
    exact ⟨none, 0, 0, [], rfl, Rd.nil _ _ _, by simp⟩
  · simp [Value.cells] at hcs
    obtain ⟨rfl, rfl, rfl⟩ := hcs
    have hce : Tryd.prog.cellsOf 3 = 1 := by kernel_rfl
    have each : ∀ i, i < len → ∃ b, W.cell? (a.add (i * 1)) = some (.int .i64 b) ∧ In64 b := by
      intro i hi
      have h1 := hat i hi
      rw [hce, List.getElem?_eq_getElem (by omega), Option.bind_eq_some_iff] at h1
      obtain ⟨cs, h2, h3⟩ := h1
      obtain ⟨u, rfl, hu⟩ := cells_one h2
      obtain ⟨b, e, _, hb⟩ := DataW.trod_int Tryd.underlying3 h3
      injection e with e _
      subst e
      exact ⟨b, hu, law_i64 hb⟩
    by_cases h0 : 0 < len
    · obtain ⟨_, hu0, _⟩ := each 0 h0
      obtain ⟨b, off, spot⟩ := a
      have hspot : spot = none := by simpa [Addr.add] using World.cell?_spot hu0
      subst hspot
      have hblt : b < W.heap.size := World.block_lt_of_cell? _ _ (by simpa [Addr.add] using hu0)
      have each' : ∀ i, i < len → ∃ x, W.cell? ⟨b, off + i, none⟩ = some (.int .i64 x) ∧ In64 x := fun i hi => by
        obtain ⟨x, h1, h2⟩ := each i hi
        rw [addr_add, Nat.mul_one] at h1
        exact ⟨x, h1, h2⟩
      refine ⟨_, _, _, (List.range len).map fun i => if h : i < len then Classical.choose (each' i h) else 0, rfl, ⟨by simp, hl, hm, fun _ => ⟨b, off, rfl, hblt, fun j u hu => ?_⟩⟩, fun x hx => ?_⟩
      · have hj : j < len := by
          have := (List.getElem?_eq_some_iff.1 hu).1
          simpa using this
        have hc := (Classical.choose_spec (each' j hj)).1
        rw [hc]
        simp [hj, iV] at hu
        rw [← hu]
      · obtain ⟨i, hi, rfl⟩ := List.mem_map.1 hx
        have hi' : i < len := by simpa using hi
        rw [dif_pos hi']
        exact (Classical.choose_spec (each' i hi')).2
    · obtain rfl : len = 0 := by omega
      exact ⟨_, _, _, [], rfl, ⟨rfl, hl, hm, fun h => by omega⟩, by simp⟩
theorem pow_laid : Rows.laid_internal_strconv_uint64pow10 (H := Unit) = Lib.tabData .u64 Lib.pow10Tab := by kernel_rfl
theorem it_of_list {rest : List (String × DataW Unit)} {W : World} (h : laidMet Tryd.prog (("internal/strconv.uint64pow10", Rows.laid_internal_strconv_uint64pow10) :: rest) W) : ItAt W := by
  rw [pow_laid] at h
  exact Lib.tabIs_of_head (t := 160) (e := 93) (n := 20) pow10_named (by kernel_rfl) Tryd.underlying160 Tryd.underlying93 (by kernel_rfl) (by kernel_rfl) h
theorem it_of_laid {W : World} (h : laidMetH Tryd.prog laid3 W) : ItAt W := by
  rw [MakeChecks.laidMetH_plain _ _ _ (by kernel_rfl)] at h
  exact it_of_list h.tail.tail
end Go.Proofs.YtkckncggiicciaaDoor
