/-
  Seven numbers by value, and a slice of estimates, that came in.
-/
import Derived.Test.YtebfaghgcecacaaLawr
import Derived.Test.YtebfaghgcecacaaRtts
namespace Go.Proofs.Ytebfaghgcecacaa
open Go.RowKit Go.ChangeShapes Go.WideShapes Go.ChangeAt
theorem trod_i64 {H : Type} {enc : TypeId × Value → H} {W : World} {fuel : Nat} {v : Value} {x : DataW H × List MemPlace} (h : DataW.trod enc Try.prog W 0 (fun _ => true) true fuel 3 [v] = some x) : ∃ z, v = .int .i64 z ∧ -9223372036854775808 ≤ z ∧ z ≤ 9223372036854775807 := by
  obtain ⟨z, e, _, hw⟩ := DataW.trod_int Try.underlying3 h
  simp at e
  exact ⟨z, e, law_i64 hw⟩
theorem law_ints7 {H : Type} {enc : TypeId × Value → H} {W : World} {base : Nat} {v : Value} {d : DataW H} {ps : List MemPlace} (hv : Value.okWide Try.prog W .any base 31 v)
    (h : DataW.Trod enc Try.prog W 0 (fun _ => true) true 31 v d ps) : ∃ S : Nat → Int, v = .agg (ints7 S) ∧ ∀ i, -9223372036854775808 ≤ S i ∧ S i ≤ 9223372036854775807 := by
  obtain ⟨cs, rfl, hsz⟩ : ∃ cs, v = .agg cs ∧ cs.size = Try.prog.cellsOf 31 := by
    simp only [Value.okWide, Try.underlying31] at hv
    obtain ⟨cs, h1, h2, _⟩ := hv
    exact ⟨cs, h1, h2⟩
  have hC : Try.prog.cellsOf 31 = 7 := by kernel_rfl
  have hc : Try.prog.cellsOf 3 = 1 := by kernel_rfl
  rw [hC] at hsz
  obtain ⟨fuel, hf⟩ := h
  have hcs : (Value.agg cs).cells = cs := rfl
  rw [hcs] at hf
  obtain ⟨xs, m, _, _, _, hxl, he⟩ := DataW.trod_array Try.underlying31 hf
  have hl : cs.toList.length = 7 := by simpa using hsz
  have each : ∀ i, i < 7 → ∃ z, cs[i]? = some (.int .i64 z) ∧ -9223372036854775808 ≤ z ∧ z ≤ 9223372036854775807 := by
    intro i hi
    have h1 := he i hi
    rw [hc, Nat.mul_one, List.getElem?_eq_getElem (by omega)] at h1
    have h2 : (cs.toList.drop i).take 1 = [cs.toList[i]'(by omega)] := by
      rw [List.drop_eq_getElem_cons (by omega)]
      rfl
    rw [h2] at h1
    obtain ⟨z, e, hz⟩ := trod_i64 h1
    refine ⟨z, ?_, hz⟩
    rw [← e]
    simp [show i < cs.size by omega]
  obtain ⟨S, hS⟩ : ∃ S : Nat → Int, ∀ i, (i < 7 → cs[i]? = some (.int .i64 (S i))) ∧ -9223372036854775808 ≤ S i ∧ S i ≤ 9223372036854775807 := by
    refine ⟨fun i => if h : i < 7 then Classical.choose (each i h) else 0, fun i => ?_⟩
    by_cases h : i < 7
    · simp only [dif_pos h]
      exact ⟨fun _ => (Classical.choose_spec (each i h)).1, (Classical.choose_spec (each i h)).2⟩
    · simp only [dif_neg h]
      exact ⟨fun h' => absurd h' h, by omega, by omega⟩
  refine ⟨S, ?_, fun i => (hS i).2⟩
  congr 1
  apply Array.ext_getElem?
  intro i
  by_cases h : i < 7
  · rw [(hS i).1 h, ints7_get S h]
  · rw [Array.getElem?_eq_none (by omega), Array.getElem?_eq_none (by simp [ints7]; omega)]
theorem law_rtts {H : Type} {enc : TypeId × Value → H} {W : World} {base : Nat} {v : Value} {d : DataW H} {ps : List MemPlace} (hv : Value.okWide Try.prog W .any base 40 v)
    (h : DataW.Trod enc Try.prog W 0 (fun _ => true) true 40 v d ps) : ∃ A n cap l, v = .slice A n cap ∧ RdRtts W W.heap.size A n cap l := by
  obtain ⟨a0, len, cap, rfl⟩ := okWide_slice Try.underlying40 hv
  obtain ⟨fuel, hf⟩ := h
  rcases DataW.trod_slice Try.underlying40 hf with ⟨hcs, _⟩ | ⟨a, len', cap', elems, rest, fl, _, hcs, _, _, hl, hm, hel, hat, _, _⟩
  · simp [Value.cells] at hcs
    obtain ⟨rfl, rfl, rfl⟩ := hcs
    exact ⟨none, 0, 0, [], rfl, RdRtts.nil _ _⟩
  · simp [Value.cells] at hcs
    obtain ⟨rfl, rfl, rfl⟩ := hcs
    have hce : Try.prog.cellsOf 24 = 2 := by kernel_rfl
    have each : ∀ i, i < len → ∃ p : Nat × Nat, p.1 < 18446744073709551616 ∧ p.2 < 18446744073709551616 ∧ W.cell? ((a.add (i * 2)).add 0) = some (.float .f64 p.1) ∧ W.cell? ((a.add (i * 2)).add 1) = some (.float .f64 p.2) := by
      intro i hi
      have h1 := hat i hi
      rw [hce, List.getElem?_eq_getElem (by omega), Option.bind_eq_some_iff] at h1
      obtain ⟨cs, h2, h3⟩ := h1
      obtain ⟨_, hlen, hcell⟩ := World.cells?_some h2
      obtain ⟨m, v, rfl, hm', hv'⟩ := cells_rtt hlen h3
      exact ⟨(m, v), hm', hv', hcell 0 (by omega), hcell 1 (by omega)⟩
    by_cases h0 : 0 < len
    · obtain ⟨_, _, _, hu0, _⟩ := each 0 h0
      obtain ⟨b, off, spot⟩ := a
      have hspot : spot = none := by simpa [Addr.add] using World.cell?_spot hu0
      subst hspot
      have hblt : b < W.heap.size := World.block_lt_of_cell? _ _ (by simpa [Addr.add] using hu0)
      refine ⟨_, _, _, (List.range len).map fun i => if h : i < len then Classical.choose (each i h) else default, rfl, by simp, hl, hm, fun _ => ⟨b, off, rfl, hblt, fun i p hp => ?_⟩⟩
      have hi : i < len := by have := (List.getElem?_eq_some_iff.1 hp).1; simpa using this
      simp [hi] at hp
      have hs := Classical.choose_spec (each i hi)
      rw [hp, addr_add, addr_add, addr_add] at hs
      exact hs
    · obtain rfl : len = 0 := by omega
      exact ⟨_, _, _, [], rfl, rfl, hl, hm, fun h => by omega⟩
end Go.Proofs.Ytebfaghgcecacaa
