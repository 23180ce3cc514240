/-
  A value that came in.
-/
import Derived.Test.YtpndhfnoppkmgaaDoorLawt
import Derived.Test.YtpndhfnoppkmgaaDoorVal
namespace Go.Proofs.YtpndhfnoppkmgaaDoor
open Go.RowKit Go.ChangeShapes Go.WideShapes Go.ChangeAt
set_option maxRecDepth 100000
theorem cells_val {H : Type} {enc : TypeId × Value → H} {W : World} {fuel : Nat} {cs : List Value} {x : DataW H × List MemPlace} (hl : cs.length = 3) (h : DataW.trod enc Tryd.prog W 0 (fun _ => true) true fuel 24 cs = some x) :
    ∃ k m s, cs = [.int .i64 k, .float .f64 m, .string s] ∧ (Lit.int .i64 k).wf = true ∧ m < 18446744073709551616 ∧ s.size ≤ maxLen := by
  obtain ⟨v0, v1, v2, rfl⟩ : ∃ v0 v1 v2, cs = [v0, v1, v2] := by
    match cs, hl with
    | [v0, v1, v2], _ => exact ⟨v0, v1, v2, rfl⟩
  have hc : Tryd.prog.cellsOf 22 = 1 := by kernel_rfl
  have hi : Tryd.prog.cellsOf 3 = 1 := by kernel_rfl
  have hs : Tryd.prog.cellsOf 9 = 1 := by kernel_rfl
  obtain ⟨xs, n', _, _, _, hxl, hfs⟩ := DataW.trod_struct Tryd.underlying24 h
  have f0 : DataW.trod enc Tryd.prog W 0 (fun _ => true) true n' 3 (([v0, v1, v2].drop 0).take (Tryd.prog.cellsOf 3)) = xs[0]? := hfs 0 _ rfl
  have f1 : DataW.trod enc Tryd.prog W 0 (fun _ => true) true n' 22 (([v0, v1, v2].drop 1).take (Tryd.prog.cellsOf 22)) = xs[1]? := hfs 1 _ rfl
  have f2 : DataW.trod enc Tryd.prog W 0 (fun _ => true) true n' 9 (([v0, v1, v2].drop 2).take (Tryd.prog.cellsOf 9)) = xs[2]? := hfs 2 _ rfl
  have hxl2 : xs.length = 3 := hxl
  rw [List.getElem?_eq_getElem (by omega)] at f0 f1 f2
  simp only [hc, hi, hs, List.drop_succ_cons, List.drop_zero, List.take_succ_cons, List.take_zero] at f0 f1 f2
  obtain ⟨k, e0, _, hk⟩ := DataW.trod_int Tryd.underlying3 f0
  obtain ⟨m, e1, hm⟩ := trod_float f1
  obtain ⟨s, e2, _, hz⟩ := DataW.trod_string Tryd.underlying9 f2
  injection e0 with e0 _
  injection e1 with e1 _
  injection e2 with e2 _
  subst e0 e1 e2
  exact ⟨k, m, s, rfl, hk, hm, hz⟩
theorem law_val {H : Type} {enc : TypeId × Value → H} {W : World} {base : Nat} {v : Value} {d : DataW H} {ps : List MemPlace} (hv : Value.okWide Tryd.prog W .any base 24 v)
    (h : DataW.Trod enc Tryd.prog W 0 (fun _ => true) true 24 v d ps) : ∃ a : Va, v = a.v ∧ (Lit.int .i64 a.k).wf = true ∧ a.x < 18446744073709551616 ∧ a.s.size ≤ maxLen := by
  obtain ⟨cs, rfl, hsz⟩ := okWide_struct Tryd.underlying24 hv
  obtain ⟨fuel, hf⟩ := h
  have hcs : (Value.agg cs).cells = cs := rfl
  rw [hcs] at hf
  have hC : Tryd.prog.cellsOf 24 = 3 := by kernel_rfl
  obtain ⟨k, m, s, e, hk, hm, hz⟩ := cells_val (by rw [hC] at hsz; simpa using hsz) hf
  exact ⟨⟨k, m, s⟩, by rw [← Array.toArray_toList (xs := cs), e]; rfl, hk, hm, hz⟩
theorem law_str {H : Type} {enc : TypeId × Value → H} {W : World} {base : Nat} {v : Value} {d : DataW H} {ps : List MemPlace} (hv : Value.okWide Tryd.prog W .any base 9 v)
    (h : DataW.Trod enc Tryd.prog W 0 (fun _ => true) true 9 v d ps) : ∃ s : ByteArray, v = .string s ∧ s.size ≤ maxLen := by
  obtain ⟨s, rfl, _, _, hs⟩ := ChangeMaps.open_string Tryd.underlying9 hv h
  exact ⟨s, rfl, hs⟩
end Go.Proofs.YtpndhfnoppkmgaaDoor
