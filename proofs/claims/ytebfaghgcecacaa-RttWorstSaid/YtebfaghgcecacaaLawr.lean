/-
  An estimate that came in.
-/
import Derived.Test.YtebfaghgcecacaaLawf
namespace Go.Proofs.Ytebfaghgcecacaa
open Go.RowKit Go.ChangeShapes Go.WideShapes Go.ChangeAt
theorem cells_rtt {H : Type} {enc : TypeId × Value → H} {W : World} {fuel : Nat} {cs : List Value} {x : DataW H × List MemPlace} (hl : cs.length = 2) (h : DataW.trod enc Try.prog W 0 (fun _ => true) true fuel 24 cs = some x) :
    ∃ m v, cs = [.float .f64 m, .float .f64 v] ∧ m < 18446744073709551616 ∧ v < 18446744073709551616 := by
  obtain ⟨v0, v1, rfl⟩ : ∃ v0 v1, cs = [v0, v1] := by
    match cs, hl with
    | [v0, v1], _ => exact ⟨v0, v1, rfl⟩
  have hc : Try.prog.cellsOf 22 = 1 := by kernel_rfl
  obtain ⟨xs, n', _, _, _, hxl, hfs⟩ := DataW.trod_struct Try.underlying24 h
  have f0 : DataW.trod enc Try.prog W 0 (fun _ => true) true n' 22 (([v0, v1].drop 0).take (Try.prog.cellsOf 22)) = xs[0]? := hfs 0 _ rfl
  have f1 : DataW.trod enc Try.prog W 0 (fun _ => true) true n' 22 (([v0, v1].drop 1).take (Try.prog.cellsOf 22)) = xs[1]? := hfs 1 _ rfl
  have hxl2 : xs.length = 2 := hxl
  rw [List.getElem?_eq_getElem (by omega)] at f0 f1
  simp only [hc, List.drop_succ_cons, List.drop_zero, List.take_succ_cons, List.take_zero] at f0 f1
  obtain ⟨m, e0, hm⟩ := trod_float f0
  obtain ⟨v, e1, hv⟩ := trod_float f1
  injection e0 with e0 _
  injection e1 with e1 _
  subst e0 e1
  exact ⟨m, v, rfl, hm, hv⟩
theorem law_rtt {H : Type} {enc : TypeId × Value → H} {W : World} {base : Nat} {v : Value} {d : DataW H} {ps : List MemPlace} (hv : Value.okWide Try.prog W .any base 24 v)
    (h : DataW.Trod enc Try.prog W 0 (fun _ => true) true 24 v d ps) : ∃ a b, v = .agg #[.float .f64 a, .float .f64 b] ∧ a < 18446744073709551616 ∧ b < 18446744073709551616 := by
  obtain ⟨cs, rfl, hsz⟩ := okWide_struct Try.underlying24 hv
  obtain ⟨fuel, hf⟩ := h
  have hcs : (Value.agg cs).cells = cs := rfl
  rw [hcs] at hf
  have hC : Try.prog.cellsOf 24 = 2 := by kernel_rfl
  obtain ⟨a, b, e, ha, hb⟩ := cells_rtt (by rw [hC] at hsz; simpa using hsz) hf
  exact ⟨a, b, by rw [← Array.toArray_toList (xs := cs), e], ha, hb⟩
end Go.Proofs.Ytebfaghgcecacaa
