/-
  Two values' sum, and the greater one: value.Add, value.Max.
-/
import Derived.Test.YtkckncggiicciaaDoorVboth
namespace Go.Proofs.YtkckncggiicciaaDoor
open Go.RowKit
set_option maxRecDepth 100000
theorem Qt_below {w : World} {v : Value} {e : Ending} {w' : World} (h : Qt w v e w') : e = .returned v ∧ Below w.heap.size w w' := by
  obtain ⟨h1, m, rfl⟩ := h
  exact ⟨h1, ⟨rfl, rfl, rfl, Nat.le_refl _, fun k _ => rfl⟩⟩
end Go.Proofs.YtkckncggiicciaaDoor
