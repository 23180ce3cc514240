/-
  What the listed variables give the walks, the two errors of strconv among them; the door's own heap meets the condition.
-/
import Derived.Test.YtpndhfnoppkmgaaDoorLawt
import Derived.Test.YtpndhfnoppkmgaaDoorPuint
namespace Go.Proofs.YtpndhfnoppkmgaaDoor
open Go.RowKit Go.ChangeShapes Go.WideShapes Go.ChangeAt
set_option maxRecDepth 100000
def laid5 : List (String × DataW Unit) := [("math/bits.deBruijn32tab", Rows.laid_math_bits_deBruijn32tab), ("math/bits.deBruijn64tab", Rows.laid_math_bits_deBruijn64tab), ("internal/strconv.uint64pow10", Rows.laid_internal_strconv_uint64pow10), ("strconv.ErrRange", Rows.laid_strconv_ErrRange), ("strconv.ErrSyntax", Rows.laid_strconv_ErrSyntax)]
theorem door_met2 (os : Os) (args : Array Value) : laidMetH Tryd.prog laid5 ((World.doorLaid Tryd.prog doorSteps os).forCall (fun _ _ => 0) ⟨#[], args, []⟩).memory :=
  laidMetH_of_parts3 (fuel := 8) (laidMet_of_run' 8 (by kernel_rfl) (by kernel_rfl)) (by kernel_rfl) (by kernel_rfl)
theorem errStar : "*" ++ "errors.errorString" = "*errors.errorString" := by decide
theorem errRow (u : TypeId) (h : Tryd.prog.typeName? 3 u = some "*errors.errorString") : u = 112 :=
  typeName_ptr_named (nm := "errors.errorString") (by rw [errStar]; kernel_rfl) (by kernel_rfl) (by decide) u (by rw [errStar]; exact h)
theorem tz_of_laid2 {W : World} (h : laidMetH Tryd.prog laid5 W) : TzAt W ∧ ErrAt W := by
  rw [MakeChecks.laidMetH_plain _ _ _ (by kernel_rfl)] at h
  refine ⟨tz_of_list h, ?_⟩
  have h1 := h.tail.tail.tail
  have h2 := h1.tail
  obtain ⟨a1, s1, e1, _⟩ := laid_sentinel (g := 3) (ti := 66) h1 (by kernel_rfl) (by kernel_rfl) Tryd.underlying66 errRow Tryd.underlying112 Tryd.underlying114 rfl rfl Tryd.underlying9 (by kernel_rfl) (by kernel_rfl)
  obtain ⟨a2, s2, e2, _⟩ := laid_sentinel (g := 2) (ti := 66) h2 (by kernel_rfl) (by kernel_rfl) Tryd.underlying66 errRow Tryd.underlying112 Tryd.underlying114 rfl rfl Tryd.underlying9 (by kernel_rfl) (by kernel_rfl)
  have q1 := World.var?_cell (g := 3) (by kernel_rfl) e1 0
  have q2 := World.var?_cell (g := 2) (by kernel_rfl) e2 0
  exact ⟨⟨_, _, q2⟩, ⟨_, _, q1⟩⟩
end Go.Proofs.YtpndhfnoppkmgaaDoor
