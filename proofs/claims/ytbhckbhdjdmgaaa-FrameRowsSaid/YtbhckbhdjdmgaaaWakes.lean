/-
  The walks of skerrylaw03.wakes and frame.Scan.
-/
import Derived.Test.YtbhckbhdjdmgaaaSeal
import Derived.Test.YtbhckbhdjdmgaaaBrows
import Derived.Lib.SlBytesConst
namespace Go.Proofs.Ytbhckbhdjdmgaaa
open Go.RowKit
theorem sum_nine : (Fr.sum [49, 50, 51, 52, 53, 54, 55, 56, 57]).toNat = 3421780262 := by decide +kernel
theorem nine_by (w : World) : By (w.alloc (.cells #[.int .u8 49, .int .u8 50, .int .u8 51, .int .u8 52, .int .u8 53, .int .u8 54, .int .u8 55, .int .u8 56, .int .u8 57] 5 (9, 10))) (w.heap.size + 1) (some ⟨w.heap.size, 0, none⟩) 9 9 [49, 50, 51, 52, 53, 54, 55, 56, 57] := by
  refine ⟨rfl, Nat.le_refl _, by decide, fun _ => ⟨w.heap.size, 0, rfl, by omega, fun j u hu => ?_⟩⟩
  rw [Nat.zero_add, World.cell?_alloc_mark]
  simpa [bv] using hu
set_option maxHeartbeats 400000 in
theorem wakes_any (w : World) : Calls Try.prog 14 #[] w fun e w' => e = .returned (.bool true) ∧ Below w.heap.size w w' := by
  have kc := fun (w : World) (C : Array Value) (n c : Nat) => Lib.run_convert_bytes_const (P := Try.prog) w 22 5 C n c Try.underlying22 Try.underlying5
  go_enter Try.func14, Try.ntmps14
  go_wp2_with (go_at_call 17; refine (Sum_any _ _ _ _ _ _ (by simp) (nine_by w)).mono ?_; rintro e w1 ⟨rfl, hb1⟩; rw [sum_nine])
  go_ret
  exact ⟨rfl, ((Below.refl _ _).alloc (Nat.le_refl _) _).trans (hb1.mono (by simp))⟩
end Go.Proofs.Ytbhckbhdjdmgaaa
