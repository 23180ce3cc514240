/-
  The bits of registers, as the walk spells them.
-/
import Derived.WalkKit
import Derived.Test.YtbhckbhdjdmgaaaMath
import Derived.Test.YtbhckbhdjdmgaaaMem
namespace Go.Proofs.Ytbhckbhdjdmgaaa
open Go.RowKit
theorem bv_lt (s : BitVec 32) : s.toNat < 4294967296 := s.isLt
theorem u32_bxor (s t : BitVec 32) : bits .xor .u32 (s.toNat : Int) (t.toNat : Int) = ((s ^^^ t).toNat : Int) := by
  rw [u32_xor_nat _ _ (bv_lt s) (bv_lt t), BitVec.toNat_xor]
theorem u32_low (s : BitVec 32) : bits .and .u32 (s.toNat : Int) 1 = (s.toNat % 2 : Nat) := by
  have h := u32_and_nat s.toNat 1 (bv_lt s) (by decide)
  rw [Nat.and_one_is_mod] at h
  exact h
theorem low_true {s : BitVec 32} (h : s.getLsbD 0 = true) : (bits .and .u32 (s.toNat : Int) 1 == 1) = true := by
  rw [u32_low]
  rw [BitVec.getLsbD, Nat.testBit_zero] at h
  simp at h
  simp [h]
theorem low_false {s : BitVec 32} (h : ¬ s.getLsbD 0 = true) : (bits .and .u32 (s.toNat : Int) 1 == 1) = false := by
  rw [u32_low]
  rw [BitVec.getLsbD, Nat.testBit_zero] at h
  simp at h
  simp [h]
theorem u32_half (s : BitVec 32) : (s.toNat : Int) / (2 : Int) = ((s >>> 1).toNat : Int) := by
  rw [BitVec.toNat_ushiftRight, Nat.shiftRight_eq_div_pow]; rfl
theorem u32_shr8 (s : BitVec 32) : (s.toNat : Int) / (256 : Int) = ((s >>> 8).toNat : Int) := by
  rw [BitVec.toNat_ushiftRight, Nat.shiftRight_eq_div_pow]; rfl
theorem u8_bxor (a b : BitVec 8) : bits .xor .u8 (a.toNat : Int) (b.toNat : Int) = ((a ^^^ b).toNat : Int) := by
  rw [u8_xor_nat _ _ a.isLt b.isLt, BitVec.toNat_xor]
theorem stp_true {S : BitVec 32} (h : S.getLsbD 0 = true) : bits .xor .u32 ((S.toNat : Int) / 2) 3988292384 = ((Fr.stp S).toNat : Int) := by
  have e : (3988292384 : Int) = ((0xedb88320#32 : BitVec 32).toNat : Int) := by decide
  rw [u32_half, e, u32_bxor, Fr.stp, if_pos h]
theorem stp_false {S : BitVec 32} (h : ¬ S.getLsbD 0 = true) : (S.toNat : Int) / 2 = ((Fr.stp S).toNat : Int) := by
  rw [u32_half, Fr.stp, if_neg h]
theorem u32_not (s : BitVec 32) : bits .xor .u32 IntKind.u32.max (s.toNat : Int) = ((~~~ s).toNat : Int) := by
  have e : IntKind.u32.max = (((~~~ 0#32 : BitVec 32)).toNat : Int) := by decide
  have e2 : (~~~ 0#32 ^^^ s : BitVec 32) = ~~~ s := by
    rw [show (~~~ 0#32 : BitVec 32) = BitVec.allOnes 32 from by decide, BitVec.allOnes_xor]
  rw [e, u32_bxor, e2]
theorem u32_unsigned : ¬ IntKind.u32.signed = true := by decide
theorem wraps_u32 (n : Int) (h0 : 0 ≤ n) (h1 : n < 2 ^ 32) : IntKind.u32.wrap n = n := by rw [IntKind.wrap_u32]; omega
theorem get_eq (a b c d : Nat) (ha : a < 256) (hb : b < 256) (hc : c < 256) (hd : d < 256) :
    bits .or .u32 (bits .or .u32 (bits .or .u32 ((a : Int) * 16777216) ((b : Int) * 65536)) ((c : Int) * 256)) (d : Int) = (((a * 256 + b) * 256 + c) * 256 + d : Nat) := by
  have e1 : bits .or .u32 ((a : Int) * 16777216) ((b : Int) * 65536) = (a : Int) * 16777216 + (b : Int) * 65536 := bits_join .u32 32 (by decide) wraps_u32 24 _ _ (by omega) (by omega) (by omega) (by omega) (by omega) (by omega)
  have e2 : bits .or .u32 ((a : Int) * 16777216 + (b : Int) * 65536) ((c : Int) * 256) = (a : Int) * 16777216 + (b : Int) * 65536 + (c : Int) * 256 := bits_join .u32 32 (by decide) wraps_u32 16 _ _ (by omega) (by omega) (by omega) (by omega) (by omega) (by omega)
  have e3 : bits .or .u32 ((a : Int) * 16777216 + (b : Int) * 65536 + (c : Int) * 256) (d : Int) = (a : Int) * 16777216 + (b : Int) * 65536 + (c : Int) * 256 + (d : Int) := bits_join .u32 32 (by decide) wraps_u32 8 _ _ (by omega) (by omega) (by omega) (by omega) (by omega) (by omega)
  rw [e1, e2, e3]
  omega
end Go.Proofs.Ytbhckbhdjdmgaaa
