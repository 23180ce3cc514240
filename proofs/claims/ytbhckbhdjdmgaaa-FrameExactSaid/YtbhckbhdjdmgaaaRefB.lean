/-
  The walk of the document's Sum: bit by bit.
-/
import Derived.Test.YtbhckbhdjdmgaaaRefA
namespace Go.Proofs.Ytbhckbhdjdmgaaa
open Go.RowKit
/-- The register while a byte's bits come in. -/
def reg (s : BitVec 32) (c : UInt8) (k : Nat) : BitVec 32 := Fr.stpn k (s ^^^ Fr.ext c) ^^^ (Fr.ext c >>> k)
theorem reg_zero (s : BitVec 32) (c : UInt8) : reg s c 0 = s := by
  simp [reg, Fr.stpn, BitVec.xor_assoc]
theorem ext_shr8 (c : UInt8) : Fr.ext c >>> 8 = 0#32 := by
  apply BitVec.eq_of_toNat_eq
  rw [BitVec.toNat_ushiftRight, Nat.shiftRight_eq_div_pow]
  have := Fr.ext_lt c
  rw [Nat.div_eq_of_lt this]
  rfl
theorem reg_eight (s : BitVec 32) (c : UInt8) : reg s c 8 = Fr.upd s c := by
  rw [Fr.upd_eq, reg, ext_shr8, BitVec.xor_zero]
theorem ext_bit (c : UInt8) (k : Nat) (hk : k < 8) : (Fr.ext c).getLsbD k = c.toBitVec.getLsbD k := by
  simp [Fr.ext]
  omega
theorem reg_succ (s : BitVec 32) (c : UInt8) (k : Nat) (hk : k < 8) :
    reg s c (k + 1) = if ((reg s c k).getLsbD 0 ^^ c.toBitVec.getLsbD k) = true then (reg s c k >>> 1) ^^^ 0xedb88320#32 else reg s c k >>> 1 := by
  have h0 : ((reg s c k).getLsbD 0 ^^ c.toBitVec.getLsbD k) = (Fr.stpn k (s ^^^ Fr.ext c)).getLsbD 0 := by
    unfold reg
    rw [BitVec.getLsbD_xor, BitVec.getLsbD_ushiftRight, Nat.add_zero, ext_bit c k hk, Bool.xor_assoc, Bool.xor_self, Bool.xor_false]
  rw [h0]
  unfold reg
  simp only [Fr.stpn]
  conv => lhs; unfold Fr.stp
  rw [Fr.ushr_xor, ← BitVec.shiftRight_add]
  split
  · rw [BitVec.xor_assoc, BitVec.xor_assoc, BitVec.xor_comm (3988292384#32)]
  · rfl
/-- The low bit as the walk has it. -/
def lowI (b : Bool) : Int := if b then 1 else 0
theorem and_low (s : BitVec 32) : bits .and .u32 (s.toNat : Int) 1 = lowI (s.getLsbD 0) := by
  rw [u32_low, BitVec.getLsbD, Nat.testBit_zero]
  unfold lowI
  by_cases h : s.toNat % 2 = 1 <;> simp [h] <;> omega
theorem and_bit (c : UInt8) (k : Nat) : bits .and .u32 ((c.toNat : Int) / 2 ^ k) 1 = lowI (c.toBitVec.getLsbD k) := by
  have e : ((c.toNat : Int) / 2 ^ k) = ((c.toNat / 2 ^ k : Nat) : Int) := by simp
  have hlt : c.toNat / 2 ^ k < 4294967296 := Nat.lt_of_le_of_lt (Nat.div_le_self _ _) (by have := c.toNat_lt; omega)
  have h := u32_and_nat (c.toNat / 2 ^ k) 1 hlt (by decide)
  rw [Nat.and_one_is_mod] at h
  rw [e]
  refine h.trans ?_
  unfold lowI
  rw [BitVec.getLsbD, ← Nat.toNat_testBit]
  have e2 : c.toBitVec.toNat = c.toNat := rfl
  rw [e2]
  cases c.toNat.testBit k <;> rfl
theorem xor_low (a b : Bool) : bits .xor .u32 (lowI a) (lowI b) = lowI (a ^^ b) := by
  cases a <;> cases b <;> decide
set_option maxHeartbeats 800000 in
theorem RSum_any (A : Option Addr) (n cap : Nat) (l : List UInt8) (w : World) (B : Nat) (hb : By w B A n cap l) :
    Calls Try.prog 18 #[.slice A n cap] w fun e w' => e = .returned (.int .u32 (Fr.sum l).toNat) ∧ w = w' := by
  have hn1 : n ≤ 9223372036854775807 := by have := hb.2.1; have := hb.2.2.1; unfold maxLen at this; omega
  have hsg := u32_unsigned
  go_enter Try.func18, Try.ntmps18
  go_wp2_with fail
  go_loopg [3, 4] n (fun m s3 s4 wr => w = wr ∧ ∃ k : Nat, k + m = n ∧ s4 = .int .i64 k ∧ s3 = .int .u32 (Fr.crc (~~~ 0#32) (l.take k)).toNat)
  case atStart => exact ⟨rfl, 0, by omega, rfl, rfl⟩
  case round =>
    obtain ⟨rfl, k, hk, rfl, rfl⟩ := hrel
    obtain ⟨gko, rfl⟩ : ∃ gko, gko = gk := ⟨_, rfl⟩
    have hkn : k ≤ n := by omega
    have Hk := Lib.hid hk
    clear hk
    by_cases hlt : k < n
    · obtain ⟨b, off, c, rfl, hbB, hc, Hc⟩ := hb.step hlt
      obtain ⟨S, HS⟩ : ∃ S, Hid (Fr.crc (~~~ 0#32) (l.take k) = S) := ⟨_, rfl⟩
      rw [HS.out]
      have Hn : Hid (Fr.crc (~~~ 0#32) (l.take (k + 1)) = Fr.upd S c) := by unfold Hid; rw [Hc.out.2, Fr.crc_snoc, HS.out]
      clear HS
      have hcb := c.toNat_lt
      go_wp2_with fail
      go_loopg [3, 5] 8 (fun m s3 s5 wr1 => w = wr1 ∧ ∃ i : Nat, i + m = 8 ∧ s5 = .int .i64 i ∧ s3 = .int .u32 (reg S c i).toNat)
      case atStart => exact ⟨rfl, 0, by omega, rfl, by rw [reg_zero]⟩
      case round =>
        obtain ⟨rfl, i, hi, rfl, rfl⟩ := hrel
        have hi8 : i ≤ 8 := by omega
        have Hi := Lib.hid hi
        clear hi
        by_cases hlt8 : i < 8
        · have hs := reg_succ S c i hlt8
          obtain ⟨R, HR⟩ : ∃ R, Hid (reg S c i = R) := ⟨_, rfl⟩
          rw [HR.out] at hs ⊢
          clear HR
          have e1 := and_low R
          have e2 : bits .and .u32 ((c.toNat : Int) / 2 ^ i % 4294967296) 1 = lowI (c.toBitVec.getLsbD i) := by
            have h1 : (c.toNat : Int) / 2 ^ i % 4294967296 = (c.toNat : Int) / 2 ^ i := by
              have e : ((c.toNat : Int) / 2 ^ i) = ((c.toNat / 2 ^ i : Nat) : Int) := by simp
              have h2 : c.toNat / 2 ^ i ≤ c.toNat := Nat.div_le_self _ _
              rw [e]
              generalize c.toNat / 2 ^ i = z at h2
              omega
            rw [h1]
            exact and_bit c i
          have e3 := xor_low (R.getLsbD 0) (c.toBitVec.getLsbD i)
          obtain ⟨q, hq⟩ : ∃ q, (R.getLsbD 0 ^^ c.toBitVec.getLsbD i) = q := ⟨_, rfl⟩
          rw [hq] at hs e3
          clear hq
          generalize R.getLsbD 0 = x1 at e1 e3
          generalize c.toBitVec.getLsbD i = x2 at e2 e3
          have hR := bv_lt R
          cases q
          · have Hs := Lib.hid hs
            clear hs
            have e4 : (lowI false == 1) = false := by decide
            go_wp2_with fail
            go_roundg (gk - 1)
            case rel =>
              refine ⟨rfl, i + 1, by have := Hi.out; omega, by go_num, val_int ?_⟩
              rw [Hs.out, u32_half]
              rfl
            case measure => have := Hi.out; omega
          · have Hs := Lib.hid hs
            clear hs
            have e4 : (lowI true == 1) = true := by decide
            go_wp2_with fail
            go_roundg (gk - 1)
            case rel =>
              refine ⟨rfl, i + 1, by have := Hi.out; omega, by go_num, val_int ?_⟩
              have e5 : (3988292384 : Int) = ((0xedb88320#32 : BitVec 32).toNat : Int) := by decide
              rw [Hs.out, u32_half, e5, u32_bxor]
              rfl
            case measure => have := Hi.out; omega
        · obtain rfl : i = 8 := by omega
          rw [reg_eight]
          go_wp2_with fail
          go_roundg (gko - 1)
          case rel => exact ⟨rfl, k + 1, by have := Hk.out; omega, by go_num, by rw [Hn.out]⟩
          case measure => have := Hk.out; omega
    · have e : l.take k = l := List.take_of_length_le (by have := hb.len; omega)
      rw [e]
      clear e
      go_wp2_with fail
      go_ret
      refine ⟨ret_int ?_, rfl⟩
      rw [u32_not]
      rfl
end Go.Proofs.Ytbhckbhdjdmgaaa
