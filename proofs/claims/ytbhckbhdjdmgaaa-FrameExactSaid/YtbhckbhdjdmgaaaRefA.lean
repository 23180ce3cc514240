/-
  The walks of the document's High, Number, Sum.
-/
import Derived.Test.YtbhckbhdjdmgaaaSeal
import Derived.Test.YtbhckbhdjdmgaaaKeep
namespace Go.Proofs.Ytbhckbhdjdmgaaa
open Go.RowKit
def HighRel (w : World) (x : Nat) (m : Nat) (v s6 : Value) (wr : World) : Prop :=
  Below w.heap.size w wr ∧ ∃ k : Nat, k + m = 4 ∧ s6 = .int .i64 (3 - (k : Int)) ∧ OwnB wr w.heap.size v ((hi4 x).take k)
theorem hi4_at (x : Nat) : (hi4 x)[0]? = some (UInt8.ofNat (x / 16777216)) ∧ (hi4 x)[1]? = some (UInt8.ofNat (x / 65536)) ∧ (hi4 x)[2]? = some (UInt8.ofNat (x / 256)) ∧ (hi4 x)[3]? = some (UInt8.ofNat x) := ⟨rfl, rfl, rfl, rfl⟩
set_option maxHeartbeats 800000 in
theorem High_any (x : Nat) (w : World) :
    Calls Try.prog 27 #[.int .u64 x, .int .i64 4] w (TwinPost w (hi4 x)) := by
  go_enter Try.func27, Try.ntmps27
  go_wp2_with fail
  go_loopg [5, 6] 4 (fun m v s6 wr => HighRel w x m v s6 wr)
  case atStart => exact ⟨Below.refl _ _, 0, rfl, rfl, World.ownsRow_nil _ _ _ _⟩
  case round =>
    obtain ⟨hbw, k, hk, rfl, ho⟩ := hrel
    have hk4 : k ≤ 4 := by omega
    have Hk := Lib.hid hk
    clear hk
    by_cases h4 : k < 4
    · have hexp : ((8 * (3 - (k : Int))).toNat) = 8 * (3 - k) := by omega
      obtain ⟨c, hc, hcn⟩ : ∃ c : UInt8, (hi4 x)[k]? = some c ∧ (x : Int) / 2 ^ (8 * (3 - k)) % 256 = (c.toNat : Int) := by
        have h := hi4_at x
        have hq : k = 0 ∨ k = 1 ∨ k = 2 ∨ k = 3 := by omega
        rcases hq with rfl | rfl | rfl | rfl
        · exact ⟨_, h.1, by rw [UInt8.toNat_ofNat']; rfl⟩
        · exact ⟨_, h.2.1, by rw [UInt8.toNat_ofNat']; rfl⟩
        · exact ⟨_, h.2.2.1, by rw [UInt8.toNat_ofNat']; rfl⟩
        · exact ⟨_, h.2.2.2, by rw [UInt8.toNat_ofNat']; simp⟩
      have Hc : Hid ((hi4 x).take (k + 1) = (hi4 x).take k ++ [c]) := by
        unfold Hid
        rw [List.take_add_one, hc]
        rfl
      clear hc
      go_wp2_with (
        (at_builtin
         refine wpList_appB rfl (.tmp 13) (.tmp 19) rfl w.heap.size u5 _ rfl (ho.alloc _) (wr.heap.size + 1) (some ⟨wr.heap.size, 0, none⟩) 1 1 [c] rfl (by_one wr c) ?c1 ?c2 ?_
         case c1 => simp [hi4_length]; omega
         case c2 => simp; have := hbw.size; omega
         intro v3 w3 ho3 hg3))
      go_roundg (gk - 1)
      case rel =>
        refine ⟨(hbw.alloc hbw.size _).grown hg3 (by simp; have := hbw.size; omega) (fun j hj => (ho.lt j hj).1), k + 1, by have := Hk.out; omega, by congr 1; omega, ?_⟩
        rw [Hc.out]
        exact ho3
      case measure => have := Hk.out; omega
    · obtain rfl : k = 4 := by omega
      go_wp2_with fail
      go_ret
      exact ⟨u5, rfl, ho, hbw⟩
/-- The bytes of a number, one more. -/
theorem num_snoc (l : List UInt8) (c : UInt8) : num (l ++ [c]) = num l * 256 + c.toNat := by simp [num]
theorem num_fold : ∀ (l : List UInt8) (x b : Nat), x < b → l.foldl (fun x c => x * 256 + c.toNat) x < b * 256 ^ l.length
  | [], x, b, h => by simpa using h
  | c :: l, x, b, h => by
    have := c.toNat_lt
    have h2 := num_fold l (x * 256 + c.toNat) (b * 256) (by omega)
    rw [Nat.mul_assoc, ← Nat.pow_succ'] at h2
    exact h2
theorem num_bound (l : List UInt8) : num l < 256 ^ l.length := by
  have := num_fold l 0 1 (by omega)
  simpa [num] using this
theorem wraps_u64 (n : Int) (h0 : 0 ≤ n) (h1 : n < 2 ^ 64) : IntKind.u64.wrap n = n := by simp [IntKind.wrap, IntKind.bits, IntKind.signed]; omega
set_option maxHeartbeats 800000 in
theorem Number_any (A : Option Addr) (n cap : Nat) (l : List UInt8) (w : World) (B : Nat) (hb : By w B A n cap l) (hn : n ≤ 4) :
    Calls Try.prog 28 #[.slice A n cap] w fun e w' => e = .returned (.int .u64 (num l)) ∧ w = w' := by
  go_enter Try.func28, Try.ntmps28
  go_wp2_with fail
  go_loopg [3, 4] n (fun m s3 s4 wr => w = wr ∧ ∃ k : Nat, k + m = n ∧ s4 = .int .i64 k ∧ s3 = .int .u64 (num (l.take k)))
  case atStart => exact ⟨rfl, 0, by omega, rfl, rfl⟩
  case round =>
    obtain ⟨rfl, k, hk, rfl, rfl⟩ := hrel
    have hkn : k ≤ n := by omega
    have Hk := Lib.hid hk
    clear hk
    by_cases hlt : k < n
    · obtain ⟨b, off, c, rfl, hbB, hc, Hc⟩ := hb.step hlt
      obtain ⟨N, hN⟩ : ∃ N, Hid (num (l.take k) = N) := ⟨_, rfl⟩
      have hNb : N < 16777216 := by
        have h1 := num_bound (l.take k)
        have h2 : (l.take k).length ≤ 3 := by simp; omega
        have h3 : 256 ^ (l.take k).length ≤ 256 ^ 3 := Nat.pow_le_pow_right (by decide) h2
        rw [hN.out] at h1
        omega
      rw [hN.out]
      have Hn : Hid (num (l.take (k + 1)) = N * 256 + c.toNat) := by unfold Hid; rw [Hc.out.2, num_snoc, hN.out]
      clear hN
      have hcb := c.toNat_lt
      have hor : bits .or .u64 ((N : Int) * 256) (c.toNat : Int) = ((N * 256 + c.toNat : Nat) : Int) := by
        have := bits_join .u64 64 (by decide) wraps_u64 8 ((N : Int) * 256) (c.toNat : Int) (by omega) (by omega) (by omega) (by omega) (by omega) (by omega)
        rw [this]; omega
      go_wp2_with fail
      go_roundg (gk - 1)
      case rel =>
        refine ⟨rfl, k + 1, by have := Hk.out; omega, by go_num, ?_⟩
        rw [Hn.out]
        first | rfl | exact val_int hor
      case measure => have := Hk.out; omega
    · have e : l.take k = l := List.take_of_length_le (by have := hb.len; omega)
      rw [e]
      clear e
      go_wp2_with fail
      go_ret
      exact ⟨rfl, rfl⟩
end Go.Proofs.Ytbhckbhdjdmgaaa
