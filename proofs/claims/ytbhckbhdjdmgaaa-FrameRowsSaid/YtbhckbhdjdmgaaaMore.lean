/-
  The walks of frame.more, sum, Sum, put, get.
-/
import Derived.Test.YtbhckbhdjdmgaaaTable
import Derived.BigQuiet
import Derived.Deep.QuietTactic
namespace Go.Proofs.Ytbhckbhdjdmgaaa
open Go.RowKit
def MoreRel (w : World) (g : Nat) (B : Nat) (A : Option Addr) (n cap : Nat) (l : List UInt8) (wr : World) : Prop :=
  Below w.heap.size w wr ∧ wr.heap[g]? = some (.cells tabA 53 (0, 0)) ∧ By wr B A n cap l
set_option maxRecDepth 100000 in
set_option maxHeartbeats 400000 in
theorem more_any (s : BitVec 32) (A : Option Addr) (n cap : Nat) (l : List UInt8) (w : World) (B : Nat) (hB : B ≤ w.heap.size) (hb : By w B A n cap l) :
    Calls Try.prog 29 #[.int .u32 s.toNat, .slice A n cap] w fun e w' => e = .returned (.int .u32 (Fr.crc s l).toNat) ∧ Below w.heap.size w w' := by
  have hz := zeroV
  have hne := zs_ne
  have hn : n ≤ 9223372036854775807 := by have := hb.2.1; have := hb.2.2.1; unfold maxLen at this; omega
  go_enter Try.func29, Try.ntmps29
  go_wp2_with (first
    | (go_at_call 30; refine (table_any _).mono ?_; rintro e w1 ⟨rfl, hb1⟩)
    | refine wpList_store_row rfl _ _ _ rfl _ _ rfl rfl _ _ (heap_alloc_new _ _) (by kernel_rfl) (by rw [zs_size, tabA_size]) tabA_all ?_)
  go_loopg [0, 11] n (fun m s0 s11 wr => ∃ k : Nat, k + m = n ∧ s11 = .int .i64 k ∧ s0 = .int .u32 (Fr.crc s (l.take k)).toNat ∧ MoreRel w w1.heap.size B A n cap l wr)
  case atStart =>
    refine ⟨0, by omega, rfl, by simp [Fr.crc], below_setRow (hb1.alloc hb1.size _) hb1.size _, setRow_heap _ _ _ _ _ _ (heap_alloc_new _ _), ?_⟩
    exact hb.below (below_setRow (hb1.alloc hb1.size _) hb1.size _) hB
  case round =>
    obtain ⟨k, hk, rfl, rfl, hbw, hg, hby⟩ := hrel
    by_cases hlt : k < n
    · obtain ⟨b, off, c, rfl, hbB, hc1, Hc⟩ := hby.step hlt
      obtain ⟨S, HS⟩ : ∃ S, Hid (Fr.crc s (l.take k) = S) := ⟨_, rfl⟩
      rw [HS.out]
      have Hn : Hid (Fr.crc s (l.take (k + 1)) = Fr.upd S c) := by
        unfold Hid
        rw [Hc.out.2, Fr.crc_snoc, HS.out]
      have hS := bv_lt S
      clear HS
      obtain ⟨J, hJ⟩ : ∃ J : Nat, Hid ((S.setWidth 8 ^^^ c.toBitVec).toNat = J) := ⟨_, rfl⟩
      have hJ1 : bits .xor .u8 ((S.toNat : Int) % 256) (c.toNat : Int) = (J : Int) := by
        have := u8_bxor (S.setWidth 8) c.toBitVec
        rw [hJ.out] at this
        rw [← this]
        congr 1
      have hJ2 : J < 256 := by rw [← hJ.out]; exact (S.setWidth 8 ^^^ c.toBitVec).isLt
      have hcell : wr.cell? ⟨w1.heap.size, J, none⟩ = some (.int .u32 (Fr.tab J).toNat) := (cell_of_row _ _ _ _ _ _ hg).trans (tabA_at hJ2)
      have Hk := Lib.hid hk
      clear hk
      have Hg := Lib.hid hg
      clear hg
      go_wp2_with fail
      go_roundg (gk - 1)
      case rel =>
        refine ⟨k + 1, by have := Hk.out; omega, by go_num, val_int ?_, hbw, Hg.out, hby⟩
        rw [Hn.out]
        unfold Fr.upd
        rw [hJ.out, u32_shr8, u32_bxor]
      case measure => have := Hk.out; omega
    · have hl : l.take k = l := List.take_of_length_le (by have := hby.len; omega)
      rw [hl]
      clear hl
      have Hg := Lib.hid hg
      clear hg
      go_wp2_with fail
      go_ret
      exact ⟨rfl, hbw⟩

theorem bv_ofNat (n : Nat) : bv (UInt8.ofNat n) = .int .u8 ((n : Int) % 256) := by
  unfold bv
  rw [UInt8.toNat_ofNat']
  rfl
theorem hi4_cells (n : Nat) : (hi4 n).map bv = [.int .u8 ((n : Int) / 16777216 % 256), .int .u8 ((n : Int) / 65536 % 256), .int .u8 ((n : Int) / 256 % 256), .int .u8 ((n : Int) % 256)] := by
  simp only [hi4, List.map_cons, List.map_nil, bv_ofNat]
  simp
theorem hi4_new (w : World) (n : Nat) (hn : n < 4294967296) : Rd (w.alloc (.cells #[.int .u8 ((n : Int) / 16777216), .int .u8 ((n : Int) / 65536 % 256), .int .u8 ((n : Int) / 256 % 256), .int .u8 ((n : Int) % 256)] 5)) (w.heap.size + 1) 1 (some ⟨w.heap.size, 0, none⟩) 4 4 ((hi4 n).map bv) := by
  have e : ((n : Int) / 16777216 % 256) = (n : Int) / 16777216 := by omega
  refine ⟨rfl, Nat.le_refl _, by decide, fun _ => ⟨w.heap.size, 0, rfl, by omega, fun j u hu => ?_⟩⟩
  rw [hi4_cells, e] at hu
  rw [Nat.zero_add, cell_of_row _ _ _ _ _ _ (heap_alloc_new w _)]
  simpa using hu
def PutPost (w : World) (base : Nat) (v : Value) (l : List UInt8) (e : Ending) (w' : World) : Prop :=
  ∃ v', e = .returned v' ∧ OwnB w' base v' l ∧ w.grownBy w' v.ownBlock
set_option maxHeartbeats 400000 in
theorem put_any (base : Nat) (v : Value) (l : List UInt8) (n : Nat) (hn : n < 4294967296) (w : World) (hbase : base ≤ w.heap.size) (hl : l.length ≤ 1000000) (hown : OwnB w base v l) :
    Calls Try.prog 24 #[v, .int .u32 n] w (PutPost w base v (l ++ hi4 n)) := by
  obtain ⟨i0, hi, hz0, hz1, hz2⟩ := info_parts info_u8
  go_enter Try.func24, Try.ntmps24
  go_wp2_with (
    (at_builtin
     refine wpList_app rfl (.tmp 5) (.tmp 17) _ rfl base 5 i0 _ 1 1 Try.underlying22 hi hz0 hz1 hz2 rfl (by omega) v l.length (l.map bv) rfl (hown.alloc _) (w.heap.size + 1) (some ⟨w.heap.size, 0, none⟩) 4 4 ((hi4 n).map bv) rfl ?c1 ?c2 ?c3 ?c4 ?c5 ?_
     case c1 => exact hi4_new w n hn
     case c2 => intro u hu; obtain ⟨c, _, rfl⟩ := List.mem_map.1 hu; rfl
     case c3 => simp only [maxLen]; omega
     case c4 => omega
     case c5 => simp; omega
     intro v' w' ho hg _))
  go_ret
  refine ⟨v', rfl, ?_, grown_alloc hg⟩
  unfold OwnB
  rw [List.length_append, List.map_append]
  exact ho
set_option maxHeartbeats 400000 in
theorem Sum_any (A : Option Addr) (n cap : Nat) (l : List UInt8) (w : World) (B : Nat) (hB : B ≤ w.heap.size) (hb : By w B A n cap l) :
    Calls Try.prog 17 #[.slice A n cap] w fun e w' => e = .returned (.int .u32 (Fr.sum l).toNat) ∧ Below w.heap.size w w' := by
  have hsg := u32_unsigned
  go_enter Try.func17, Try.ntmps17
  go_wp2_with fail
  refine (more_any (~~~ 0#32) A n cap l w B hB hb).mono ?_
  rintro e w1 ⟨rfl, hb1⟩
  go_wp2_with fail
  go_ret
  refine ⟨ret_int ?_, hb1⟩
  rw [u32_not]
  rfl
set_option maxHeartbeats 400000 in
theorem sum_any (A A' : Option Addr) (n cap n' cap' : Nat) (l l' : List UInt8) (w : World) (B B' : Nat) (hB : B ≤ w.heap.size) (hB' : B' ≤ w.heap.size) (hb : By w B A n cap l) (hb' : By w B' A' n' cap' l') :
    Calls Try.prog 25 #[.slice A n cap, .slice A' n' cap'] w fun e w' => e = .returned (.int .u32 (Fr.sum (l ++ l')).toNat) ∧ Below w.heap.size w w' := by
  have hsg := u32_unsigned
  go_enter Try.func25, Try.ntmps25
  go_wp2_with fail
  refine (more_any (~~~ 0#32) A n cap l w B hB hb).mono ?_
  rintro e w1 ⟨rfl, hb1⟩
  go_wp2_with fail
  refine (more_any _ A' n' cap' l' w1 B' (Nat.le_trans hB' hb1.size) (hb'.below hb1 hB')).mono ?_
  rintro e w2 ⟨rfl, hb2⟩
  go_wp2_with fail
  go_ret
  refine ⟨ret_int ?_, hb1.trans (hb2.mono hb1.size)⟩
  rw [u32_not, ← Fr.crc_append]
  rfl
set_option maxHeartbeats 400000 in
theorem get_any (A : Option Addr) (cap : Nat) (a b c d : UInt8) (w : World) (B : Nat) (hb : By w B A 4 cap [a, b, c, d]) :
    Calls Try.prog 26 #[.slice A 4 cap] w fun e w' => e = .returned (.int .u32 (num [a, b, c, d])) ∧ ∃ k, w' = w.drewN k := by
  obtain ⟨g, off, rfl, _, hc⟩ := hb.at (by omega)
  have c0 := hc 0 (by simp)
  have c1 := hc 1 (by simp)
  have c2 := hc 2 (by simp)
  have c3 := hc 3 (by simp)
  have k0 : a.toNat < 256 := a.toNat_lt
  have k1 : b.toNat < 256 := b.toNat_lt
  have k2 : c.toNat < 256 := c.toNat_lt
  have k3 : d.toNat < 256 := d.toNat_lt
  simp only [List.getElem_cons_succ, List.getElem_cons_zero, Nat.add_zero] at c0 c1 c2 c3
  clear hc hb
  go_enter Try.func26, Try.ntmps26
  go_wp2_with fail
  go_quiet (fail)
  go_wp2_with fail
  go_ret
  refine ⟨ret_int ?_, _, rfl⟩
  rw [get_eq _ _ _ _ k0 k1 k2 k3]
  simp [num]
end Go.Proofs.Ytbhckbhdjdmgaaa
