/-
  The walks of strconv.FormatUint at sixteen.
-/
import Derived.Test.YtkckncggiicciaaDoorMath1
import Derived.Test.YtkckncggiicciaaDoorHexm
import Derived.Laws.BytesArg
import Derived.Deep.LoopGhost
import Derived.Deep.RegionHeld3
import Derived.BigQuiet
import Derived.Deep.QuietTactic
namespace Go.Proofs.YtkckncggiicciaaDoor
open Go.RowKit
/-- The one cell of the library's table that is read. -/
def TzAt (W : World) : Prop := W.cell? ⟨6, 15, none⟩ = some (.int .u8 4)
theorem TzAt.below {W w : World} (h : TzAt W) (hb : Below W.heap.size W w) : TzAt w := by
  unfold TzAt at *
  have hlt := World.block_lt_of_cell? _ _ h
  exact (hb.cell (p := ⟨_, 15, none⟩) hlt).trans h
theorem TzAt.lt {W : World} (h : TzAt W) : 6 < W.heap.size := World.block_lt_of_cell? _ _ h
theorem TzAt.drewN {W : World} (h : TzAt W) (k : Nat) : TzAt (W.drewN k) := h
theorem tz_key : IntKind.u64.wrap (bits .and .u64 16 (IntKind.u64.wrap (-16)) * 285870213051353865) / 288230376151711744 = 15 := by decide +kernel
set_option maxHeartbeats 1000000 in
theorem tz64_any (W : World) (hT : TzAt W) : Calls Tryd.prog 128 #[.int .u64 16] W fun e w' => e = .returned (.int .i64 4) ∧ W = w' := by
  unfold TzAt at hT
  go_enter Tryd.func128, Tryd.ntmps128
  go_wp2_with (simp only [tz_key])
  go_ret
  exact ⟨rfl, rfl⟩
set_option maxHeartbeats 1000000 in
theorem tz_any (W : World) (hT : TzAt W) : Calls Tryd.prog 111 #[.int .u64 16] W fun e w' => e = .returned (.int .i64 4) ∧ W = w' := by
  have HT := Lib.hid hT
  clear hT
  go_enter Tryd.func111, Tryd.ntmps111
  go_wp2_with (refine (tz64_any _ HT.out).mono ?_; rintro e w1 ⟨rfl, rfl⟩)
  go_ret
  exact ⟨rfl, rfl⟩
set_option maxHeartbeats 1000000 in
theorem pow2_any (W : World) : Calls Tryd.prog 110 #[.int .i64 16] W fun e w' => e = .returned (.bool true) ∧ W = w' := by
  go_enter Tryd.func110, Tryd.ntmps110
  go_wp2_with fail
  go_ret
  exact ⟨rfl, rfl⟩
def FmtPost (n : Nat) (w : World) (e : Ending) (w' : World) : Prop :=
  ∃ j, 1 ≤ j ∧ j ≤ 16 ∧ n < 16 ^ j ∧ e = .returned (.tuple #[.slice none 0 0, .string ⟨(hexL j n).toArray⟩]) ∧ Below w.heap.size w w'
theorem digs_at {d : Nat} (hd : d < 16) (h : d < (⟨#[48, 49, 50, 51, 52, 53, 54, 55, 56, 57, 97, 98, 99, 100, 101, 102, 103, 104, 105, 106, 107, 108, 109, 110, 111, 112, 113, 114, 115, 116, 117, 118, 119, 120, 121, 122]⟩ : ByteArray).size) :
    (⟨#[48, 49, 50, 51, 52, 53, 54, 55, 56, 57, 97, 98, 99, 100, 101, 102, 103, 104, 105, 106, 107, 108, 109, 110, 111, 112, 113, 114, 115, 116, 117, 118, 119, 120, 121, 122]⟩ : ByteArray)[d] = hexd d := by
  have : d = 0 ∨ d = 1 ∨ d = 2 ∨ d = 3 ∨ d = 4 ∨ d = 5 ∨ d = 6 ∨ d = 7 ∨ d = 8 ∨ d = 9 ∨ d = 10 ∨ d = 11 ∨ d = 12 ∨ d = 13 ∨ d = 14 ∨ d = 15 := by omega
  rcases this with rfl | rfl | rfl | rfl | rfl | rfl | rfl | rfl | rfl | rfl | rfl | rfl | rfl | rfl | rfl | rfl <;> rfl
theorem and_15 {u : Nat} (h : u < 18446744073709551616) : bits .and .u64 (u : Int) 15 = ((u % 16 : Nat) : Int) := by
  have := bits_and_u64_nat u 15 h (by omega)
  rw [show ((15 : Nat) : Int) = 15 from rfl] at this
  rw [this]
  have e : u &&& 15 = u % 16 := Nat.and_two_pow_sub_one_eq_mod u 4
  rw [e]
theorem set_drop (cs : Array Value) (i : Nat) (v : Value) (h : i < cs.size) : (cs.setIfInBounds i v).toList.drop i = v :: cs.toList.drop (i + 1) := by
  rw [Array.toList_setIfInBounds, List.drop_set, if_neg (by omega), Nat.sub_self, List.drop_eq_getElem_cons (by simpa using h)]
  rfl
theorem str_hex (l : List UInt8) : strOfNums (l.map fun c => (c.toNat : Int)) = ⟨l.toArray⟩ := by
  unfold strOfNums
  rw [List.map_map]
  congr 1
  have : ((fun n : Int => UInt8.ofNat n.toNat) ∘ fun c : UInt8 => (c.toNat : Int)) = id := by
    funext c
    simp
  rw [this, List.map_id]
theorem getD_hex (l : List UInt8) (k : Nat) (h : k < l.length) : (l.map fun c => (c.toNat : Int)).getD k 0 = (l[k].toNat : Int) := by simp [List.getD, h]
/-- The bytes of an array's rest, as a string. -/
theorem conv_rest {P : Program} (src e dst : TypeId) (hs : P.underlying src = some (.slice e)) (he : P.underlying e = some (.int .u8)) (hd : P.underlying dst = some .string) (w : World) (b i m c : Nat) (t : TypeId) (cs : Array Value) (l : List UInt8)
    (hrow : w.heap[b]? = some (.cells cs t (0, 0))) (hcs : cs.toList.drop i = l.map bv) (hm : m = l.length) :
    (convert src dst (.slice (some ⟨b, i, none⟩) m c)).run P w = .ok (.string ⟨l.toArray⟩) w := by
  subst hm
  rw [run_convert_bytes_arg w src e hs he b i l.length c (l.map fun c => (c.toNat : Int)) (by simp) (fun k hk => ?_) dst hd, str_hex]
  rw [cell_of_row _ _ _ _ _ _ hrow, getD_hex _ _ hk]
  have h1 : (cs.toList.drop i)[k]? = some (bv l[k]) := by rw [hcs]; simp [hk]
  rw [List.getElem?_drop, Array.getElem?_toList] at h1
  exact h1
theorem len91 : Tryd.prog.arrayLen 162 = 65 := by kernel_rfl
theorem elem91 : Tryd.prog.elem 162 = 5 := by kernel_rfl
theorem size91 : (Tryd.prog.info? 162).map (·.size) = some 65 := by kernel_rfl
set_option maxRecDepth 100000 in
set_option maxHeartbeats 3200000 in
theorem fmtBits_any (n : Nat) (w : World) (hn : n < 18446744073709551616) (hT : TzAt w) :
    Calls Tryd.prog 90 #[.slice none 0 0, .int .u64 n, .int .i64 16, .bool false, .bool false] w (FmtPost n w) := by
  have HT := Lib.hid hT
  clear hT
  go_enter Tryd.func90, Tryd.ntmps90
  go_wp2_with (first
    | (go_at_call 110; refine (pow2_any _).mono ?_; rintro e w1 ⟨rfl, rfl⟩)
    | (go_at_call 111; refine (tz_any _ (HT.out.below ((Below.refl _ _).alloc (Nat.le_refl _) _))).mono ?_; rintro e w1 ⟨rfl, rfl⟩))
  have hpow : ∀ j : Nat, 0 < 16 ^ j := fun j => Nat.pow_pos (by omega)
  have Hpow := Lib.hid hpow
  clear hpow
  go_loopg [1, 13] 16 (fun g s1 s13 wr => ∃ (j u i : Nat) (cs : Array Value), j + g = 16 ∧ (j = 0 ∨ 16 ^ j ≤ n) ∧ n / 16 ^ j = u ∧ i + j = 65 ∧ s1 = .int .u64 u ∧ s13 = .int .i64 i ∧ cs.size = 65 ∧ cs.toList.drop i = (hexL j n).map bv ∧ Below w.heap.size w wr ∧ w.heap.size < wr.heap.size ∧ wr.heap[w.heap.size]? = some (.cells cs 162 (0, 0)))
  case atStart => exact ⟨0, n, 65, Tryd.zeroCells162, by omega, .inl rfl, by simp, by omega, rfl, rfl, by kernel_rfl, by kernel_rfl, (Below.refl _ _).alloc (Nat.le_refl _) _, by simp, heap_alloc_new w _⟩
  case round =>
    obtain ⟨j, u, i, cs, hjg, hjn, hu, hij, rfl, rfl, hsz, hcs, hb, hzr, hrow⟩ := hrel
    have Hu := Lib.hid hu
    have Hcs := Lib.hid hcs
    have Hrow := Lib.hid hrow
    have Hsz := Lib.hid hsz
    have Hij := Lib.hid hij
    have Hjg := Lib.hid hjg
    have hi : i ≤ 65 := by omega
    have Hj15 : Hid (j ≤ 15) := by
      show j ≤ 15
      rcases hjn with h | h
      · omega
      · apply Nat.le_of_not_lt
        intro hlt
        have h1 : 16 ^ 16 ≤ 16 ^ j := Nat.pow_le_pow_right (by omega) hlt
        have h2 : (16 : Nat) ^ 16 = 18446744073709551616 := rfl
        omega
    clear hu hcs hrow hsz hij hjg hjn
    obtain ⟨d, hd⟩ : ∃ d, u % 16 = d := ⟨_, rfl⟩
    have hun : u < 18446744073709551616 := by
      rw [← Hu.out]
      exact Nat.lt_of_le_of_lt (Nat.div_le_self _ _) hn
    have hd16 : d < 16 := by omega
    have hand := and_15 hun
    rw [hd] at hand
    have hi1 : 1 ≤ i := by
      apply Nat.le_of_not_lt
      intro hlt
      have h1 := Hjg.out
      have h2 := Hij.out
      omega
    obtain ⟨i', rfl⟩ : ∃ i', i = i' + 1 := ⟨i - 1, by omega⟩
    have hx : ((i' + 1 : Nat) : Int) - 1 = (i' : Int) := by omega
    have hlt' : i' < 65 := by omega
    have hc0 : wr.cell? ⟨w.heap.size, i', none⟩ = some (cs[i']'(by rw [Hsz.out]; exact hlt')) := by
      rw [cell_of_row _ _ _ _ _ _ Hrow.out]
      simp
    have hf0 : wr.frozen? ⟨w.heap.size, i', none⟩ = false := frozen_of_row _ _ _ _ _ Hrow.out
    have Hd := Lib.hid hd
    clear hd
    by_cases hge : 16 ≤ u
    · go_wp2_with fail
      go_roundg (gk - 1)
      case rel =>
        have hv : (⟨#[48, 49, 50, 51, 52, 53, 54, 55, 56, 57, 97, 98, 99, 100, 101, 102, 103, 104, 105, 106, 107, 108, 109, 110, 111, 112, 113, 114, 115, 116, 117, 118, 119, 120, 121, 122]⟩ : ByteArray)[d]'(by show d < 36; omega) = hexd d := digs_at hd16 _
        refine ⟨j + 1, u / 16, i', cs.setIfInBounds i' (bv (hexd d)), by have := Hjg.out; have := Hj15.out; omega, ?_, ?_, by have := Hij.out; omega, by rw [Int.natCast_ediv]; rfl, rfl, by simpa using Hsz.out, ?_, hb.setCell (Nat.le_refl _) _, by simpa [World.setCell] using hzr, ?_⟩
        · right
          have h1 := Hu.out
          rw [Nat.pow_succ]
          have := Nat.div_mul_le_self n (16 ^ j)
          rw [h1] at this
          exact Nat.le_trans (by rw [Nat.mul_comm]; exact Nat.mul_le_mul_right _ hge) this
        · rw [Nat.pow_succ, ← Nat.div_div_eq_div_mul, Hu.out]
        · rw [set_drop _ _ _ (by rw [Hsz.out]; exact hlt'), Hcs.out, hexL_cons, Hu.out, Hd.out]
          rfl
        · rw [heap_setCell_same _ _ _ _ _ _ Hrow.out]
          unfold bv
          rw [← hv]
      case measure => have := Hjg.out; have := Hj15.out; omega
    · obtain rfl : d = u := by have := Hd.out; omega
      have hdg := fun h => digs_at hd16 h
      have hsl : ∀ W, (Instr.sliceAt 162 (.pointer (some ⟨w.heap.size, 0, none⟩)) (some (.int .i64 (i' : Int))) none none).run Tryd.prog W = .ok (.slice (some ⟨w.heap.size, i', none⟩) (65 - i') (65 - i')) W := fun W => by
        rw [run_sliceAt_array_l W 162 ⟨w.heap.size, 0, none⟩ (by rw [len91, elem91]; kernel_rfl) .i64 (i' : Int) (by omega) (by rw [len91]; omega), len91, elem91]
        have hsz1 : (sizeOf 5).run Tryd.prog W = .ok 1 W := by kernel_rfl
        rw [hsz1]
        have e1 : ¬ 65 = i' := by omega
        have e2 : ¬ i' = 0 := by
          have h1 := Hjg.out
          have h2 := Hij.out
          omega
        simp [Result.andThen, slicedAt, Addr.add, e1, e2]
      have hrow2 : (wr.setCell ⟨w.heap.size, i', none⟩ (.int .u8 ((hexd d).toNat : Int))).heap[w.heap.size]? = some (.cells (cs.setIfInBounds i' (bv (hexd d))) 162 (0, 0)) := by
        rw [heap_setCell_same _ _ _ _ _ _ Hrow.out]
        rfl
      have hcv := conv_rest (P := Tryd.prog) 26 5 9 Tryd.underlying26 Tryd.underlying5 Tryd.underlying9 _ w.heap.size i' (65 - i') (65 - i') _ _ (hexL (j + 1) n) hrow2
        (by rw [set_drop _ _ _ (by rw [Hsz.out]; exact hlt'), Hcs.out, hexL_cons, Hu.out, Nat.mod_eq_of_lt hd16]; rfl) (by rw [hexL_len]; have := Hij.out; omega)
      clear hrow2
      go_wp2_with fail
      go_ret2
      exact ⟨j + 1, by omega, by have := Hj15.out; omega, by
        have h1 := Hu.out
        rw [Nat.pow_succ]
        have := Nat.lt_mul_div_succ n (Hpow.out j)
        rw [h1] at this
        exact Nat.lt_of_lt_of_le this (Nat.mul_le_mul_left _ (by omega)), rfl, hb.setCell (Nat.le_refl _) _⟩
end Go.Proofs.YtkckncggiicciaaDoor
