/-
  The walks of value.text, and of the page's Unhex.
-/
import Derived.Test.YtpndhfnoppkmgaaDoorUnhexm
import Derived.Test.YtpndhfnoppkmgaaDoorParse
import Derived.IntWalk
import Derived.BigQuiet
import Derived.Deep.QuietTactic
import Derived.Deep.LoopGhost
namespace Go.Proofs.YtpndhfnoppkmgaaDoor
open Go.RowKit
set_option maxRecDepth 100000
theorem index_dig : ∀ n : Nat, n < 256 → Lib.indexByte [48, 49, 50, 51, 52, 53, 54, 55, 56, 57, 97, 98, 99, 100, 101, 102] (UInt8.ofNat n) = digV (UInt8.ofNat n) := by decide +kernel
theorem index_any (c : UInt8) (w : World) : Calls Tryd.prog 59 #[.string ⟨#[48, 49, 50, 51, 52, 53, 54, 55, 56, 57, 97, 98, 99, 100, 101, 102]⟩, .int .u8 (c.toNat : Int)] w fun e w' => e = .returned (.int .i64 (digV c)) ∧ w' = w := by
  have := Tryd.strings_IndexByte ⟨#[48, 49, 50, 51, 52, 53, 54, 55, 56, 57, 97, 98, 99, 100, 101, 102]⟩ (c.toNat : Int) w
  have e : Lib.indexByte (⟨#[48, 49, 50, 51, 52, 53, 54, 55, 56, 57, 97, 98, 99, 100, 101, 102]⟩ : ByteArray).data.toList (c.toNat : Int).toNat.toUInt8 = digV c := by
    have h := index_dig c.toNat c.toNat_lt
    rw [UInt8.ofNat_toNat] at h
    rw [← h]
    show Lib.indexByte _ (UInt8.ofNat c.toNat) = _
    rw [UInt8.ofNat_toNat]
  rw [e] at this
  exact this
theorem digit_any (c : UInt8) (w : World) : Calls Tryd.prog 60 #[.int .u8 (c.toNat : Int)] w fun e w' => e = .returned (.int .i64 (digV c)) ∧ w' = w :=
  (Digit_any c w).mono fun _ _ ⟨h1, h2⟩ => ⟨h1, h2.symm⟩
theorem or_low {a b : Nat} (ha : a < 16) (hb : b < 16) : bits .or .i64 ((a : Int) * 16) (b : Int) = (a : Int) * 16 + (b : Int) := by
  have key : ∀ a : Nat, a < 16 → ∀ b : Nat, b < 16 → bits .or .i64 ((a : Int) * 16) (b : Int) = (a : Int) * 16 + (b : Int) := by decide +kernel
  exact key a ha b hb
theorem unOk_odd {l : List UInt8} (h : l.length % 2 ≠ 0) : unOk l = false := by
  cases h2 : unOk l
  · rfl
  · exact absurd (unOk_iff.1 h2).1 h
theorem unOk_dig {l : List UInt8} {i : Nat} (hi : i < l.length) (h : digV l[i] < 0) : unOk l = false := by
  cases h2 : unOk l
  · rfl
  · have := (unOk_iff.1 h2).2
    rw [allD_take hi h] at this
    cases this
theorem allD_two {l : List UInt8} {i : Nat} (hi : i + 1 < l.length) (h : allD (l.take i) = true) (h1 : 0 ≤ digV (l[i]'(by omega))) (h2 : 0 ≤ digV l[i + 1]) : allD (l.take (i + 2)) = true := by
  rw [show i + 2 = i + 1 + 1 from rfl, List.take_succ_eq_append_getElem hi, List.take_succ_eq_append_getElem (show i < l.length by omega), allD_snoc, allD_snoc, h]
  simp [h1, h2]
/-- A row of bytes of the call's own, or nil. -/
theorem own_nil (w : World) (base : Nat) : OwnB w base (.slice none 0 0) [] := ⟨rfl, .inl ⟨rfl, rfl⟩⟩
def UnPost (l : List UInt8) (w : World) (e : Ending) (w' : World) : Prop := e = .returned (.tuple #[.string ⟨(unS l).toArray⟩, .bool (unOk l)]) ∧ Below w.heap.size w w'
theorem unpost_no {l : List UInt8} {w w' : World} (h : unOk l = false) (hb : Below w.heap.size w w') : UnPost l w (.returned (.tuple #[.string ⟨#[]⟩, .bool false])) w' := by
  refine ⟨?_, hb⟩
  unfold unS
  rw [h]
  rfl
theorem unpost_yes {l : List UInt8} {w w' : World} {k : Nat} (h1 : allD l = true) (h2 : l.length = 2 * k) (hb : Below w.heap.size w w') : UnPost l w (.returned (.tuple #[.string ⟨(unL l k).toArray⟩, .bool true])) w' := by
  refine ⟨?_, hb⟩
  have h : unOk l = true := unOk_iff.2 ⟨by omega, h1⟩
  unfold unS
  rw [h, if_pos rfl, show l.length / 2 = k by omega]
set_option maxHeartbeats 3200000 in
theorem vtext_any (s : ByteArray) (w : World) (hs : s.size ≤ 4000) : Calls Tryd.prog 43 #[.string s] w (UnPost s.data.toList w) := by
  obtain ⟨l, hl⟩ : ∃ l, s.data.toList = l := ⟨_, rfl⟩
  have hlen : l.length = s.size := by rw [← hl]; exact Array.length_toList
  rw [hl]
  have HN : Hid (∀ w', unOk l = false → Below w.heap.size w w' → UnPost l w (.returned (.tuple #[.string ⟨#[]⟩, .bool false])) w') := fun w' h hb => unpost_no h hb
  have HY : Hid (∀ w' k, allD l = true → l.length = 2 * k → Below w.heap.size w w' → UnPost l w (.returned (.tuple #[.string ⟨(unL l k).toArray⟩, .bool true])) w') := fun w' k h1 h2 hb => unpost_yes h1 h2 hb
  obtain ⟨J, hJ⟩ : ∃ J, UnPost l w = J := ⟨_, rfl⟩
  rw [hJ] at HN HY ⊢
  have Hlen := Lib.hid hlen
  have Hl := Lib.hid hl
  clear hJ hl hlen
  have hbw : Below w.heap.size w w := below_self w
  rcases Decidable.em (s.size % 2 = 0) with hev | hev
  case inr =>
    have hq : ((s.size : Int) % 2 != 0) = true := by simp; omega
    have hno : unOk l = false := unOk_odd (by rw [Hlen.out]; exact hev)
    have Hno := Lib.hid hno
    clear hno hev
    go_enter Tryd.func43, Tryd.ntmps43
    go_wp2_with fail
    exact HN.out _ Hno.out hbw
  have hq : ((s.size : Int) % 2 != 0) = false := by simp; omega
  obtain ⟨m, hm⟩ : ∃ m, s.size = 2 * m := ⟨s.size / 2, by omega⟩
  have Hm := Lib.hid hm
  clear hev hm
  go_enter Tryd.func43, Tryd.ntmps43
  go_wp2_with fail
  go_loopg [4, 5, 6, 7] m (fun g s4 s5 _ _ wr => ∃ i k : Nat, i = 2 * k ∧ k + g = m ∧ s5 = .int .i64 i ∧ OwnB wr w.heap.size s4 (unL l k) ∧ allD (l.take i) = true ∧ Below w.heap.size w wr)
  case atStart => exact ⟨0, 0, rfl, by omega, rfl, own_nil _ _, rfl, hbw⟩
  case round =>
    obtain ⟨i, k, hik, hkg, rfl, ho, hal, hb⟩ := hrel
    have Hik := Lib.hid hik
    have Hkg := Lib.hid hkg
    have Ho := Lib.hid ho
    have Hal := Lib.hid hal
    have hin : i ≤ s.size := by have := Hm.out; omega
    have hev : i % 2 = 0 ∧ s.size % 2 = 0 := by have := Hm.out; omega
    clear hik hkg ho hal
    by_cases hlt : i < s.size
    · have hlt1 : i + 1 < s.size := by omega
      have hil : i + 1 < l.length := by rw [Hlen.out]; exact hlt1
      clear hev
      obtain ⟨c, hc⟩ : ∃ c, s[i] = c := ⟨_, rfl⟩
      obtain ⟨d, hd⟩ : ∃ d, s[i + 1] = d := ⟨_, rfl⟩
      have hlc : l[i]'(by omega) = c := by
        have := Hl.out
        subst this
        rw [← hc]
        exact (Array.getElem_toList _)
      have hld : l[i + 1]'hil = d := by
        have := Hl.out
        subst this
        rw [← hd]
        exact (Array.getElem_toList _)
      have b1 := digV_bd c
      have b2 := digV_bd d
      have HLC := Lib.hid hlc
      have HLD := Lib.hid hld
      have hi0 : (0 : Int) ≤ (i : Int) := by omega
      have hi1 : (0 : Int) ≤ (i : Int) + 1 := by omega
      have hi2 : (i : Int) < (s.size : Int) := by omega
      have hi3 : (i : Int) + 1 < (s.size : Int) := by omega
      have hi4 : IntKind.i64.wrap ((i : Int) + 1) = (i : Int) + 1 := IntWalk.i64_in _ (by omega)
      have hi5 : ((i : Int) + 1).toNat = i + 1 := by omega
      clear hlc hld
      rcases Decidable.em (digV c < 0 ∨ digV d < 0) with hneg | hpos
      · have Hno : Hid (unOk l = false) := by
          rcases hneg with h | h
          · exact unOk_dig (i := i) (by omega) (by rw [HLC.out]; exact h)
          · exact unOk_dig (i := i + 1) hil (by rw [HLD.out]; exact h)
        have HC : Hid (∀ w, Calls Tryd.prog 59 #[.string ⟨#[48, 49, 50, 51, 52, 53, 54, 55, 56, 57, 97, 98, 99, 100, 101, 102]⟩, .int .u8 (c.toNat : Int)] w fun e w' => e = .returned (.int .i64 (digV c)) ∧ w' = w) := fun w => index_any c w
        have HD : Hid (∀ w, Calls Tryd.prog 59 #[.string ⟨#[48, 49, 50, 51, 52, 53, 54, 55, 56, 57, 97, 98, 99, 100, 101, 102]⟩, .int .u8 (d.toNat : Int)] w fun e w' => e = .returned (.int .i64 (digV d)) ∧ w' = w) := fun w => index_any d w
        obtain ⟨x, hx⟩ : ∃ x, digV c = x := ⟨_, rfl⟩
        obtain ⟨y, hy⟩ : ∃ y, digV d = y := ⟨_, rfl⟩
        rw [hx] at HC b1 hneg
        rw [hy] at HD b2 hneg
        clear hx hy
        rcases Decidable.em (x < 0) with hx0 | hx0
        case' inr => have hy0 : y < 0 := by omega
        all_goals
          clear hneg
          go_wp2_with fail
          go_quiet (first | (with_reducible exact Calls.quiet_of_same (HC.out _)) | (with_reducible exact Calls.quiet_of_same (HD.out _)))
          go_wp2_with fail
          exact HN.out _ Hno.out (below_drewN hb _)
      · obtain ⟨a, ha⟩ : ∃ a : Nat, digV c = a := ⟨(digV c).toNat, by omega⟩
        obtain ⟨b, hb'⟩ : ∃ b : Nat, digV d = b := ⟨(digV d).toNat, by omega⟩
        have ha16 : a < 16 := by omega
        have hb16 : b < 16 := by omega
        have Hal2 : Hid (allD (l.take (i + 2)) = true) := allD_two hil Hal.out (by rw [HLC.out]; omega) (by rw [HLD.out]; omega)
        obtain ⟨q, hq'⟩ : ∃ q, byteOf c d = q := ⟨_, rfl⟩
        have hqn : q.toNat = a * 16 + b := by
          rw [← hq']
          unfold byteOf
          rw [UInt8.toNat_ofNat', ha, hb']
          omega
        have HL : Hid (unL l (k + 1) = unL l k ++ [q]) := by
          unfold Hid
          have e1 : l.getD (2 * k) 0 = c := by
            have := Hik.out
            subst this
            rw [← HLC.out]
            simp [List.getD, List.getElem?_eq_getElem (show 2 * k < l.length by omega)]
          have e2 : l.getD (2 * k + 1) 0 = d := by
            have := Hik.out
            subst this
            rw [← HLD.out]
            simp [List.getD, List.getElem?_eq_getElem hil]
          rw [unL, e1, e2, hq']
        have hor := or_low ha16 hb16
        have hmul : IntKind.i64.wrap ((a : Int) * 16) = (a : Int) * 16 := IntWalk.i64_in _ (by omega)
        have hwq : IntKind.u8.wrap ((a : Int) * 16 + (b : Int)) = (q.toNat : Int) := by rw [hqn, wrap_u8b (by omega) (by omega)]; omega
        have HC : Hid (∀ w, Calls Tryd.prog 59 #[.string ⟨#[48, 49, 50, 51, 52, 53, 54, 55, 56, 57, 97, 98, 99, 100, 101, 102]⟩, .int .u8 (c.toNat : Int)] w fun e w' => e = .returned (.int .i64 (a : Int)) ∧ w' = w) := fun w => by rw [← ha]; exact index_any c w
        have HD : Hid (∀ w, Calls Tryd.prog 59 #[.string ⟨#[48, 49, 50, 51, 52, 53, 54, 55, 56, 57, 97, 98, 99, 100, 101, 102]⟩, .int .u8 (d.toNat : Int)] w fun e w' => e = .returned (.int .i64 (b : Int)) ∧ w' = w) := fun w => by rw [← hb']; exact index_any d w
        have hlk : (unL l k).length ≤ 4000 := by rw [unL_len]; have := Hik.out; omega
        clear hpos b1 b2 ha hb' hqn hq' ha16 hb16
        go_wp2_with fail
        go_quiet (first | (with_reducible exact Calls.quiet_of_same (HC.out _)) | (with_reducible exact Calls.quiet_of_same (HD.out _)))
        go_wp2_with (at_builtin
                     refine wpList_appB rfl (.tmp 33) (.tmp 39) rfl w.heap.size u4 (unL l k) rfl (World.ownsRow.alloc Ho.out _) (wr.heap.size + 1) (some ⟨wr.heap.size, 0, none⟩) 1 1 [q] rfl (by_one _ q) (by omega) (by simp; have := hb.size; omega) ?_
                     intro v4 w4 ho4 hg4)
        have Ho4 : Hid (OwnB w4 w.heap.size v4 (unL l (k + 1))) := by
          unfold Hid
          rw [HL.out]
          exact ho4
        have hb4 : Below w.heap.size w w4 := (Below.alloc (below_drewN hb _) hb.size _).grown hg4 (by simp; have := hb.size; omega) (fun k hk => (World.ownsRow.lt Ho.out k hk).1)
        clear ho4 hg4 hor hmul hwq
        go_roundg (gk - 1)
        case rel => exact ⟨i + 2, k + 1, by have := Hik.out; omega, by have := Hkg.out; have := Hik.out; have := Hm.out; omega, by go_num, Ho4.out, Hal2.out, hb4⟩
        case measure => have := Hkg.out; have := Hik.out; have := Hm.out; omega
    · have hkm : k = m := by have := Hik.out; have := Hm.out; have := Hkg.out; omega
      subst hkm
      obtain ⟨A, C2, rfl, hy⟩ := own_by Ho.out (n := k) (unL_len _ _)
      have hal := Hal.out
      rw [List.take_of_length_le (by rw [Hlen.out]; omega)] at hal
      have Hfin : Hid (∀ w', Below w.heap.size w w' → J (.returned (.tuple #[.string ⟨(unL l k).toArray⟩, .bool true])) w') := fun w' h => HY.out w' k hal (by rw [Hlen.out, Hm.out]) h
      have hcv := conv_by hy
      clear hy hal hev
      go_wp2_with fail
      exact Hfin.out _ hb
set_option maxHeartbeats 3200000 in
theorem Unhex_any (s : ByteArray) (w : World) (hs : s.size ≤ 4000) : Calls Tryd.prog 45 #[.string s] w (UnPost s.data.toList w) := by
  obtain ⟨l, hl⟩ : ∃ l, s.data.toList = l := ⟨_, rfl⟩
  have hlen : l.length = s.size := by rw [← hl]; exact Array.length_toList
  rw [hl]
  have HN : Hid (∀ w', unOk l = false → Below w.heap.size w w' → UnPost l w (.returned (.tuple #[.string ⟨#[]⟩, .bool false])) w') := fun w' h hb => unpost_no h hb
  have HY : Hid (∀ w' k, allD l = true → l.length = 2 * k → Below w.heap.size w w' → UnPost l w (.returned (.tuple #[.string ⟨(unL l k).toArray⟩, .bool true])) w') := fun w' k h1 h2 hb => unpost_yes h1 h2 hb
  obtain ⟨J, hJ⟩ : ∃ J, UnPost l w = J := ⟨_, rfl⟩
  rw [hJ] at HN HY ⊢
  have Hlen := Lib.hid hlen
  have Hl := Lib.hid hl
  clear hJ hl hlen
  have hbw : Below w.heap.size w w := below_self w
  rcases Decidable.em (s.size % 2 = 0) with hev | hev
  case inr =>
    have hq : ((s.size : Int) % 2 != 0) = true := by simp; omega
    have hno : unOk l = false := unOk_odd (by rw [Hlen.out]; exact hev)
    have Hno := Lib.hid hno
    clear hno hev
    go_enter Tryd.func45, Tryd.ntmps45
    go_wp2_with fail
    exact HN.out _ Hno.out hbw
  have hq : ((s.size : Int) % 2 != 0) = false := by simp; omega
  obtain ⟨m, hm⟩ : ∃ m, s.size = 2 * m := ⟨s.size / 2, by omega⟩
  have Hm := Lib.hid hm
  clear hev hm
  go_enter Tryd.func45, Tryd.ntmps45
  go_wp2_with fail
  go_loopg [4, 5, 6, 7] m (fun g s4 s5 _ _ wr => ∃ i k : Nat, i = 2 * k ∧ k + g = m ∧ s5 = .int .i64 i ∧ OwnB wr w.heap.size s4 (unL l k) ∧ allD (l.take i) = true ∧ Below w.heap.size w wr)
  case atStart => exact ⟨0, 0, rfl, by omega, rfl, own_nil _ _, rfl, hbw⟩
  case round =>
    obtain ⟨i, k, hik, hkg, rfl, ho, hal, hb⟩ := hrel
    have Hik := Lib.hid hik
    have Hkg := Lib.hid hkg
    have Ho := Lib.hid ho
    have Hal := Lib.hid hal
    have hin : i ≤ s.size := by have := Hm.out; omega
    have hev : i % 2 = 0 ∧ s.size % 2 = 0 := by have := Hm.out; omega
    clear hik hkg ho hal
    by_cases hlt : i < s.size
    · have hlt1 : i + 1 < s.size := by omega
      have hil : i + 1 < l.length := by rw [Hlen.out]; exact hlt1
      clear hev
      obtain ⟨c, hc⟩ : ∃ c, s[i] = c := ⟨_, rfl⟩
      obtain ⟨d, hd⟩ : ∃ d, s[i + 1] = d := ⟨_, rfl⟩
      have hlc : l[i]'(by omega) = c := by
        have := Hl.out
        subst this
        rw [← hc]
        exact (Array.getElem_toList _)
      have hld : l[i + 1]'hil = d := by
        have := Hl.out
        subst this
        rw [← hd]
        exact (Array.getElem_toList _)
      have b1 := digV_bd c
      have b2 := digV_bd d
      have HLC := Lib.hid hlc
      have HLD := Lib.hid hld
      have hi0 : (0 : Int) ≤ (i : Int) := by omega
      have hi1 : (0 : Int) ≤ (i : Int) + 1 := by omega
      have hi2 : (i : Int) < (s.size : Int) := by omega
      have hi3 : (i : Int) + 1 < (s.size : Int) := by omega
      have hi4 : IntKind.i64.wrap ((i : Int) + 1) = (i : Int) + 1 := IntWalk.i64_in _ (by omega)
      have hi5 : ((i : Int) + 1).toNat = i + 1 := by omega
      clear hlc hld
      rcases Decidable.em (digV c < 0 ∨ digV d < 0) with hneg | hpos
      · have Hno : Hid (unOk l = false) := by
          rcases hneg with h | h
          · exact unOk_dig (i := i) (by omega) (by rw [HLC.out]; exact h)
          · exact unOk_dig (i := i + 1) hil (by rw [HLD.out]; exact h)
        have HC : Hid (∀ w, Calls Tryd.prog 60 #[.int .u8 (c.toNat : Int)] w fun e w' => e = .returned (.int .i64 (digV c)) ∧ w' = w) := fun w => digit_any c w
        have HD : Hid (∀ w, Calls Tryd.prog 60 #[.int .u8 (d.toNat : Int)] w fun e w' => e = .returned (.int .i64 (digV d)) ∧ w' = w) := fun w => digit_any d w
        obtain ⟨x, hx⟩ : ∃ x, digV c = x := ⟨_, rfl⟩
        obtain ⟨y, hy⟩ : ∃ y, digV d = y := ⟨_, rfl⟩
        rw [hx] at HC b1 hneg
        rw [hy] at HD b2 hneg
        clear hx hy
        rcases Decidable.em (x < 0) with hx0 | hx0
        case' inr => have hy0 : y < 0 := by omega
        all_goals
          clear hneg
          go_wp2_with fail
          go_quiet (first | (with_reducible exact Calls.quiet_of_same (HC.out _)) | (with_reducible exact Calls.quiet_of_same (HD.out _)))
          go_wp2_with fail
          exact HN.out _ Hno.out (below_drewN hb _)
      · obtain ⟨a, ha⟩ : ∃ a : Nat, digV c = a := ⟨(digV c).toNat, by omega⟩
        obtain ⟨b, hb'⟩ : ∃ b : Nat, digV d = b := ⟨(digV d).toNat, by omega⟩
        have ha16 : a < 16 := by omega
        have hb16 : b < 16 := by omega
        have Hal2 : Hid (allD (l.take (i + 2)) = true) := allD_two hil Hal.out (by rw [HLC.out]; omega) (by rw [HLD.out]; omega)
        obtain ⟨q, hq'⟩ : ∃ q, byteOf c d = q := ⟨_, rfl⟩
        have hqn : q.toNat = a * 16 + b := by
          rw [← hq']
          unfold byteOf
          rw [UInt8.toNat_ofNat', ha, hb']
          omega
        have HL : Hid (unL l (k + 1) = unL l k ++ [q]) := by
          unfold Hid
          have e1 : l.getD (2 * k) 0 = c := by
            have := Hik.out
            subst this
            rw [← HLC.out]
            simp [List.getD, List.getElem?_eq_getElem (show 2 * k < l.length by omega)]
          have e2 : l.getD (2 * k + 1) 0 = d := by
            have := Hik.out
            subst this
            rw [← HLD.out]
            simp [List.getD, List.getElem?_eq_getElem hil]
          rw [unL, e1, e2, hq']
        have hor : IntKind.i64.wrap ((a : Int) * 16 + (b : Int)) = (a : Int) * 16 + (b : Int) := IntWalk.i64_in _ (by omega)
        have hmul : IntKind.i64.wrap ((a : Int) * 16) = (a : Int) * 16 := IntWalk.i64_in _ (by omega)
        have hwq : IntKind.u8.wrap ((a : Int) * 16 + (b : Int)) = (q.toNat : Int) := by rw [hqn, wrap_u8b (by omega) (by omega)]; omega
        have HC : Hid (∀ w, Calls Tryd.prog 60 #[.int .u8 (c.toNat : Int)] w fun e w' => e = .returned (.int .i64 (a : Int)) ∧ w' = w) := fun w => by rw [← ha]; exact digit_any c w
        have HD : Hid (∀ w, Calls Tryd.prog 60 #[.int .u8 (d.toNat : Int)] w fun e w' => e = .returned (.int .i64 (b : Int)) ∧ w' = w) := fun w => by rw [← hb']; exact digit_any d w
        have hlk : (unL l k).length ≤ 4000 := by rw [unL_len]; have := Hik.out; omega
        clear hpos b1 b2 ha hb' hqn hq' ha16 hb16
        go_wp2_with fail
        go_quiet (first | (with_reducible exact Calls.quiet_of_same (HC.out _)) | (with_reducible exact Calls.quiet_of_same (HD.out _)))
        go_wp2_with (at_builtin
                     refine wpList_appB rfl (.tmp 33) (.tmp 39) rfl w.heap.size u4 (unL l k) rfl (World.ownsRow.alloc Ho.out _) (wr.heap.size + 1) (some ⟨wr.heap.size, 0, none⟩) 1 1 [q] rfl (by_one _ q) (by omega) (by simp; have := hb.size; omega) ?_
                     intro v4 w4 ho4 hg4)
        have Ho4 : Hid (OwnB w4 w.heap.size v4 (unL l (k + 1))) := by
          unfold Hid
          rw [HL.out]
          exact ho4
        have hb4 : Below w.heap.size w w4 := (Below.alloc (below_drewN hb _) hb.size _).grown hg4 (by simp; have := hb.size; omega) (fun k hk => (World.ownsRow.lt Ho.out k hk).1)
        clear ho4 hg4 hor hmul hwq
        go_roundg (gk - 1)
        case rel => exact ⟨i + 2, k + 1, by have := Hik.out; omega, by have := Hkg.out; have := Hik.out; have := Hm.out; omega, by go_num, Ho4.out, Hal2.out, hb4⟩
        case measure => have := Hkg.out; have := Hik.out; have := Hm.out; omega
    · have hkm : k = m := by have := Hik.out; have := Hm.out; have := Hkg.out; omega
      subst hkm
      obtain ⟨A, C2, rfl, hy⟩ := own_by Ho.out (n := k) (unL_len _ _)
      have hal := Hal.out
      rw [List.take_of_length_le (by rw [Hlen.out]; omega)] at hal
      have Hfin : Hid (∀ w', Below w.heap.size w w' → J (.returned (.tuple #[.string ⟨(unL l k).toArray⟩, .bool true])) w') := fun w' h => HY.out w' k hal (by rw [Hlen.out, Hm.out]) h
      have hcv := conv_by hy
      clear hy hal hev
      go_wp2_with fail
      exact Hfin.out _ hb
end Go.Proofs.YtpndhfnoppkmgaaDoor
