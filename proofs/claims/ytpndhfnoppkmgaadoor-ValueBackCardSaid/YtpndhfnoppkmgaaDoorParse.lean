/-
  The walks of num.Parse, and of the page's.
-/
import Derived.Test.YtpndhfnoppkmgaaDoorParsem
namespace Go.Proofs.YtpndhfnoppkmgaaDoor
open Go.RowKit
set_option maxRecDepth 100000
theorem textV_list (x : Nat) : (textV x).toList = hexL 16 (canon x) := by
  rw [ByteArray.toList_eq]
  rfl
theorem below_self (w : World) : Below w.heap.size w w := Below.refl _ _
set_option maxHeartbeats 1600000 in
theorem Parse_any (s : ByteArray) (w : World) (hs : s.size ≤ 4000) (hT : TzAt w) (hE : ErrAt w) :
    Calls Tryd.prog 41 #[.string s] w fun e w' => e = .returned (.tuple #[.float .f64 (parseN s.data.toList), .int .i64 (parseE s.data.toList)]) ∧ Below w.heap.size w w' := by
  have HU : Hid (Calls Tryd.prog 58 #[.string s, .int .i64 16, .int .i64 64] w (PuPost s.data.toList w)) := puint_any s w hs hE
  have hsl : s.toList = s.data.toList := ByteArray.toList_eq s
  obtain ⟨l, hl⟩ : ∃ l, s.data.toList = l := ⟨_, rfl⟩
  rw [hl] at HU hsl ⊢
  have Hsl := Lib.hid hsl
  have HT := Lib.hid hT
  have hc := call_frombits
  clear hl hsl hT hE
  go_enter Tryd.func41, Tryd.ntmps41
  go_wp2_with fail
  refine HU.out.mono ?_
  rintro e w1 ⟨⟨v, err, rfl, hv, hcase⟩, hb1⟩
  rcases hcase with ⟨hf, rfl⟩ | ⟨hf, N, rfl⟩
  · have HX : Hid (∀ w', Below w.heap.size w w' → Calls Tryd.prog 37 #[.float .f64 v] w' fun e w'' => e = .returned (.string (textV v)) ∧ Below w'.heap.size w' w'') := fun w' hb => Text_any v w' hv (HT.out.below hb)
    rcases Decidable.em (hexL 16 (canon v) = l) with ht | ht
    · obtain ⟨h1, h2⟩ := read_back hf hv ht
      have HP : Hid (parseN l = v ∧ parseE l = 0) := by
        unfold Hid parseN parseE
        rw [if_pos h1, if_pos h1]
        exact ⟨h2, rfl⟩
      have hq : ((textV v).toList == s.toList) = true := by
        rw [textV_list, Hsl.out, ht]
        simp
      obtain ⟨T, hTe⟩ : ∃ T, textV v = T := ⟨_, rfl⟩
      rw [hTe] at HX hq
      clear hTe h1 h2 hf hv ht
      go_wp2_with (go_at_call 37; refine (HX.out _ hb1).mono ?_; rintro e w2 ⟨rfl, hb2⟩)
      go_ret2
      rw [HP.out.1, HP.out.2]
      exact ⟨rfl, hb1.trans (hb2.mono hb1.size)⟩
    · have h1 : parseOk l = false := by
        cases h : parseOk l
        · rfl
        · exfalso
          have h3 := read_ok h
          rw [hf] at h3
          injection h3 with h3
          apply ht
          rw [h3]
          exact text_parse h
      have HP : Hid (parseN l = 0 ∧ parseE l = 3) := by
        unfold Hid parseN parseE
        rw [h1]
        exact ⟨rfl, rfl⟩
      have hq : ((textV v).toList == s.toList) = false := by
        rw [textV_list, Hsl.out]
        simpa using ht
      obtain ⟨T, hTe⟩ : ∃ T, textV v = T := ⟨_, rfl⟩
      rw [hTe] at HX hq
      clear hTe h1 hf hv ht
      go_wp2_with (go_at_call 37; refine (HX.out _ hb1).mono ?_; rintro e w2 ⟨rfl, hb2⟩)
      go_ret2
      rw [HP.out.1, HP.out.2]
      exact ⟨rfl, hb1.trans (hb2.mono hb1.size)⟩
  · have h1 : parseOk l = false := by
      cases h : parseOk l
      · rfl
      · exfalso
        have h3 := read_ok h
        rw [hf] at h3
        cases h3
    have HP : Hid (parseN l = 0 ∧ parseE l = 3) := by
      unfold Hid parseN parseE
      rw [h1]
      exact ⟨rfl, rfl⟩
    clear h1 hf hv
    go_wp2_with fail
    go_ret2
    rw [HP.out.1, HP.out.2]
    exact ⟨rfl, hb1⟩
set_option maxHeartbeats 400000 in
theorem Digit_any (c : UInt8) (w : World) : Calls Tryd.prog 60 #[.int .u8 (c.toNat : Int)] w fun e w' => e = .returned (.int .i64 (digV c)) ∧ w = w' := by
  have hc := c.toNat_lt
  obtain ⟨d, hd⟩ : ∃ d, digV c = d := ⟨_, rfl⟩
  rw [hd]
  unfold digV at hd
  obtain ⟨x, hx⟩ : ∃ x, c.toNat = x := ⟨_, rfl⟩
  rw [hx] at hd hc ⊢
  clear hx
  rcases Decidable.em (48 ≤ x ∧ x ≤ 57) with h | h
  · rw [if_pos h] at hd
    obtain ⟨h1, h2⟩ := h
    subst hd
    go_enter Tryd.func60, Tryd.ntmps60
    go_wp2_with fail
    go_ret
    exact ⟨rfl, rfl⟩
  rw [if_neg h] at hd
  rcases Decidable.em (97 ≤ x ∧ x ≤ 102) with h' | h'
  · rw [if_pos h'] at hd
    obtain ⟨h1, h2⟩ := h'
    have h3 : 57 < x := by omega
    subst hd
    clear h
    go_enter Tryd.func60, Tryd.ntmps60
    go_wp2_with fail
    go_ret
    exact ⟨rfl, rfl⟩
  rw [if_neg h'] at hd
  subst hd
  rcases Decidable.em (x < 48) with g1 | g1
  case' inr => rcases Decidable.em (x < 97) with g2 | g2
  case' inr.inl => have g3 : 57 < x := by omega
  case' inr.inr => have g3 : 102 < x := by omega
  all_goals
    clear h h'
    go_enter Tryd.func60, Tryd.ntmps60
    go_wp2_with fail
    go_ret
    exact ⟨rfl, rfl⟩
theorem or_digit {b d : Nat} (hd : d < 16) (hb : b * 16 + d < 18446744073709551616) : bits .or .u64 ((b : Int) * 16) (d : Int) = (b : Int) * 16 + (d : Int) := by
  have := u64_or ((b : Int) * 16) (d : Int) (by omega) (by omega) (by omega) (by omega)
  rw [this]
  have e : b * 16 ||| d = b * 16 + d := by
    have := Nat.two_pow_add_eq_or_of_lt (i := 4) (b := d) hd b
    have e2 : (2 : Nat) ^ 4 * b = b * 16 := by omega
    rw [e2] at this
    exact this.symm
  have e1 : ((b : Int) * 16).toNat = b * 16 := by omega
  have e3 : ((d : Int)).toNat = d := by omega
  rw [e1, e3, e]
  omega
theorem allD_take {l : List UInt8} {i : Nat} (hi : i < l.length) (h : digV l[i] < 0) : allD l = false := by
  unfold allD
  rw [List.all_eq_false]
  exact ⟨l[i], List.getElem_mem _, by simp; omega⟩
set_option maxHeartbeats 1600000 in
theorem RefParse_any (s : ByteArray) (w : World) (hT : TzAt w) :
    Calls Tryd.prog 44 #[.string s] w fun e w' => e = .returned (.tuple #[.float .f64 (parseN s.data.toList), .bool (parseOk s.data.toList)]) ∧ Below w.heap.size w w' := by
  have hsl : s.toList = s.data.toList := ByteArray.toList_eq s
  obtain ⟨l, hl⟩ : ∃ l, s.data.toList = l := ⟨_, rfl⟩
  have hlen : l.length = s.size := by rw [← hl]; exact Array.length_toList
  rcases Decidable.em (s.size = 16) with h16 | h16
  case inr =>
    have h1 : parseOk l = false := by
      cases h : parseOk l
      · rfl
      · exfalso
        have := (parseOk_iff.1 h).1
        omega
    have HP : Hid (parseN l = 0 ∧ parseOk l = false) := by
      unfold Hid parseN
      rw [h1]
      exact ⟨rfl, rfl⟩
    rw [hl]
    have hq : ((s.size : Int) != 16) = true := by simp; omega
    clear hl hlen hsl hT h16 h1
    go_enter Tryd.func44, Tryd.ntmps44
    go_wp2_with fail
    go_ret2
    rw [HP.out.1, HP.out.2]
    exact ⟨rfl, below_self _⟩
  rw [hl]
  have Hsl : Hid (s.toList = l) := hsl.trans hl
  have HT := Lib.hid hT
  have Hlen := Lib.hid hlen
  have Hl := Lib.hid hl
  have H16 := Lib.hid h16
  have hc := call_frombits
  have hq : ((s.size : Int) != 16) = false := by simp; omega
  clear hl hlen hsl hT h16
  go_enter Tryd.func44, Tryd.ntmps44
  go_wp2_with fail
  go_loopg [4, 5, 6] 16 (fun g s4 s5 _ wr => ∃ i : Nat, i + g = 16 ∧ s5 = .int .i64 i ∧ s4 = .int .u64 (valD (l.take i)) ∧ allD (l.take i) = true ∧ wr = w)
  case atStart => exact ⟨0, rfl, rfl, rfl, rfl, rfl⟩
  case round =>
    obtain ⟨i, hig, rfl, rfl, hal, rfl⟩ := hrel
    have Hig := Lib.hid hig
    have Hal := Lib.hid hal
    have hin : i ≤ 16 := by omega
    clear hig hal
    by_cases hlt : i < 16
    · have hil : i < l.length := by rw [Hlen.out, H16.out]; exact hlt
      have his : i < s.size := by rw [H16.out]; exact hlt
      obtain ⟨c, hcc⟩ : ∃ c, s[i] = c := ⟨_, rfl⟩
      have hlc : l[i]'hil = c := by
        have := Hl.out
        subst this
        rw [← hcc]
        exact (Array.getElem_toList _)
      have Hst : Hid (l.take (i + 1) = l.take i ++ [c]) := by
        unfold Hid
        rw [← hlc]
        exact List.take_succ_eq_append_getElem hil
      have HD : Hid (∀ w, Calls Tryd.prog 60 #[.int .u8 (c.toNat : Int)] w fun e w' => e = .returned (.int .i64 (digV c)) ∧ w = w') := fun w => Digit_any c w
      have hdb := digV_bd c
      rcases Decidable.em (digV c < 0) with hneg | hneg
      · have h1 : parseOk l = false := by
          cases h : parseOk l
          · rfl
          · exfalso
            have h2 := (parseOk_iff.1 h).2.1
            rw [allD_take hil (by rw [hlc]; exact hneg)] at h2
            cases h2
        have HP : Hid (parseN l = 0 ∧ parseOk l = false) := by
          unfold Hid parseN
          rw [h1]
          exact ⟨rfl, rfl⟩
        obtain ⟨d, hd⟩ : ∃ d, digV c = d := ⟨_, rfl⟩
        rw [hd] at HD hdb hneg
        clear hlc hd h1
        go_wp2_with (go_at_call 60; refine (HD.out _).mono ?_; rintro e w1 ⟨rfl, rfl⟩)
        go_ret2
        rw [HP.out.1, HP.out.2]
        exact ⟨rfl, below_self _⟩
      · obtain ⟨d, hd⟩ : ∃ d, (digV c).toNat = d := ⟨_, rfl⟩
        have hdd : digV c = (d : Int) := by omega
        have hd16 : d < 16 := by omega
        have Hval : Hid (valD (l.take (i + 1)) = valD (l.take i) * 16 + d) := by
          unfold Hid
          rw [Hst.out, valD_snoc, hd]
        have Hal2 : Hid (allD (l.take (i + 1)) = true) := by
          unfold Hid
          rw [Hst.out, allD_snoc, Hal.out]
          simp
          omega
        have hvl := valD_lt (l.take i)
        have hvl2 : valD (l.take i) < 1152921504606846976 := by
          have h1 : (l.take i).length = i := by rw [List.length_take]; omega
          rw [h1] at hvl
          have hp : 16 ^ i ≤ 16 ^ 15 := Nat.pow_le_pow_right (by omega) (by omega)
          have : (16 : Nat) ^ 15 = 1152921504606846976 := rfl
          omega
        rw [hdd] at HD
        obtain ⟨b, hb⟩ : ∃ b, valD (l.take i) = b := ⟨_, rfl⟩
        rw [hb] at hvl2 Hval ⊢
        have hor := or_digit (b := b) hd16 (by omega)
        have hmul : IntKind.u64.wrap ((b : Int) * 16) = (b : Int) * 16 := wrap_u64 (by omega) (by omega)
        have hwd : IntKind.u64.wrap (d : Int) = (d : Int) := wrap_u64 (by omega) (by omega)
        clear hlc hd hdd hneg hdb hvl hvl2 hb
        go_wp2_with (go_at_call 60; refine (HD.out _).mono ?_; rintro e w1 ⟨rfl, rfl⟩)
        go_roundg (gk - 1)
        case rel => exact ⟨i + 1, by have := Hig.out; omega, by go_num, by rw [Hval.out]; go_num, Hal2.out, rfl⟩
        case measure => have := Hig.out; omega
    · obtain rfl : i = 16 := by omega
      have htk : l.take 16 = l := List.take_of_length_le (by have := Hlen.out; have := H16.out; omega)
      have hal := Hal.out
      rw [htk] at hal ⊢
      have hv : valD l < 18446744073709551616 := valD_16 (Hlen.out.trans H16.out)
      have HX : Hid (∀ w', Below wr.heap.size wr w' → Calls Tryd.prog 38 #[.float .f64 (valD l)] w' fun e w'' => e = .returned (.string (textV (valD l))) ∧ Below w'.heap.size w' w'') := fun w' hb => RefText_any (valD l) w' hv (HT.out.below hb)
      have hll : l.length = 16 := Hlen.out.trans H16.out
      cases hpk : parseOk l
      · have HP : Hid (parseN l = 0 ∧ parseOk l = false) := by
          unfold Hid parseN
          rw [hpk]
          exact ⟨rfl, rfl⟩
        have hq : ((textV (valD l)).toList == s.toList) = false := by
          rw [textV_list, Hsl.out]
          simp
          intro e
          have h2 : parseOk l = true := parseOk_iff.2 ⟨hll, hal, by
            have h3 := congrArg valD e
            rw [valD_hexL, Nat.mod_eq_of_lt (canon_lt hv)] at h3
            exact h3⟩
          rw [hpk] at h2
          cases h2
        obtain ⟨T, hTe⟩ : ∃ T, textV (valD l) = T := ⟨_, rfl⟩
        rw [hTe] at HX hq
        obtain ⟨v, hve⟩ : ∃ v, valD l = v := ⟨_, rfl⟩
        rw [hve] at HX ⊢
        clear hTe hpk hv hal hll htk hve
        go_wp2_with (go_at_call 38; refine (HX.out _ (below_self _)).mono ?_; rintro e w2 ⟨rfl, hb2⟩)
        go_ret2
        rw [HP.out.1, HP.out.2]
        exact ⟨rfl, hb2⟩
      · have HP : Hid (parseN l = valD l ∧ parseOk l = true) := by
          unfold Hid parseN
          rw [hpk]
          exact ⟨rfl, rfl⟩
        have hq : ((textV (valD l)).toList == s.toList) = true := by
          rw [textV_list, Hsl.out, text_parse hpk]
          simp
        obtain ⟨T, hTe⟩ : ∃ T, textV (valD l) = T := ⟨_, rfl⟩
        rw [hTe] at HX hq
        obtain ⟨v, hve⟩ : ∃ v, valD l = v := ⟨_, rfl⟩
        rw [hve] at HX HP ⊢
        clear hTe hpk hv hal hll htk hve
        go_wp2_with (go_at_call 38; refine (HX.out _ (below_self _)).mono ?_; rintro e w2 ⟨rfl, hb2⟩)
        go_ret2
        rw [HP.out.1, HP.out.2]
        exact ⟨rfl, hb2⟩
end Go.Proofs.YtpndhfnoppkmgaaDoor
