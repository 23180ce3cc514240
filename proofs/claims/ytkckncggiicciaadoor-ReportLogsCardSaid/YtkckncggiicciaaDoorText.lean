/-
  The walks of num.Text, and of the page's.
-/
import Derived.Test.YtkckncggiicciaaDoorRep
import Derived.Test.YtkckncggiicciaaDoorNumb
namespace Go.Proofs.YtkckncggiicciaaDoor
open Go.RowKit
def HexPost (n : Nat) (w : World) (e : Ending) (w' : World) : Prop :=
  ∃ j, 1 ≤ j ∧ j ≤ 16 ∧ n < 16 ^ j ∧ e = .returned (.string ⟨(hexL j n).toArray⟩) ∧ Below w.heap.size w w'
set_option maxHeartbeats 1000000 in
theorem ifmt_any (n : Nat) (w : World) (hn : n < 18446744073709551616) (hT : TzAt w) :
    Calls Tryd.prog 112 #[.int .u64 n, .int .i64 16] w (HexPost n w) := by
  have HF : Hid (Calls Tryd.prog 90 #[.slice none 0 0, .int .u64 n, .int .i64 16, .bool false, .bool false] w (FmtPost n w)) := fmtBits_any n w hn hT
  clear hT
  go_enter Tryd.func112, Tryd.ntmps112
  go_wp2_with fail
  refine HF.out.mono ?_
  rintro e w1 ⟨j, h1, h2, h3, rfl, h4⟩
  have HP : Hid (HexPost n w (.returned (.string ⟨(hexL j n).toArray⟩)) w1) := ⟨j, h1, h2, h3, rfl, h4⟩
  clear h1 h2 h3 h4
  go_wp2_with fail
  go_ret
  exact HP.out
set_option maxHeartbeats 1000000 in
theorem fmt_any (n : Nat) (w : World) (hn : n < 18446744073709551616) (hT : TzAt w) :
    Calls Tryd.prog 93 #[.int .u64 n, .int .i64 16] w (HexPost n w) := by
  have HF : Hid (Calls Tryd.prog 112 #[.int .u64 n, .int .i64 16] w (HexPost n w)) := ifmt_any n w hn hT
  clear hT
  go_enter Tryd.func93, Tryd.ntmps93
  go_wp2_with fail
  refine HF.out.mono ?_
  rintro e w1 ⟨j, h1, h2, h3, rfl, h4⟩
  have HP : Hid (HexPost n w (.returned (.string ⟨(hexL j n).toArray⟩)) w1) := ⟨j, h1, h2, h3, rfl, h4⟩
  clear h1 h2 h3 h4
  go_wp2_with fail
  go_ret
  exact HP.out
theorem bytes_app (a b : List UInt8) : (⟨a.toArray⟩ ++ ⟨b.toArray⟩ : ByteArray) = ⟨(a ++ b).toArray⟩ := bytes_ext (by rw [ByteArray.data_append]; simp)
theorem ret_str {a b : ByteArray} (h : a = b) : Ending.returned (Value.string a) = .returned (.string b) := by rw [h]
/-- A float's text. -/
def textV (x : Nat) : ByteArray := ⟨(hexL 16 (canon x)).toArray⟩
set_option maxHeartbeats 1000000 in
theorem Text_any (x : Nat) (w : World) (hx : x < 18446744073709551616) (hT : TzAt w) :
    Calls Tryd.prog 71 #[.float .f64 x] w fun e w' => e = .returned (.string (textV x)) ∧ Below w.heap.size w w' := by
  have hb := call_bits (canon x)
  have hc := canon_lt hx
  have HF : Hid (Calls Tryd.prog 93 #[.int .u64 (canon x : Int), .int .i64 16] w (HexPost (canon x) w)) := fmt_any (canon x) w hc hT
  have HV : Hid (textV x = ⟨(hexL 16 (canon x)).toArray⟩) := rfl
  have HC : Hid (∀ w, Calls Tryd.prog 60 #[.float .f64 x] w fun e w' => e = .returned (.float .f64 (canon x)) ∧ w = w') := fun w => Canon_any x w
  obtain ⟨c, hcc⟩ : ∃ c, canon x = c := ⟨_, rfl⟩
  rw [hcc] at hb hc HF HV HC
  clear hT hcc
  go_enter Tryd.func71, Tryd.ntmps71
  go_wp2_with (go_at_call 60; refine (HC.out _).mono ?_; rintro e w1 ⟨rfl, rfl⟩)
  refine HF.out.mono ?_
  rintro e w1 ⟨j, h1, h2, h3, rfl, h4⟩
  have hsz : (⟨(hexL j c).toArray⟩ : ByteArray).size = j := by
    show (hexL j c).toArray.size = j
    rw [List.size_toArray, hexL_len]
  have HR : Hid (∀ w, Calls Tryd.prog 94 #[.string ⟨#[48]⟩, .int .i64 (16 - (j : Int))] w fun e w' => e = .returned (.string ⟨(List.replicate (16 - j) 48).toArray⟩) ∧ w = w') := fun w => by
    have := Rep_any (16 - j) (by omega) w
    rw [show ((16 - j : Nat) : Int) = 16 - (j : Int) by omega] at this
    exact this
  have HE : Hid ((⟨(List.replicate (16 - j) 48).toArray⟩ ++ ⟨(hexL j c).toArray⟩ : ByteArray) = textV x) := by
    show _ = _
    rw [bytes_app, HV.out, ← hexL_pad _ _ _ h3, Nat.sub_add_cancel h2]
  obtain ⟨S, hS⟩ : ∃ S, (⟨(hexL j c).toArray⟩ : ByteArray) = S := ⟨_, rfl⟩
  rw [hS] at hsz HE ⊢
  obtain ⟨R, hR⟩ : ∃ R, (⟨(List.replicate (16 - j) 48).toArray⟩ : ByteArray) = R := ⟨_, rfl⟩
  have hrz : R.size = 16 - j := by
    rw [← hR]
    show (List.replicate (16 - j) (48 : UInt8)).toArray.size = 16 - j
    rw [List.size_toArray, List.length_replicate]
  rw [hR] at HR HE
  have h4' := Lib.hid h4
  clear hS hR h3 h4
  go_wp2_with (go_at_call 94; refine (HR.out _).mono ?_; rintro e w2 ⟨rfl, rfl⟩)
  go_ret
  exact ⟨ret_str HE.out, h4'.out⟩
set_option maxHeartbeats 1000000 in
theorem RefText_any (x : Nat) (w : World) (hx : x < 18446744073709551616) (hT : TzAt w) :
    Calls Tryd.prog 95 #[.float .f64 x] w fun e w' => e = .returned (.string (textV x)) ∧ Below w.heap.size w w' := by
  have hb := call_bits (canon x)
  have hc := canon_lt hx
  have HF : Hid (Calls Tryd.prog 93 #[.int .u64 (canon x : Int), .int .i64 16] w (HexPost (canon x) w)) := fmt_any (canon x) w hc hT
  have HV : Hid (textV x = ⟨(hexL 16 (canon x)).toArray⟩) := rfl
  have HC : Hid (∀ w, Calls Tryd.prog 70 #[.float .f64 x] w fun e w' => e = .returned (.float .f64 (canon x)) ∧ w = w') := fun w => RefCanon_any x w
  obtain ⟨c, hcc⟩ : ∃ c, canon x = c := ⟨_, rfl⟩
  rw [hcc] at hb hc HF HV HC
  clear hT hcc
  go_enter Tryd.func95, Tryd.ntmps95
  go_wp2_with (go_at_call 70; refine (HC.out _).mono ?_; rintro e w1 ⟨rfl, rfl⟩)
  refine HF.out.mono ?_
  rintro e w1 ⟨j, h1, h2, h3, rfl, h4⟩
  have H3 := Lib.hid h3
  have h4' := Lib.hid h4
  clear h3 h4
  go_wp2_with fail
  go_loopg [3] (16 - j) (fun g s2 wr => ∃ (i : Nat) (S : ByteArray), i + j + g = 16 ∧ s2 = .string S ∧ S = ⟨(List.replicate i 48 ++ hexL j c).toArray⟩ ∧ wr = w1)
  case atStart => exact ⟨0, _, by omega, rfl, rfl, rfl⟩
  case round =>
    obtain ⟨i, S, hig, rfl, hS, rfl⟩ := hrel
    have hsz : S.size = i + j := by
      rw [hS]
      show (List.replicate i (48 : UInt8) ++ hexL j c).toArray.size = i + j
      rw [List.size_toArray, List.length_append, List.length_replicate, hexL_len]
    have HS := Lib.hid hS
    have Hig := Lib.hid hig
    have hle : i + j ≤ 16 := by omega
    clear hS hig
    by_cases hlt : i + j < 16
    · go_wp2_with fail
      go_roundg (gk - 1)
      case rel => exact ⟨i + 1, _, by have := Hig.out; omega, rfl, by
        rw [HS.out]
        show (⟨[48].toArray⟩ ++ ⟨_⟩ : ByteArray) = _
        rw [bytes_app, List.replicate_succ]
        rfl, rfl⟩
      case measure => have := Hig.out; omega
    · go_wp2_with fail
      go_ret
      exact ⟨ret_str (by rw [HS.out, HV.out, ← hexL_pad _ _ _ H3.out, show i + j = 16 by omega]), h4'.out⟩
end Go.Proofs.YtkckncggiicciaaDoor
