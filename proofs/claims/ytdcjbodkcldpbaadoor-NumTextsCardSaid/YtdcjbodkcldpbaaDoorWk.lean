/-
  The walk of skerrylaw01.wakes.
-/
import Derived.Test.YtdcjbodkcldpbaaDoorText
import Derived.Test.YtdcjbodkcldpbaaDoorNumt
namespace Go.Proofs.YtdcjbodkcldpbaaDoor
open Go.RowKit
set_option maxHeartbeats 400000 in
theorem Copysign_m (w : World) : Calls Tryd.prog 30 #[.float .f64 0, .float .f64 13830554455654793216] w fun e w' => e = .returned (.float .f64 9223372036854775808) ∧ w = w' := by
  have h1 := call_bits 0
  have h2 := call_bits 13830554455654793216
  have h3 := call_frombits
  have k1 : bits .or .u64 (bits .andNot .u64 0 9223372036854775808) (bits .and .u64 13830554455654793216 9223372036854775808) = 9223372036854775808 := by decide +kernel
  go_enter Tryd.func30, Tryd.ntmps30
  go_wp2_with (simp only [k1])
  go_ret
  exact ⟨rfl, rfl⟩
theorem tick_21 : tickV 4611911198408756429 1 9 = 3 := by decide +kernel
theorem text_1 : textV 4607182418800017408 = ⟨#[51, 102, 102, 48, 48, 48, 48, 48, 48, 48, 48, 48, 48, 48, 48, 48]⟩ := by decide +kernel
set_option maxHeartbeats 1000000 in
theorem wakes_any (w : World) (hT : TzAt w) : Calls Tryd.prog 13 #[] w fun e w' => e = .returned (.bool true) ∧ Below w.heap.size w w' := by
  have HL : Hid (∀ w, Calls Tryd.prog 14 #[.float .f64 9223372036854775808, .float .f64 0] w fun e w' => e = .returned (.bool true) ∧ w = w') := fun w => by
    have := Less_any 9223372036854775808 0 w (by omega) (by omega)
    rw [show lessB 9223372036854775808 0 = true by decide] at this
    exact this
  have HX : Hid (Calls Tryd.prog 33 #[.float .f64 4607182418800017408] w fun e w' => e = .returned (.string ⟨#[51, 102, 102, 48, 48, 48, 48, 48, 48, 48, 48, 48, 48, 48, 48, 48]⟩) ∧ Below w.heap.size w w') := by
    have := Text_any 4607182418800017408 w (by omega) hT
    rw [text_1] at this
    exact this
  have HK : Hid (∀ w, Calls Tryd.prog 11 #[.float .f64 4611911198408756429, .int .i64 1, .int .i64 9] w (Qt w (.int .i64 3))) := fun w => by
    have := Ticks_any 4611911198408756429 1 9 w (by omega)
    rw [tick_21] at this
    exact this
  unfold Qt at HK
  clear hT
  go_enter Tryd.func13, Tryd.ntmps13
  go_wp2_with (first
    | (go_at_call 30; refine (Copysign_m _).mono ?_; rintro e w1 ⟨rfl, rfl⟩)
    | (go_at_call 14; refine (HL.out _).mono ?_; rintro e w1 ⟨rfl, rfl⟩)
    | (go_at_call 33; refine HX.out.mono ?_; rintro e w2 ⟨rfl, hb2⟩)
    | (go_at_call 11; refine (HK.out _).mono ?_; rintro e w3 ⟨rfl, k3, rfl⟩))
  go_ret
  exact ⟨rfl, below_drewN hb2 _⟩
end Go.Proofs.YtdcjbodkcldpbaaDoor
