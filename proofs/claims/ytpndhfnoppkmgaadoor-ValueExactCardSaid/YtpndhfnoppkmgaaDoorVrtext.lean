/-
  The page's text of a right value; the same value told so.
-/
import Derived.Test.YtpndhfnoppkmgaaDoorVtexts
namespace Go.Proofs.YtpndhfnoppkmgaaDoor
open Go.RowKit
set_option maxRecDepth 100000
set_option maxHeartbeats 1600000 in
theorem RText_any (a : Va) (w : World) (ha : a.x < 18446744073709551616) (hs : a.s.size ≤ 2000) (hT : TzAt w) (hk : a.k = 0 ∨ a.k = 1 ∨ a.k = 2) :
    Calls Tryd.prog 21 #[a.v] w fun e w' => e = .returned (.string (vtextV a)) ∧ Below w.heap.size w w' := by
  obtain ⟨k, x, s⟩ := a
  unfold vtextV Va.v
  dsimp only at *
  have HT : Hid (∀ w', Below w.heap.size w w' → Calls Tryd.prog 38 #[.float .f64 x] w' fun e w'' => e = .returned (.string (textV x)) ∧ Below w'.heap.size w' w'') := fun w' hb => RefText_any x w' ha (hT.below hb)
  have HH : Hid (∀ w', Calls Tryd.prog 39 #[.string s] w' fun e w'' => e = .returned (.string ⟨(hexT s.data.toList).toArray⟩) ∧ Below w'.heap.size w' w'') := fun w' => RHex_any s w' hs
  obtain ⟨T, hTt⟩ : ∃ T, textV x = T := ⟨_, rfl⟩
  have hTz : T.size ≤ 16 := by rw [← hTt]; unfold textV; show (hexL 16 (canon x)).toArray.size ≤ 16; rw [List.size_toArray, hexL_len]; omega
  have HE : Hid ((⟨#[116]⟩ : ByteArray) ++ ⟨(hexT s.data.toList).toArray⟩ = ⟨(116 :: hexT s.data.toList).toArray⟩) := by
    show (⟨[116].toArray⟩ ++ ⟨(hexT s.data.toList).toArray⟩ : ByteArray) = _
    rw [bytes_app]
    rfl
  obtain ⟨U, hU⟩ : ∃ U, (⟨(hexT s.data.toList).toArray⟩ : ByteArray) = U := ⟨_, rfl⟩
  have hUz : U.size ≤ 4000 := by
    rw [← hU]
    show (hexT s.data.toList).toArray.size ≤ 4000
    rw [List.size_toArray, hexT_len]
    have : s.data.toList.length = s.size := Array.length_toList
    omega
  rw [hTt] at HT
  rw [hTt]
  rw [hU] at HH HE
  clear hT hTt hU
  have hob := one_below w (.cells #[.int .i64 k, .float .f64 x, .string s] 24)
  rcases hk with rfl | rfl | rfl
  all_goals
    first | rw [if_pos rfl] | rw [if_neg (by decide)]
    try first | rw [if_pos rfl] | rw [if_neg (by decide)]
    go_enter Tryd.func21, Tryd.ntmps21
    go_wp2_with (first
      | (go_at_call 38; refine (HT.out _ hob).mono ?_; rintro e w2 ⟨rfl, hb2⟩)
      | (go_at_call 39; refine (HH.out _).mono ?_; rintro e w2 ⟨rfl, hb2⟩))
    go_ret
    first
      | exact ⟨rfl, hob⟩
      | exact ⟨rfl, hob.trans (hb2.mono (by simp))⟩
      | exact ⟨ret_str HE.out, hob.trans (hb2.mono (by simp))⟩
end Go.Proofs.YtpndhfnoppkmgaaDoor
