/-
  The walk of NumEnds.
-/
import Derived.Test.YtdcjbodkcldpbaaDoorKeys
import Derived.Test.YtdcjbodkcldpbaaDoorWk
import Derived.Test.YtdcjbodkcldpbaaDoorMean
namespace Go.Proofs.YtdcjbodkcldpbaaDoor
open Go.RowKit
set_option maxRecDepth 100000
theorem Less_t (a b : Nat) (w : World) (h : lessB a b = true) (ha : a < 18446744073709551616) (hb : b < 18446744073709551616) : Calls Tryd.prog 14 #[.float .f64 a, .float .f64 b] w fun e w' => e = .returned (.bool true) ∧ w = w' := by
  have := Less_any a b w ha hb
  rw [h] at this
  exact this
theorem Same_t (a b : Nat) (w : World) (h : sameB a b = true) (ha : a < 18446744073709551616) (hb : b < 18446744073709551616) : Calls Tryd.prog 15 #[.float .f64 a, .float .f64 b] w fun e w' => e = .returned (.bool true) ∧ w = w' := by
  have := Same_any a b w ha hb
  rw [h] at this
  exact this
theorem Same_f (a b : Nat) (w : World) (h : sameB a b = false) (ha : a < 18446744073709551616) (hb : b < 18446744073709551616) : Calls Tryd.prog 15 #[.float .f64 a, .float .f64 b] w fun e w' => e = .returned (.bool false) ∧ w = w' := by
  have := Same_any a b w ha hb
  rw [h] at this
  exact this
theorem Ticks_v (x : Nat) (lo hi v : Int) (w : World) (h : tickV x lo hi = v) (hx : x < 18446744073709551616) : Calls Tryd.prog 11 #[.float .f64 x, .int .i64 lo, .int .i64 hi] w (Qt w (.int .i64 v)) := by
  rw [← h]
  exact Ticks_any x lo hi w hx
theorem Add_v (x y v : Nat) (w : World) (h : addV x y = v) : Calls Tryd.prog 24 #[.float .f64 x, .float .f64 y] w (Qt w (.float .f64 v)) := by
  rw [← h]
  exact Add_any x y w
theorem Max_v (x y v : Nat) (w : World) (h : maxV x y = v) (ha : x < 18446744073709551616) (hb : y < 18446744073709551616) : Calls Tryd.prog 26 #[.float .f64 x, .float .f64 y] w fun e w' => e = .returned (.float .f64 v) ∧ w = w' := by
  rw [← h]
  exact Max_any x y w ha hb
theorem Text_v (x : Nat) (v : ByteArray) (w : World) (h : textV x = v) (hx : x < 18446744073709551616) (hT : TzAt w) : Calls Tryd.prog 33 #[.float .f64 x] w fun e w' => e = .returned (.string v) ∧ Below w.heap.size w w' := by
  rw [← h]
  exact Text_any x w hx hT
theorem Mean_nil (w : World) : Calls Tryd.prog 18 #[.slice none 0 0] w (Qt w (.float .f64 9221120237041090561)) := Mean_any none 0 0 0 [] w (Rd.nil _ _ _)
set_option maxHeartbeats 6400000 in
theorem nends_walk (W : World) (hT : TzAt W) :
    Calls Tryd.prog 9 #[] W fun e w' => e = .returned (.bool true) ∧ Below W.heap.size W w' := by
  have HT := Lib.hid hT
  clear hT
  have hfb := call_frombits
  have hneg : ∀ W, (Op.unary UnOp.neg (.float .f64 9218868437227405312)).run Tryd.prog W = .ok (.float .f64 18442240474082181120) W := fun W => rfl
  go_enter Tryd.func9, Tryd.ntmps9
  go_wp2_with (first
    | (go_at_call 29; refine (Inf_any _).mono ?_; rintro e w1 ⟨rfl, rfl⟩)
    | (go_at_call 30; refine (Copysign_m _).mono ?_; rintro e w1 ⟨rfl, rfl⟩)
    | (go_at_call 32; refine (NaN_any _).mono ?_; rintro e w1 ⟨rfl, rfl⟩)
    | (go_at_call 14; refine (Less_t _ _ _ (by decide +kernel) (by omega) (by omega)).mono ?_; rintro e w1 ⟨rfl, rfl⟩)
    | (go_at_call 15; refine (Same_t _ _ _ (by decide +kernel) (by omega) (by omega)).mono ?_; rintro e w1 ⟨rfl, rfl⟩)
    | (go_at_call 15; refine (Same_f _ _ _ (by decide +kernel) (by omega) (by omega)).mono ?_; rintro e w1 ⟨rfl, rfl⟩)
    | (go_at_call 24; refine (Add_v _ _ 9221120237041090561 _ (by decide +kernel)).mono ?_; rintro e w1 ⟨rfl, k1, rfl⟩)
    | (go_at_call 24; refine (Add_v _ _ 9223372036854775808 _ (by decide +kernel)).mono ?_; rintro e w1 ⟨rfl, k1, rfl⟩)
    | (go_at_call 24; refine (Add_v _ _ 9218868437227405312 _ (by decide +kernel)).mono ?_; rintro e w1 ⟨rfl, k1, rfl⟩)
    | (go_at_call 26; refine (Max_v _ _ 9221120237041090561 _ (by decide +kernel) (by omega) (by omega)).mono ?_; rintro e w1 ⟨rfl, rfl⟩)
    | (go_at_call 26; refine (Max_v _ _ 0 _ (by decide +kernel) (by omega) (by omega)).mono ?_; rintro e w1 ⟨rfl, rfl⟩)
    | (go_at_call 11; refine (Ticks_v _ _ _ 9 _ (by decide +kernel) (by omega)).mono ?_; rintro e w1 ⟨rfl, k1, rfl⟩)
    | (go_at_call 11; refine (Ticks_v _ _ _ 1 _ (by decide +kernel) (by omega)).mono ?_; rintro e w1 ⟨rfl, k1, rfl⟩)
    | (go_at_call 11; refine (Ticks_v _ _ _ 4 _ (by decide +kernel) (by omega)).mono ?_; rintro e w1 ⟨rfl, k1, rfl⟩)
    | (go_at_call 11; refine (Ticks_v _ _ _ 0 _ (by decide +kernel) (by omega)).mono ?_; rintro e w1 ⟨rfl, k1, rfl⟩)
    | (go_at_call 11; refine (Ticks_v _ _ _ 9223372036854775807 _ (by decide +kernel) (by omega)).mono ?_; rintro e w1 ⟨rfl, k1, rfl⟩)
    | (go_at_call 18; refine (Mean_nil _).mono ?_; rintro e w1 ⟨rfl, k1, rfl⟩)
    | (go_at_call 33; refine (Text_v _ ⟨#[56, 48, 48, 48, 48, 48, 48, 48, 48, 48, 48, 48, 48, 48, 48, 48]⟩ _ (by decide +kernel) (by omega) (by exact HT.out)).mono ?_; rintro e w2 ⟨rfl, hbA⟩; have HT2 := Lib.hid (TzAt.below (by exact HT.out) hbA))
    | (go_at_call 33; refine (Text_v _ ⟨#[55, 102, 102, 56, 48, 48, 48, 48, 48, 48, 48, 48, 48, 48, 48, 49]⟩ _ (by decide +kernel) (by omega) (by exact HT2.out)).mono ?_; rintro e w3 ⟨rfl, hbB⟩; have HT3 := Lib.hid (TzAt.below (by exact HT2.out) hbB))
    | (go_at_call 13; refine (wakes_any _ (by exact HT3.out)).mono ?_; rintro e w9 ⟨rfl, hb9⟩))
  go_ret
  have b1 : Below W.heap.size W w2 := (below_drewN (Below.refl _ _) _).trans hbA
  have b2 : Below W.heap.size W w3 := b1.trans (hbB.mono b1.size)
  exact ⟨rfl, (below_drewN b2 _).trans (hb9.mono b2.size)⟩
end Go.Proofs.YtdcjbodkcldpbaaDoor
