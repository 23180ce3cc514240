/-
  strconv.ParseUint in base 16: a number, or an error that is not nil.
-/
import Derived.Test.YtpndhfnoppkmgaaDoorPint
import Derived.Test.YtpndhfnoppkmgaaDoorShelf
namespace Go.Proofs.YtpndhfnoppkmgaaDoor
open Go.RowKit
set_option maxRecDepth 100000
/-- The two errors lie where the program's text laid them. -/
def ErrAt (w : World) : Prop := (∃ te pe, w.cell? ⟨2, 0, none⟩ = some (.iface te pe)) ∧ ∃ te pe, w.cell? ⟨3, 0, none⟩ = some (.iface te pe)
theorem lt_of_cell {w : World} {b o : Nat} {v : Value} (h : w.cell? ⟨b, o, none⟩ = some v) : b < w.heap.size := World.block_lt_of_cell? _ _ h
theorem ErrAt.below {w w' : World} (h : ErrAt w) (hb : Below w.heap.size w w') : ErrAt w' := by
  obtain ⟨⟨a, b, h1⟩, ⟨c, d, h2⟩⟩ := h
  exact ⟨⟨a, b, (hb.cell (p := ⟨_, 0, none⟩) (lt_of_cell h1)).trans h1⟩, ⟨c, d, (hb.cell (p := ⟨_, 0, none⟩) (lt_of_cell h2)).trans h2⟩⟩
/-- What is read: none, or a number. -/
def puV (l : List UInt8) : Option Nat := if l = [] then none else pF l
def PuPost (l : List UInt8) (w : World) (e : Ending) (w' : World) : Prop :=
  (∃ v err, e = .returned (.tuple #[.int .u64 (v : Nat), err]) ∧ v < 18446744073709551616 ∧ (puV l = some v ∧ err = .nilIface ∨ puV l = none ∧ ∃ N, err = .iface 96 (.pointer (some N)))) ∧ Below w.heap.size w w'
def PinPost (l : List UInt8) (w : World) (e : Ending) (w' : World) : Prop :=
  (∃ v err, e = .returned (.tuple #[.int .u64 (v : Nat), err]) ∧ v < 18446744073709551616 ∧ (puV l = some v ∧ err = .nilIface ∨ puV l = none ∧ ∃ k : Int, (k = 1 ∨ k = 2) ∧ err = .iface 94 (.int .i64 k))) ∧ Below w.heap.size w w'
set_option maxHeartbeats 400000 in
theorem pint_none (w : World) : Calls Tryd.prog 67 #[.string ⟨#[]⟩, .int .i64 16, .int .i64 64] w (PinPost [] w) := by
  have HP : Hid (PinPost [] w (.returned (.tuple #[.int .u64 0, .iface 94 (.int .i64 2)])) w) := ⟨⟨0, _, rfl, by omega, .inr ⟨rfl, 2, .inr rfl, rfl⟩⟩, Below.refl _ _⟩
  go_enter Tryd.func67, Tryd.ntmps67
  go_wp2_with fail
  go_ret2
  exact HP.out
theorem pin_any (s : ByteArray) (w : World) (hs : s.size ≤ 4000) :
    Calls Tryd.prog 67 #[.string s, .int .i64 16, .int .i64 64] w (PinPost s.data.toList w) := by
  rcases Decidable.em (s.size = 0) with h0 | h0
  · obtain rfl : s = ⟨#[]⟩ := by
      apply ByteArray.ext
      exact Array.eq_empty_of_size_eq_zero h0
    exact pint_none w
  · have hne : s.data.toList ≠ [] := by
      intro e
      have : s.data.toList.length = s.size := Array.length_toList
      rw [e] at this
      exact h0 this.symm
    refine (pint_any s w hs h0).mono ?_
    intro e w' h
    unfold PintPost at h
    unfold PinPost puV
    rw [if_neg hne]
    exact h
set_option maxHeartbeats 1600000 in
theorem puint_any (s : ByteArray) (w : World) (hs : s.size ≤ 4000) (hE : ErrAt w) :
    Calls Tryd.prog 58 #[.string s, .int .i64 16, .int .i64 64] w (PuPost s.data.toList w) := by
  have HI : Hid (Calls Tryd.prog 67 #[.string s, .int .i64 16, .int .i64 64] w (PinPost s.data.toList w)) := pin_any s w hs
  have HE := Lib.hid hE
  obtain ⟨l, hl⟩ : ∃ l, s.data.toList = l := ⟨_, rfl⟩
  rw [hl] at HI ⊢
  clear hE hl
  go_enter Tryd.func58, Tryd.ntmps58
  go_wp2_with fail
  refine HI.out.mono ?_
  rintro e w1 ⟨⟨v, err, rfl, hv, hcase⟩, hb⟩
  rcases hcase with ⟨hf, rfl⟩ | ⟨hf, k, hk, rfl⟩
  · have HP : Hid (PuPost l w (.returned (.tuple #[.int .u64 (v : Nat), .nilIface])) w1) := ⟨⟨v, _, rfl, hv, .inl ⟨hf, rfl⟩⟩, hb⟩
    clear hf hv
    go_wp2_with fail
    go_ret2
    exact HP.out
  · have HP : Hid (∀ w2 N, Below w1.heap.size w1 w2 → PuPost l w (.returned (.tuple #[.int .u64 (v : Nat), .iface 96 (.pointer (some N))])) w2) := fun w2 N h => ⟨⟨v, _, rfl, hv, .inr ⟨hf, N, rfl⟩⟩, hb.trans (h.mono hb.size)⟩
    have hE1 := HE.out.below hb
    obtain ⟨⟨te, pe, h1⟩, ⟨tr, pr, h2⟩⟩ := hE1
    have HS : Hid (∀ fn, Calls Tryd.prog 68 #[.string fn, .string s, .int .i64 16, .int .i64 64, .iface 94 (.int .i64 k)] w1 fun e w' => ∃ N, e = .returned (.iface 96 (.pointer (some N))) ∧ Below w1.heap.size w1 w') := fun fn => by
      rcases hk with rfl | rfl
      · exact (Tryd.strconv_toError_range fn s 16 64 _ w1 (by omega) h2 (.inr ⟨tr, pr, rfl⟩)).mono fun _ _ ⟨N, q1, _, _, q2⟩ => ⟨_, q1, q2⟩
      · exact (Tryd.strconv_toError_syntax fn s 16 64 _ w1 (by omega) h1 (.inr ⟨te, pe, rfl⟩)).mono fun _ _ ⟨N, q1, _, _, q2⟩ => ⟨_, q1, q2⟩
    clear h1 h2 hk hf hv hb HE HI
    go_wp2_with (go_at_call 68; refine (HS.out _).mono ?_; rintro e w2 ⟨N, rfl, hb2⟩)
    go_ret2
    exact HP.out _ _ hb2
end Go.Proofs.YtpndhfnoppkmgaaDoor
