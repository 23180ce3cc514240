/-
  The walks of report.Replica, and of what it calls.
-/
import Derived.Test.YtkckncggiicciaaDoorRlags
import Derived.BigQuiet
import Derived.Deep.QuietTactic
import Derived.Deep.RegionHeld3
namespace Go.Proofs.YtkckncggiicciaaDoor
open Go.RowKit
set_option maxRecDepth 100000
/-- A replica's cells. -/
structure RfAt (x : List Value) (id term base bt commit role lead : Int) (L : Value) : Prop where
  len : x.length = 40
  one : ∀ v ∈ x, v.oneCell' = true
  id : x[0]? = some (.int .i64 id)
  term : x[1]? = some (.int .i64 term)
  base : x[3]? = some (.int .i64 base)
  bt : x[4]? = some (.int .i64 bt)
  log : x[10]? = some L
  commit : x[11]? = some (.int .i64 commit)
  role : x[12]? = some (.int .i64 role)
  lead : x[13]? = some (.int .i64 lead)
theorem alloc_below (w : World) (o : Obj) : Below w.heap.size w (w.alloc o) := (Below.refl _ _).alloc (Nat.le_refl _) _
def logB (base : Int) : Bool := decide (0 ≤ base) && decide (base ≤ 1099511627776)
set_option maxHeartbeats 1000000 in
theorem has_any (x : List Value) (base : Int) (w : World) (hb : x[3]? = some (.int .i64 base)) :
    Calls Tryd.prog 35 #[.agg x.toArray] w fun e w' => e = .returned (.bool (logB base)) ∧ Below w.heap.size w w' := by
  have h1 := alloc_below w (.cells x.toArray 33)
  unfold logB
  rcases Decidable.em (0 ≤ base) with h | h
  · rcases Decidable.em (base ≤ 1099511627776) with h' | h'
    all_goals
      go_enter Tryd.func35, Tryd.ntmps35
      go_wp2_with fail
      go_ret
      exact ⟨ret_bool (by simp <;> omega), h1⟩
  · go_enter Tryd.func35, Tryd.ntmps35
    go_wp2_with fail
    go_ret
    exact ⟨ret_bool (by simp <;> omega), h1⟩
set_option maxHeartbeats 1000000 in
theorem logged_any (x : List Value) (base : Int) (w : World) (hb : x[3]? = some (.int .i64 base)) :
    Calls Tryd.prog 38 #[.agg x.toArray] w fun e w' => e = .returned (.bool (logB base)) ∧ Below w.heap.size w w' := by
  have h1 := alloc_below w (.cells x.toArray 33)
  unfold logB
  rcases Decidable.em (0 ≤ base) with h | h
  · rcases Decidable.em (base ≤ 1099511627776) with h' | h'
    all_goals
      go_enter Tryd.func38, Tryd.ntmps38
      go_wp2_with fail
      go_ret
      exact ⟨ret_bool (by simp <;> omega), h1⟩
  · go_enter Tryd.func38, Tryd.ntmps38
    go_wp2_with fail
    go_ret
    exact ⟨ret_bool (by simp <;> omega), h1⟩
/-- A log that is empty, or whose last entry's term is there. -/
def LogAt (w : World) (A : Option Addr) (m c : Nat) : Prop := m ≤ c ∧ m ≤ 1000000 ∧ (0 < m → ∃ b off t, A = some ⟨b, off, none⟩ ∧ b < w.heap.size ∧ w.cell? ⟨b, off + (m - 1) * 16, none⟩ = some (.int .i64 t))
def LastPost (n : Int) (w : World) (e : Ending) (w' : World) : Prop := (∃ t : Int, e = .returned (.tuple #[.int .i64 n, .int .i64 t])) ∧ Below w.heap.size w w'
set_option maxHeartbeats 1600000 in
theorem Last_any (x : List Value) (base bt : Int) (A : Option Addr) (m c : Nat) (w : World) (h2 : x[2]? = some (.int .i64 base)) (h3 : x[3]? = some (.int .i64 bt)) (h9 : x[9]? = some (.slice A m c)) (hl : LogAt w A m c) (hb0 : 0 ≤ base) (hb1 : base ≤ 1099511627776) :
    Calls Tryd.prog 36 #[.agg x.toArray] w (LastPost (base + m) w) := by
  have hab := alloc_below w (.cells x.toArray 29)
  obtain ⟨hmc, hmz, hcell⟩ := hl
  rcases Nat.eq_zero_or_pos m with rfl | hp
  · have HP : Hid (∀ k t, LastPost (base + (0 : Nat)) w (.returned (.tuple #[.int .i64 base, .int .i64 t])) ((w.alloc (.cells x.toArray 29)).drewN k)) := fun k t => ⟨⟨t, by simp⟩, below_drewN hab k⟩
    obtain ⟨J, hJ⟩ : ∃ J, LastPost (base + (0 : Nat)) w = J := ⟨_, rfl⟩
    rw [hJ] at HP ⊢
    clear hJ hcell hmc hmz hab
    go_enter Tryd.func36, Tryd.ntmps36
    go_wp2_with fail
    go_quiet (fail)
    go_wp2_with fail
    exact HP.out _ _
  · obtain ⟨b, off, t, rfl, hlt, hc⟩ := hcell hp
    obtain ⟨p, rfl⟩ : ∃ p, m = p + 1 := ⟨m - 1, by omega⟩
    rw [Nat.add_sub_cancel] at hc
    have HP : Hid (∀ k t, LastPost (base + ((p + 1 : Nat) : Int)) w (.returned (.tuple #[.int .i64 (base + ((p : Int) + 1)), .int .i64 t])) ((w.alloc (.cells x.toArray 29)).drewN k)) := fun k t => ⟨⟨t, by simp⟩, below_drewN hab k⟩
    obtain ⟨J, hJ⟩ : ∃ J, LastPost (base + ((p + 1 : Nat) : Int)) w = J := ⟨_, rfl⟩
    rw [hJ] at HP ⊢
    have hz : (((p + 1 : Nat) : Int) == 0) = false := by simp; omega
    have hz2 : ((p : Int) + 1 == 0) = false := by simp; omega
    have i1 : (0 : Int) ≤ (p : Int) := by omega
    have i2 : (p : Int) < (p : Int) + 1 := by omega
    clear hJ hcell hab
    go_enter Tryd.func36, Tryd.ntmps36
    go_wp2_with fail
    go_quiet (fail)
    go_wp2_with fail
    exact HP.out _ _
set_option maxHeartbeats 1600000 in
theorem RefLast_any (x : List Value) (base bt : Int) (A : Option Addr) (m c : Nat) (w : World) (h2 : x[2]? = some (.int .i64 base)) (h3 : x[3]? = some (.int .i64 bt)) (h9 : x[9]? = some (.slice A m c)) (hl : LogAt w A m c) (hb0 : 0 ≤ base) (hb1 : base ≤ 1099511627776) :
    Calls Tryd.prog 39 #[.agg x.toArray] w (LastPost (base + m) w) := by
  have hab := alloc_below w (.cells x.toArray 29)
  obtain ⟨hmc, hmz, hcell⟩ := hl
  rcases Nat.eq_zero_or_pos m with rfl | hp
  · have HP : Hid (∀ k t, LastPost (base + (0 : Nat)) w (.returned (.tuple #[.int .i64 base, .int .i64 t])) ((w.alloc (.cells x.toArray 29)).drewN k)) := fun k t => ⟨⟨t, by simp⟩, below_drewN hab k⟩
    obtain ⟨J, hJ⟩ : ∃ J, LastPost (base + (0 : Nat)) w = J := ⟨_, rfl⟩
    rw [hJ] at HP ⊢
    clear hJ hcell hmc hmz hab
    go_enter Tryd.func39, Tryd.ntmps39
    go_wp2_with fail
    go_quiet (fail)
    go_wp2_with fail
    exact HP.out _ _
  · obtain ⟨b, off, t, rfl, hlt, hc⟩ := hcell hp
    obtain ⟨p, rfl⟩ : ∃ p, m = p + 1 := ⟨m - 1, by omega⟩
    rw [Nat.add_sub_cancel] at hc
    have HP : Hid (∀ k t, LastPost (base + ((p + 1 : Nat) : Int)) w (.returned (.tuple #[.int .i64 (base + ((p : Int) + 1)), .int .i64 t])) ((w.alloc (.cells x.toArray 29)).drewN k)) := fun k t => ⟨⟨t, by simp⟩, below_drewN hab k⟩
    obtain ⟨J, hJ⟩ : ∃ J, LastPost (base + ((p + 1 : Nat) : Int)) w = J := ⟨_, rfl⟩
    rw [hJ] at HP ⊢
    have hz : (((p + 1 : Nat) : Int) == 0) = false := by simp; omega
    have hz2 : ((p : Int) + 1 == 0) = false := by simp; omega
    have i1 : (0 : Int) ≤ (p : Int) := by omega
    have i2 : (p : Int) < (p : Int) + 1 := by omega
    clear hJ hcell hab
    go_enter Tryd.func39, Tryd.ntmps39
    go_wp2_with fail
    go_quiet (fail)
    go_wp2_with fail
    exact HP.out _ _
end Go.Proofs.YtkckncggiicciaaDoor
