/-
  The walks of skerrykeep.Bytes, Twin, SpoilBytes.
-/
import Derived.Test.YtlopeflgleplfaaMem
import Derived.WalkSpells
import Derived.WalkLawsBesides
import Derived.BigQuiet
import Derived.Deep.QuietTactic
import Derived.Deep.LoopGhost
namespace Go.Proofs.Ytlopeflgleplfaa
open Go.RowKit
theorem by_one (w : World) (c : UInt8) : By (w.alloc (.cells #[.int .u8 (c.toNat : Int)] 5)) (w.heap.size + 1) (some ⟨w.heap.size, 0, none⟩) 1 1 [c] := rd_one w _ _
def TwinPost (w : World) (l : List UInt8) (e : Ending) (w' : World) : Prop := ∃ v, e = .returned v ∧ OwnB w' w.heap.size v l ∧ Below w.heap.size w w'
set_option maxHeartbeats 400000 in
theorem Twin_any (A : Option Addr) (n cap : Nat) (l : List UInt8) (w : World) (B : Nat) (hb : By w B A n cap l) (hn : n ≤ 140737488355328) :
    Calls Try.prog 22 #[.slice A n cap] w (TwinPost w l) := by
  go_enter Try.func22, Try.ntmps22
  go_wp2_with (
    (at_builtin
     refine wpList_appB rfl (.tmp 4) (.tmp 5) rfl w.heap.size (.slice none 0 0) [] rfl (World.ownsRow_nil _ _ _ _) B A n cap l rfl hb (by simp; omega) (Nat.le_refl _) ?_
     intro v' w' ho hg))
  go_ret
  exact ⟨v', rfl, ho, (Below.refl _ _).grown hg (Nat.le_refl _) (by intro k hk; simp [Value.ownBlock] at hk)⟩

set_option maxHeartbeats 800000 in
theorem Bytes_any (A A' : Option Addr) (n cap n' cap' : Nat) (l l' : List UInt8) (w : World) (B B' : Nat) (hb : By w B A n cap l) (hb' : By w B' A' n' cap' l') :
    Calls Try.prog 17 #[.slice A n cap, .slice A' n' cap'] w (Qt w (.bool (decide (l = l')))) := by
  have h1 : n ≤ 9223372036854775807 := by have := hb.2.1; have := hb.2.2.1; unfold maxLen at this; omega
  have h2 : n' ≤ 9223372036854775807 := by have := hb'.2.1; have := hb'.2.2.1; unfold maxLen at this; omega
  by_cases hne : n = n'
  case neg =>
    have hr : decide (l = l') = false := by
      have := hb.len; have := hb'.len
      simp only [decide_eq_false_iff_not]
      rintro rfl
      omega
    rw [hr]
    have hd : ((n : Int) != (n' : Int)) = true := by simp; omega
    clear hr hne
    go_enter Try.func17, Try.ntmps17
    go_wp2_with fail
    go_ret
    exact ⟨rfl, 0, rfl⟩
  subst hne
  have hd : ((n : Int) != (n : Int)) = false := by simp
  go_enter Try.func17, Try.ntmps17
  go_wp2_with fail
  go_loopg [5] n (fun m s5 wr => ∃ k : Nat, k + m = n ∧ s5 = .int .i64 k ∧ l.take k = l'.take k ∧ ∃ q, wr = w.drewN q)
  case atStart => exact ⟨0, by omega, rfl, rfl, 0, rfl⟩
  case round =>
    obtain ⟨k, hk, rfl, he, q, rfl⟩ := hrel
    have He := Lib.hid he
    clear he
    have Hk := Lib.hid hk
    have hkn : k ≤ n := by omega
    clear hk
    by_cases hlt : k < n
    · obtain ⟨b, off, c, rfl, hbB, hc, Hc⟩ := hb.step hlt
      obtain ⟨b', off', c', rfl, hbB', hc', Hc'⟩ := hb'.step hlt
      have hki : (k : Int) < (n : Int) := by omega
      have hk0 : (0 : Int) ≤ (k : Int) := by omega
      by_cases hcc : c = c'
      · have hx : ((c.toNat : Int) != (c'.toNat : Int)) = false := by simp [hcc]
        have Hcc := Lib.hid hcc
        clear hcc
        go_wp2_with fail
        go_quiet (fail)
        go_wp2_with fail
        go_roundg (gk - 1)
        case rel => exact ⟨k + 1, by have := Hk.out; omega, by go_num, by rw [Hc.out.2, Hc'.out.2, He.out, Hcc.out], _, rfl⟩
        case measure => have := Hk.out; omega
      · have hx : ((c.toNat : Int) != (c'.toNat : Int)) = true := by
          have : c.toNat ≠ c'.toNat := fun e => hcc (UInt8.toNat_inj.1 e)
          simp; omega
        have Hcc := Lib.hid hcc
        clear hcc
        go_wp2_with fail
        go_quiet (fail)
        go_wp2_with fail
        go_ret
        refine ⟨ret_bool ?_, _, World.drewN_drewN _ _ _⟩
        have hcc := Hcc.out
        have e1 := Hc.out.1
        have e2 := Hc'.out.1
        symm
        simp only [decide_eq_false_iff_not]
        rintro rfl
        rw [e1] at e2
        exact hcc (Option.some.inj e2)
    · go_wp2_with fail
      go_ret
      refine ⟨ret_bool ?_, _, rfl⟩
      have e1 : l.take k = l := List.take_of_length_le (by have := hb.len; omega)
      have e2 : l'.take k = l' := List.take_of_length_le (by have := hb'.len; omega)
      have := He.out
      rw [e1, e2] at this
      simp [this]

theorem Bytes_same (A A' : Option Addr) (n cap n' cap' : Nat) (l : List UInt8) (w : World) (B B' : Nat) (hb : By w B A n cap l) (hb' : By w B' A' n' cap' l) :
    Calls Try.prog 17 #[.slice A n cap, .slice A' n' cap'] w (Qt w (.bool true)) := by
  have h := Bytes_any A A' n cap n' cap' l l w B B' hb hb'
  rwa [show decide (l = l) = true by simp] at h

/-- Bytes of the call's own are written over: nothing else turns. -/
theorem own_set_any {w : World} {base g k : Nat} {v : Value} {l : List UInt8} (h : OwnB w base v l) (d : UInt8) :
    ∃ l' : List UInt8, l'.length = l.length ∧ OwnB (w.setCell ⟨g, k, none⟩ (.int .u8 (d.toNat : Int))) base v l' := by
  obtain ⟨h1, ⟨e, h2⟩ | ⟨g', cap', cur, e, hb, hg, hn, hm, hs, ht⟩⟩ := h
  · exact ⟨l, rfl, h1, .inl ⟨e, h2⟩⟩
  · by_cases hgg : g' = g
    · subst hgg
      refine ⟨l.set k d, by simp, by simp, .inr ⟨g', cap', cur.setIfInBounds k (bv d), by simpa using e, hb, heap_setCell_same w g' k cur _ _ hg, by simpa using hn, hm, by simpa using hs, ?_⟩⟩
      have e : (l.set k d).map bv = (l.map bv).set k (bv d) := by rw [List.map_set]
      rw [e, ← ht]
      simp [List.take_set]
    · exact ⟨l, rfl, h1, .inr ⟨g', cap', cur, e, hb, (Below.heap_setCell w _ _ g' hgg).trans hg, hn, hm, hs, ht⟩⟩
/-- Rows of bytes stay rows of bytes. -/
def SpoilAll (w w' : World) : Prop := ∀ (b : Nat) (u : Value) (l : List UInt8), OwnB w b u l → ∃ l' : List UInt8, l'.length = l.length ∧ OwnB w' b u l'
theorem SpoilAll.set {w w' : World} (h : SpoilAll w w') {g k : Nat} (d : UInt8) : SpoilAll w (w'.setCell ⟨g, k, none⟩ (.int .u8 (d.toNat : Int))) := fun b u l hl => by
  obtain ⟨l', e, h'⟩ := h b u l hl
  obtain ⟨l2, e2, h2⟩ := own_set_any (g := g) (k := k) h' d
  exact ⟨l2, e2.trans e, h2⟩
def SpoilPost (w : World) (v : Value) (e : Ending) (w' : World) : Prop := e = .returned (.tuple #[]) ∧ w.grownBy w' v.ownBlock ∧ SpoilAll w w'
set_option maxHeartbeats 400000 in
theorem Spoil_any (A : Option Addr) (n cap base : Nat) (l : List UInt8) (w : World) (hown : OwnB w base (.slice A n cap) l) (hl : l.length = n) :
    Calls Try.prog 25 #[.slice A n cap] w (SpoilPost w (.slice A n cap)) := by
  obtain ⟨A0, c0, e0, hy⟩ := own_by hown hl
  have hn : n ≤ 9223372036854775807 := by have := hy.2.1; have := hy.2.2.1; unfold maxLen at this; omega
  clear e0 hy
  have Hl := Lib.hid hl
  clear hl
  go_enter Try.func25, Try.ntmps25
  go_wp2_with fail
  go_loopg [2] n (fun m s2 wr => ∃ k : Nat, k + m = n ∧ s2 = .int .i64 k ∧ ∃ l' : List UInt8, l'.length = n ∧ OwnB wr base (.slice A n cap) l' ∧ w.grownBy wr (Value.slice A n cap).ownBlock ∧ SpoilAll w wr)
  case atStart => exact ⟨0, by omega, rfl, l, Hl.out, hown, ⟨rfl, rfl, rfl, Nat.le_refl _, fun _ _ _ => rfl⟩, fun b u l h => ⟨l, rfl, h⟩⟩
  case round =>
    obtain ⟨k, hk, rfl, l', hl', ho, hg, hall⟩ := hrel
    have Hk := Lib.hid hk
    have hkn : k ≤ n := by omega
    clear hk
    by_cases hlt : k < n
    · obtain ⟨g, rfl, c, hc, hf, _, Hs⟩ := own_cell ho hl' hlt
      have hc2 := c.toNat_lt
      have Hl' := Lib.hid hl'
      clear hl'
      go_wp2_with fail
      go_roundg (gk - 1)
      case rel =>
        obtain ⟨h1, h2⟩ := Hs.out (c + 101)
        have e : ((c + 101).toNat : Int) = ((c.toNat : Int) + 101) % 256 := by rw [UInt8.toNat_add]; simp
        rw [e] at h1 h2
        exact ⟨k + 1, by have := Hk.out; omega, by go_num, l'.set k (c + 101), by simp [Hl'.out], h1, grown_trans_row hg h2, by rw [← e]; exact hall.set _⟩
      case measure => have := Hk.out; omega
    · go_wp2_with fail
      go_end0
      exact ⟨rfl, hg, hall⟩
end Go.Proofs.Ytlopeflgleplfaa
