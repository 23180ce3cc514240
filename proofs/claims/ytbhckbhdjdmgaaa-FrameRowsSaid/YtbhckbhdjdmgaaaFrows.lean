/-
  The walk of skerrylaw03.FrameRows; and a slice of slices of bytes that comes in.
-/
import Derived.Test.YtbhckbhdjdmgaaaCuts
namespace Go.Proofs.Ytbhckbhdjdmgaaa
open Go.RowKit
set_option maxRecDepth 100000 in
set_option maxHeartbeats 3200000 in
theorem rows_walk (A A' : Option Addr) (n cap n' cap' : Nat) (l : List (List UInt8)) (m : UInt8) (r : List UInt8) (w : World) (hb : RdRows w w.heap.size A n cap l) (hr : By w w.heap.size A' n' cap' r) :
    Calls Try.prog 9 #[.slice A n cap, .int .u8 m.toNat, .slice A' n' cap'] w fun e w' => e = .returned (.bool true) ∧ Below w.heap.size w w' := by
  obtain ⟨D, hD⟩ : ∃ D, fewB l = D := ⟨_, rfl⟩
  have hfew := few_any A n cap l w _ hb
  rw [hD] at hfew
  have hlen := hb.len
  have hcaps := hb.caps
  have hn1' : n' ≤ 9223372036854775807 := by have := hr.2.1; have := hr.2.2.1; unfold maxLen at this; omega
  have Hfew := Lib.hid hfew
  clear hfew
  cases D
  · clear hD hlen
    go_enter Try.func9, Try.ntmps9
    go_wp2_with (go_at_call 23; refine Hfew.out.mono ?_; rintro e w1 ⟨rfl, rfl⟩)
    go_ret
    exact ⟨rfl, Below.refl _ _⟩
  obtain ⟨hn60, hall⟩ := few_all hD
  have hn : n ≤ 60 := by omega
  have Hall := Lib.hid hall
  have Hl := Lib.hid hlen
  have hLk : ∀ k, (frms (l.take k)).length ≤ 30540 := fun k => by
    have h1 := frms_len (l.take k) (fun p hp => hall p (List.mem_of_mem_take hp))
    have h2 : (l.take k).length ≤ 60 := by simp; omega
    omega
  have HLk := Lib.hid hLk
  clear hD hlen hall hLk hn60
  by_cases hm : m = 0x9d
  · have hm1 : ((m.toNat : Int) == 157) = true := by subst hm; rfl
    clear hm
    go_enter Try.func9, Try.ntmps9
    go_wp2_with (go_at_call 23; refine Hfew.out.mono ?_; rintro e w1 ⟨rfl, rfl⟩)
    go_ret
    exact ⟨rfl, Below.refl _ _⟩
  have hm1 : ((m.toNat : Int) == 157) = false := by
    have : m.toNat ≠ 157 := fun e => hm (UInt8.toNat_inj.1 e)
    simp; omega
  have Hm := Lib.hid hm
  clear hm
  by_cases hn' : 65536 < n'
  · go_enter Try.func9, Try.ntmps9
    go_wp2_with (go_at_call 23; refine Hfew.out.mono ?_; rintro e w1 ⟨rfl, rfl⟩)
    go_ret
    exact ⟨rfl, Below.refl _ _⟩
  go_enter Try.func9, Try.ntmps9
  go_wp2_with (go_at_call 23; refine Hfew.out.mono ?_; rintro e w1 ⟨rfl, rfl⟩)
  clear Hfew
  go_loopg [7, 8] n (fun q s7 s8 wr => ∃ k : Nat, k + q = n ∧ s8 = .int .i64 k ∧ Below w.heap.size w wr ∧ OwnB wr w.heap.size s7 (frms (l.take k)))
  case atStart => exact ⟨0, by omega, rfl, Below.refl _ _, World.ownsRow_nil _ _ _ _⟩
  case round =>
    obtain ⟨k, hk, rfl, hbw, ho5⟩ := hrel
    have hkn : k ≤ n := by omega
    have Hk := Lib.hid hk
    clear hk
    have hbr := hb.below hbw (Nat.le_refl _)
    by_cases hlt : k < n
    · obtain ⟨b, off, A1, m1, c1, p, rfl, hbB, hc, hy, Hc⟩ := hbr.step hlt
      have hmem : p ∈ l := List.mem_of_getElem? Hc.out.1
      have Hr : Hid (p.length = m1) := hy.len
      have hm1 : m1 ≤ 500 := by have := Hall.out p hmem; have := Hr.out; omega
      have Hf : Hid (frms (l.take (k + 1)) = frms (l.take k) ++ frm p) := by unfold Hid; rw [Hc.out.2, frms_snoc]
      have hL0 := HLk.out k
      clear hmem
      go_wp2_with fail
      refine (Seal_any _ _ _ _ _ _ hbw.size hy (by omega)).mono ?_
      rintro e w2 ⟨v2, rfl, ho2, hb2⟩
      obtain ⟨A2, c2, rfl, hy2⟩ := own_by ho2 (n := m1 + 9) (by rw [frm_length, Hr.out])
      have hbw2 := hbw.trans (hb2.mono hbw.size)
      have ho52 := ho5.below hb2
      go_wp2_with (
        (at_builtin
         refine wpList_appB rfl (.tmp 44) (.tmp 45) rfl w.heap.size u7 _ rfl ho52 w2.heap.size A2 (m1 + 9) c2 (frm p) rfl hy2 (by omega) hbw2.size ?_
         intro v3 w3 ho3 hg3))
      rw [← Hf.out] at ho3
      have hbw3 : Below w.heap.size w w3 := hbw2.grown hg3 hbw2.size (fun j hj => (ho52.lt j hj).1)
      go_roundg (gk - 1)
      case rel => exact ⟨k + 1, by have := Hk.out; omega, by go_num, hbw3, ho3⟩
      case measure => have := Hk.out; omega
    · obtain rfl : k = n := by omega
      have e1 : l.take k = l := List.take_of_length_le (by have := Hl.out; omega)
      have hL0 := HLk.out k
      rw [e1] at ho5 hL0
      clear e1
      obtain ⟨L, hL⟩ : ∃ L, Hid ((frms l).length = L) := ⟨_, rfl⟩
      rw [hL.out] at hL0
      obtain ⟨A5, c5, rfl, hy5⟩ := own_by ho5 hL.out
      have hs1 : Hid (scan (frms l) = (l, L)) := by
        have := scan_frms l [] Hall.out
        rw [scan_nil, List.append_nil, hL.out] at this
        unfold Hid
        simpa using this
      have hs2 : Hid (scan (frms l ++ [m] ++ r) = (l, L)) := by
        have := scan_frms l (m :: r) Hall.out
        rw [scan_none (first_mark m r Hm.out), hL.out] at this
        unfold Hid
        simpa using this
      have hLL : ((L : Int) == (L : Int)) = true := by simp
      go_wp2_with fail
      refine (Twin_any _ _ _ _ _ _ hy5 (by omega)).mono ?_
      rintro e w2 ⟨v2, rfl, ho2, hb2⟩
      have hbw2 := hbw.trans (hb2.mono hbw.size)
      have hrw := hr.below hbw2 (Nat.le_refl _)
      go_wp2_with (first
        | (at_builtin
           refine wpList_appB rfl (.tmp 51) (.tmp 53) rfl wr.heap.size v2 _ rfl (World.ownsRow.alloc ho2 _) (w2.heap.size + 1) (some ⟨w2.heap.size, 0, none⟩) 1 1 [m] rfl (by_one w2 m) (by rw [hL.out]; omega) (by simp; have := hb2.size; omega) ?_
           intro v3 w3 ho3 hg3
           have hb3 : Below wr.heap.size wr w3 := (hb2.alloc hb2.size _).grown hg3 (by simp; have := hb2.size; omega) (fun j hj => (ho2.lt j hj).1)
           have hbw3 : Below w.heap.size w w3 := hbw.trans (hb3.mono hbw.size))
        | (at_builtin
           refine wpList_appB rfl (.tmp 54) (.tmp 55) rfl wr.heap.size v3 _ rfl ho3 w.heap.size A' n' cap' r rfl (hr.below hbw3 (Nat.le_refl _)) (by rw [List.length_append, hL.out]; simp; omega) hb3.size ?_
           intro v4 w4 ho4 hg4
           have hb4 : Below wr.heap.size wr w4 := hb3.grown hg4 hb3.size (fun j hj => (ho3.lt j hj).1)
           have hbw4 : Below w.heap.size w w4 := hbw.trans (hb4.mono hbw.size)
           obtain ⟨A4, c4, rfl, hy4⟩ := own_by ho4 (n := L + 1 + n') (by rw [List.length_append, List.length_append, hL.out, hr.len]; rfl)))
      refine (Scan_any _ _ _ _ _ _ (Nat.le_refl _) hy4 (by omega)).mono ?_
      rw [hs2.out]
      rintro e w5 ⟨v5, rfl, ho5', hb5⟩
      obtain ⟨A6, c6, rfl, hr6⟩ := ho5'.rd Hl.out
      have hbw5 := hbw4.trans (hb5.mono hbw4.size)
      have hby5 := (hy5.below hb4 (Nat.le_refl _)).below hb5 hb4.size
      go_wp2_with fail
      refine (Scan_any _ _ _ _ _ _ (Nat.le_trans hb4.size hb5.size) hby5 (by omega)).mono ?_
      rw [hs1.out]
      rintro e w7 ⟨v7, rfl, ho7, hb7⟩
      obtain ⟨A7, c7, rfl, hr7⟩ := ho7.rd Hl.out
      have hbw7 := hbw5.trans (hb7.mono hbw5.size)
      go_wp2_with fail
      refine (Rows_same _ _ _ _ _ _ _ _ _ _ (hr6.below hb7 (Nat.le_refl _)) (hb.below hbw7 (Nat.le_refl _))).mono ?_
      rintro e w8 ⟨rfl, k8, rfl⟩
      go_wp2_with fail
      refine (Rows_same _ _ _ _ _ _ _ _ _ _ (hr7.keep (w' := w7.drewN k8) (fun _ _ => rfl)) (hb.below (below_drewN hbw7 k8) (Nat.le_refl _))).mono ?_
      rintro e w9 ⟨rfl, k9, rfl⟩
      go_wp2_with fail
      refine (wakes_any _).mono ?_
      rintro e wa ⟨rfl, hba⟩
      go_wp2_with fail
      go_ret
      have hbf := below_drewN hbw7 (k8 + k9)
      exact ⟨rfl, hbf.trans (hba.mono hbf.size)⟩
end Go.Proofs.Ytbhckbhdjdmgaaa
