/-
  The walk of skerrylaw03.FrameUnlike.
-/
import Derived.Test.YtbhckbhdjdmgaaaWakes
import Derived.Test.YtbhckbhdjdmgaaaScan
namespace Go.Proofs.Ytbhckbhdjdmgaaa
open Go.RowKit
theorem frm_inj {p q : List UInt8} : frm p = frm q ↔ p = q := by
  constructor
  · intro h
    have e : ∀ x, (frm x).drop 9 = x := fun x => by simp [frm, hi4]
    rw [← e p, ← e q, h]
  · rintro rfl; rfl
theorem scan_frm (p rest : List UInt8) (hp : p.length ≤ 16384) : scan (frm p ++ rest) = (p :: (scan rest).1, (p.length + 9) + (scan rest).2) := by
  rw [scan_some (first_frm p rest hp)]
  have e : (frm p ++ rest).drop (p.length + 9) = rest := by rw [← frm_length, List.drop_left]
  rw [e]
theorem scan_nil : scan [] = ([], 0) := scan_none (by simp [first])
/-- Two rows of bytes in one new row. -/
theorem rd_two (w : World) (A A' : Option Addr) (n c n' c' : Nat) (p q : List UInt8) (h : By w w.heap.size A n c p) (h' : By w w.heap.size A' n' c' q) :
    RdRows (w.alloc (.cells #[.slice A n c, .slice A' n' c'] 22)) (w.heap.size + 1) (some ⟨w.heap.size, 0, none⟩) 2 2 [p, q] := by
  refine ⟨[.slice A n c, .slice A' n' c'], ⟨rfl, Nat.le_refl _, by decide, fun _ => ⟨w.heap.size, 0, rfl, by omega, fun j x hx => ?_⟩⟩, rfl, fun i u l hu hl => ?_⟩
  · rw [Nat.zero_add, cell_of_row _ _ _ _ _ _ (heap_alloc_new w _)]
    simpa using hx
  · have e := h.len
    have e' := h'.len
    subst e
    subst e'
    match i, hu, hl with
    | 0, hu, hl =>
      simp at hu hl
      subst hu hl
      exact ⟨A, c, rfl, Rd.mono (h.alloc (Nat.le_refl _) _) (by omega)⟩
    | 1, hu, hl =>
      simp at hu hl
      subst hu hl
      exact ⟨A', c', rfl, Rd.mono (h'.alloc (Nat.le_refl _) _) (by omega)⟩
theorem Rows_same (A A' : Option Addr) (n cap n' cap' : Nat) (l : List (List UInt8)) (w : World) (B B' : Nat) (hb : RdRows w B A n cap l) (hb' : RdRows w B' A' n' cap' l) :
    Calls Try.prog 22 #[.slice A n cap, .slice A' n' cap'] w (Qt w (.bool true)) := by
  have h := Rows_any A A' n cap n' cap' l l w B B' hb hb'
  rwa [show decide (l = l) = true by simp] at h
set_option maxHeartbeats 800000 in
theorem unlike_walk (A A' : Option Addr) (n cap n' cap' : Nat) (p m : List UInt8) (w : World) (hb : By w w.heap.size A n cap p) (hm : By w w.heap.size A' n' cap' m) :
    Calls Try.prog 8 #[.slice A n cap, .slice A' n' cap'] w fun e w' => e = .returned (.bool true) ∧ Below w.heap.size w w' := by
  have h1 : n ≤ 9223372036854775807 := by have := hb.2.1; have := hb.2.2.1; unfold maxLen at this; omega
  have h2 : n' ≤ 9223372036854775807 := by have := hm.2.1; have := hm.2.2.1; unfold maxLen at this; omega
  by_cases hn : 16384 < n
  · go_enter Try.func8, Try.ntmps8
    go_wp2_with fail
    go_ret
    exact ⟨rfl, Below.refl _ _⟩
  by_cases hn' : 16384 < n'
  · go_enter Try.func8, Try.ntmps8
    go_wp2_with fail
    go_ret
    exact ⟨rfl, Below.refl _ _⟩
  have hl := hb.len
  have Hl := Lib.hid hl
  clear hl
  have hl' := hm.len
  have Hl' := Lib.hid hl'
  clear hl'
  obtain ⟨D, hD⟩ : ∃ D, Hid (decide (p = m) = D) := ⟨_, rfl⟩
  have hDD : (D != D) = false := by cases D <;> rfl
  go_enter Try.func8, Try.ntmps8
  go_wp2_with fail
  refine (Seal_any _ _ _ _ _ _ (Nat.le_refl _) hb (by omega)).mono ?_
  rintro e w1 ⟨v1, rfl, ho1, hb1⟩
  obtain ⟨A1, c1, rfl, hy1⟩ := own_by ho1 (n := n + 9) (by rw [frm_length, Hl.out])
  go_wp2_with fail
  refine (Seal_any _ _ _ _ _ _ hb1.size (hm.below hb1 (Nat.le_refl _)) (by omega)).mono ?_
  rintro e w2 ⟨v2, rfl, ho2, hb2⟩
  obtain ⟨A2, c2, rfl, hy2⟩ := own_by ho2 (n := n' + 9) (by rw [frm_length, Hl'.out])
  have hbw2 : Below w.heap.size w w2 := hb1.trans (hb2.mono hb1.size)
  have hz1 := hy1.below hb2 (Nat.le_refl _)
  go_wp2_with fail
  have hc1 := Bytes_any A1 A2 (n + 9) c1 (n' + 9) c2 (frm p) (frm m) w2 _ _ hz1 hy2
  rw [show decide (frm p = frm m) = D by rw [← hD.out]; exact decide_eq_decide.2 frm_inj] at hc1
  refine hc1.mono ?_
  clear hc1
  rintro e w3 ⟨rfl, k3, rfl⟩
  go_wp2_with fail
  have hc2 := Bytes_any A A' n cap n' cap' p m (w2.drewN k3) _ _ (hb.below (below_drewN hbw2 k3) (Nat.le_refl _)) (hm.below (below_drewN hbw2 k3) (Nat.le_refl _))
  rw [hD.out] at hc2
  refine hc2.mono ?_
  clear hc2
  rintro e w4 ⟨rfl, k4, rfl⟩
  rw [World.drewN_drewN]
  obtain ⟨W, HW⟩ : ∃ W, Hid (w2.drewN (k3 + k4) = W) := ⟨_, rfl⟩
  rw [HW.out]
  have hbW : Below w.heap.size w W := by rw [← HW.out]; exact below_drewN hbw2 _
  replace hz1 : By W w1.heap.size A1 (n + 9) c1 (frm p) := by rw [← HW.out]; exact hz1
  replace hy2 : By W w2.heap.size A2 (n' + 9) c2 (frm m) := by rw [← HW.out]; exact hy2
  have hs1 : w1.heap.size ≤ W.heap.size := by rw [← HW.out]; exact hb2.size
  have hs2 : w2.heap.size ≤ W.heap.size := by rw [← HW.out]; exact Nat.le_refl _
  go_wp2_with fail
  refine (Twin_any _ _ _ _ _ _ hz1 (by omega)).mono ?_
  rintro e w5 ⟨v5, rfl, ho5, hb5⟩
  go_wp2_with (
    (at_builtin
     refine wpList_appB rfl (.tmp 46) (.tmp 47) rfl W.heap.size v5 (frm p) rfl ho5 w2.heap.size A2 (n' + 9) c2 (frm m) rfl (hy2.below hb5 hs2) (by rw [frm_length, Hl.out]; omega) hb5.size ?_
     intro v6 w6 ho6 hg6))
  have hb6 : Below W.heap.size W w6 := hb5.grown hg6 hb5.size (fun k hk => (ho5.lt k hk).1)
  have hbw6 : Below w.heap.size w w6 := hbW.trans (hb6.mono hbW.size)
  obtain ⟨A6, c6, rfl, hy6⟩ := own_by ho6 (n := n + 9 + (n' + 9)) (by rw [List.length_append, frm_length, frm_length, Hl.out, Hl'.out])
  have Hscan : Hid (scan (frm p ++ frm m) = ([p, m], n + 9 + (n' + 9))) := by
    have h3 := Hl.out
    have h4 := Hl'.out
    have e2 : scan (frm m) = ([m], n' + 9) := by
      have := scan_frm m [] (by omega)
      rw [scan_nil, List.append_nil, h4] at this
      exact this
    unfold Hid
    rw [scan_frm p _ (by omega), e2, h3]
  refine (Scan_any _ _ _ _ _ _ (Nat.le_refl _) hy6 (by omega)).mono ?_
  rw [Hscan.out]
  rintro e w7 ⟨v7, rfl, ho7, hb7⟩
  obtain ⟨A7, c7, rfl, hr7⟩ := ho7.rd (n := 2) rfl
  have hbw7 : Below w.heap.size w w7 := hbw6.trans (hb7.mono hbw6.size)
  have hp7 := hb.below hbw7 (Nat.le_refl _)
  have hm7 := hm.below hbw7 (Nat.le_refl _)
  go_wp2_with fail
  refine (Rows_same _ _ _ _ _ _ _ _ _ _ (RdRows.keep hr7 (fun x hx => World.cell?_alloc_lt w7 _ x hx)) (rd_two w7 A A' n cap n' cap' p m (Rd.mono hp7 hbw7.size) (Rd.mono hm7 hbw7.size))).mono ?_
  rintro e w8 ⟨rfl, k8, rfl⟩
  go_wp2_with fail
  refine (wakes_any _).mono ?_
  rintro e w9 ⟨rfl, hb9⟩
  go_wp2_with fail
  go_ret
  refine ⟨rfl, (below_drewN (hbw7.alloc hbw7.size _) k8).trans (hb9.mono ?_)⟩
  have := hbw7.size
  simp
  omega
end Go.Proofs.Ytbhckbhdjdmgaaa
