/-
  The walks of the page's disk: Append, Replace.
-/
import Derived.Test.YtlopeflgleplfaaRmeth
import Derived.IntWalk
namespace Go.Proofs.Ytlopeflgleplfaa
open Go.RowKit
set_option maxHeartbeats 1600000 in
theorem rappend_no (base d : Nat) (v : Value) (s : DS) (A : Option Addr) (n cap : Nat) (w : World) (h : RefAt w base d v s) (hn : n ≤ 140737488355328) (hno : s.off = true ∨ s.off = false ∧ s.room < s.file.length + n) :
    Calls Try.prog 32 #[.pointer (some ⟨d, 0, none⟩), .slice A n cap] w fun e w' => e = .returned (.int .i64 (if s.off then 4 else 5)) ∧ ∃ k, w' = w.drewN k := by
  obtain ⟨m, hm⟩ : ∃ m, Hid (s.file.length = m) := ⟨_, rfl⟩
  obtain ⟨A1, c1, rfl, hy⟩ := own_by h.file hm.out
  obtain ⟨c0, c1, _, c3, _, _, _⟩ := h.cell
  have hf1 := h.ok.file
  have hf2 := h.ok.room
  rw [hm.out] at hf1 hno
  rcases hno with ho | ⟨ho, hlt⟩
  · rw [ho] at c3 ⊢
    clear ho
    go_enter Try.func32, Try.ntmps32
    go_wp2_with fail
    go_ret
    exact ⟨rfl, 0, rfl⟩
  · rw [ho] at c3 ⊢
    clear ho
    go_enter Try.func32, Try.ntmps32
    go_wp2_with fail
    have hsum : IntKind.i64.wrap ((m : Int) + (n : Int)) = (m : Int) + (n : Int) := IntWalk.i64_in _ (by omega)
    go_quiet (fail)
    go_wp2_with fail
    go_ret
    exact ⟨rfl, _, rfl⟩
set_option maxHeartbeats 1600000 in
theorem rappend_yes (base d : Nat) (v : Value) (s : DS) (A : Option Addr) (n cap B : Nat) (l : List UInt8) (w : World) (h : RefAt w base d v s) (hbase : base ≤ w.heap.size) (hb : By w B A n cap l) (ho : s.off = false) (hB : B ≤ w.heap.size) (hfit : s.file.length + n ≤ s.room) (hm9 : n ≤ 140737488289792) :
    Calls Try.prog 32 #[.pointer (some ⟨d, 0, none⟩), .slice A n cap] w (RPost w base d v (.int .i64 (s.append l).1) (s.append l).2) := by
  obtain ⟨m, hm⟩ : ∃ m, Hid (s.file.length = m) := ⟨_, rfl⟩
  obtain ⟨A1, cp1, rfl, hy⟩ := own_by h.file hm.out
  obtain ⟨c0, c1, _, c3, _, _, hf⟩ := h.cell
  have hfz := hf 1
  have hf1 := h.ok.file
  have hf2 := h.ok.room
  rw [hm.out] at hf1 hfit
  rw [ho] at c3
  have Ho := Lib.hid ho
  have Hn := Lib.hid hb.len
  clear ho hf
  go_enter Try.func32, Try.ntmps32
  go_wp2_with fail
  have hsum : IntKind.i64.wrap ((m : Int) + (n : Int)) = (m : Int) + (n : Int) := IntWalk.i64_in _ (by omega)
  go_quiet (fail)
  have hd0 : d < w.heap.size := (Array.getElem?_eq_some_iff.1 h.cells).1
  clear hsum
  go_wp2_with fail
  refine (add_any A1 m cp1 s.file A n cap l _ w.heap.size B (hy.drewN _) (hb.drewN _) hB (by omega)).mono ?_
  rintro e w2 ⟨v2, rfl, ho2, hb2⟩
  have ho2 : OwnB w2 w.heap.size v2 (s.file ++ l) := ho2
  have hb2 : Below w.heap.size w w2 := (below_drewN (Below.refl _ _) _).trans hb2
  have hd2 : w2.heap[d]? = w.heap[d]? := hb2.block d hd0
  have c12 : w2.cell? ⟨d, 1, none⟩ = some (.slice A1 m cp1) := (World.cell?_of_block (a := ⟨d, 1, none⟩) (w := w) hd2).trans c1
  have hfz2 : w2.frozen? ⟨d, 1, none⟩ = false := (World.frozen?_of_block (a := ⟨d, 1, none⟩) (w := w) hd2).trans hfz
  obtain ⟨A2, cp2, rfl, hy2⟩ := own_by ho2 (n := m + n) (by rw [List.length_append, hm.out, Hn.out])
  have Hd2 := Lib.hid hd2
  clear hd2
  go_wp2_with fail
  have q1 := h.set_of (s' := { s with file := s.file ++ l }) Hd2.out 1 (.slice A2 (m + n) cp2) rfl (ho2.base hbase) ⟨h.ok.room, by show (s.file ++ l).length ≤ s.room; rw [List.length_append, hm.out, Hn.out]; exact hfit, by show s.synced ≤ (s.file ++ l).length; rw [List.length_append]; have := h.ok.synced; omega, h.ok.trip, h.ok.keep⟩
  have hf1' : FrmD w (w2.setCell ⟨d, 1, none⟩ (.slice A2 (m + n) cp2)) d (Value.slice A1 m cp1).ownBlock := (FrmD.ofBelow hb2 _ _).set _ _
  have hn1 : NewOr w (.slice A1 m cp1) (.slice A2 (m + n) cp2) := by
    cases hu : (Value.slice A2 (m + n) cp2).ownBlock with
    | none => exact .inr (.inl hu)
    | some g => exact .inr (.inr ⟨g, hu, (ho2.lt g hu).1⟩)
  obtain ⟨s1, hs1⟩ : ∃ s1 : DS, { s with file := s.file ++ l } = s1 := ⟨_, rfl⟩
  rw [hs1] at q1
  have Happ : Hid (s.append l = s1.done id) := by unfold Hid DS.append; rw [Ho.out]; simp only [Bool.false_eq_true, if_false]; rw [if_neg (by rw [hm.out, Hn.out]; omega), ← hs1, Ho.out]
  clear hs1
  refine (rlast_any _ _ _ _ _ q1).mono ?_
  rintro e w3 ⟨rfl, q3, hf3⟩
  have hf13 := hf1'.trans hn1 hf3
  have hsz3 := hf1'.size
  by_cases hl : s1.isLast = true
  · have Hl : Hid (s.append l = (4, s1.count.crash s1.count.keep)) := by unfold Hid; rw [Happ.out, DS.done, if_pos hl]
    rw [hl]
    clear hl
    obtain ⟨_, _, _, _, _, c5, _⟩ := q3.cell
    go_wp2_with fail
    refine (rcrash_any _ _ _ _ _ _ q3).mono ?_
    rintro e w4 ⟨rfl, v4, q4, hf4, hn4⟩
    go_wp2_with fail
    go_ret
    refine ⟨by rw [Hl.out]; rfl, v4, by rw [Hl.out]; exact q4, hf13.trans hn1 hf4, hn1.trans hn4 (Nat.le_trans hsz3 hf3.size)⟩
  · have Hl : Hid (s.append l = (0, s1.count)) := by unfold Hid; rw [Happ.out, DS.done, if_neg hl]; rfl
    have hlf : s1.isLast = false := by simpa using hl
    rw [hlf]
    clear hl hlf
    go_wp2_with fail
    go_ret
    exact ⟨by rw [Hl.out]; rfl, _, by rw [Hl.out]; exact q3, hf13, hn1⟩
theorem rappend_any (base d : Nat) (v : Value) (s : DS) (A : Option Addr) (n cap B : Nat) (l : List UInt8) (w : World) (h : RefAt w base d v s) (hbase : base ≤ w.heap.size) (hb : By w B A n cap l) (hB : B ≤ w.heap.size) (hm : n ≤ 140737488289792) :
    Calls Try.prog 32 #[.pointer (some ⟨d, 0, none⟩), .slice A n cap] w (RPost w base d v (.int .i64 (s.append l).1) (s.append l).2) := by
  have hn := hb.len
  cases ho : s.off
  · by_cases hf : s.room < s.file.length + n
    · refine (rappend_no base d v s A n cap w h (by omega) (.inr ⟨ho, hf⟩)).mono ?_
      rintro e w' ⟨rfl, k, rfl⟩
      have e : s.append l = (5, s) := by simp [DS.append, ho, hn, hf]
      rw [e, ho]
      exact ⟨rfl, v, h.drewN k, (FrmD.refl _ _ _).drewN k, NewOr.refl _ _⟩
    · exact rappend_yes base d v s A n cap B l w h hbase hb ho hB (by omega) (by omega)
  · refine (rappend_no base d v s A n cap w h (by omega) (.inl ho)).mono ?_
    rintro e w' ⟨rfl, k, rfl⟩
    have e : s.append l = (4, s) := by simp [DS.append, ho]
    rw [e, ho]
    exact ⟨rfl, v, h.drewN k, (FrmD.refl _ _ _).drewN k, NewOr.refl _ _⟩
set_option maxHeartbeats 1600000 in
theorem rreplace_any (base d : Nat) (v : Value) (s : DS) (A : Option Addr) (n cap B : Nat) (l : List UInt8) (w : World) (h : RefAt w base d v s) (hbase : base ≤ w.heap.size) (hb : By w B A n cap l) (hB : B ≤ base) (hm9 : n ≤ 140737488289792) :
    Calls Try.prog 28 #[.pointer (some ⟨d, 0, none⟩), .slice A n cap] w (RPost w base d v (.int .i64 (s.replace l).1) (s.replace l).2) := by
  obtain ⟨c0, _, _, c3, _, _, hf⟩ := h.cell
  clear hf
  have hn1 : n ≤ 9223372036854775807 := by have := hb.2.1; have := hb.2.2.1; unfold maxLen at this; omega
  have Hn := Lib.hid hb.len
  have hf2 := h.ok.room
  cases ho : s.off
  · rw [ho] at c3
    by_cases hbig : s.room < n
    · have Hs : Hid (s.replace l = (5, s)) := by unfold Hid DS.replace; rw [ho, Hn.out]; simp [hbig]
      clear ho
      go_enter Try.func28, Try.ntmps28
      go_wp2_with fail
      go_ret
      exact ⟨by rw [Hs.out]; rfl, v, by rw [Hs.out]; exact h, FrmD.refl _ _ _, NewOr.refl _ _⟩
    have Hs : Hid (s.replace l = s.done fun s => { s with file := l, synced := l.length }) := by unfold Hid DS.replace; rw [ho, Hn.out]; simp [hbig]
    clear ho
    go_enter Try.func28, Try.ntmps28
    go_wp2_with fail
    refine (rlast_any _ _ _ _ _ h).mono ?_
    rintro e w3 ⟨rfl, q3, hf3⟩
    by_cases hl : s.isLast = true
    · have Hl : Hid (s.replace l = (4, s.count.crash s.count.keep)) := by unfold Hid; rw [Hs.out, DS.done, if_pos hl]
      rw [hl]
      clear hl
      obtain ⟨_, _, _, _, _, c5, _⟩ := q3.cell
      go_wp2_with fail
      refine (rcrash_any _ _ _ _ _ _ q3).mono ?_
      rintro e w4 ⟨rfl, v4, q4, hf4, hn4⟩
      go_wp2_with fail
      go_ret
      exact ⟨by rw [Hl.out]; rfl, v4, by rw [Hl.out]; exact q4, hf3.trans (NewOr.refl _ _) hf4, (NewOr.refl w v).trans hn4 hf3.size⟩
    · have Hl : Hid (s.replace l = (0, { s.count with file := l, synced := l.length })) := by unfold Hid; rw [Hs.out, DS.done, if_neg hl]
      have hlf : s.isLast = false := by simpa using hl
      rw [hlf]
      clear hl hlf
      have hby3 := hb.below (hf3.belowR h) hB
      obtain ⟨_, c1', _, _, _, _, hfz⟩ := q3.cell
      have hz1 := hfz 1
      have hz2 := hfz 2
      have hdlt : d < w3.heap.size := (Array.getElem?_eq_some_iff.1 q3.cells).1
      clear hfz
      have hbs3 : base ≤ w3.heap.size := Nat.le_trans hbase hf3.size
      go_wp2_with fail
      refine (add_any none 0 0 [] A n cap l w3 w3.heap.size B (Rd.nil _ _ _) hby3 (by omega) (by omega)).mono ?_
      rintro e w4 ⟨v4, rfl, ho4, hb4⟩
      have ho4 : OwnB w4 w3.heap.size v4 l := ho4
      have hd4 : w4.heap[d]? = w3.heap[d]? := hb4.block d hdlt
      have c14 : w4.cell? ⟨d, 1, none⟩ = some v := (World.cell?_of_block (a := ⟨d, 1, none⟩) (w := w3) hd4).trans c1'
      have hz14 : w4.frozen? ⟨d, 1, none⟩ = false := (World.frozen?_of_block (a := ⟨d, 1, none⟩) (w := w3) hd4).trans hz1
      have hz24 : w4.frozen? ⟨d, 2, none⟩ = false := (World.frozen?_of_block (a := ⟨d, 2, none⟩) (w := w3) hd4).trans hz2
      obtain ⟨_, _, c2', _, _, _, _⟩ := q3.cell
      have c24 := (World.cell?_of_block (a := ⟨d, 2, none⟩) (w := w3) hd4).trans c2'
      obtain ⟨A4, cp4, rfl, hy4⟩ := own_by ho4 (n := n) Hn.out
      have Hd4 := Lib.hid hd4
      clear hd4
      go_wp2_with fail
      go_ret
      have hbs : base ≤ w3.heap.size := Nat.le_trans hbase hf3.size
      have hnr := h.ok.room
      have q4 := q3.set2_of (v' := .slice A4 n cp4) (s' := { s.count with file := l, synced := l.length }) Hd4.out 1 2 (.slice A4 n cp4) (.int .i64 (n : Int)) (by rw [Hn.out]; rfl) (ho4.base hbs)
        ⟨q3.ok.room, by show l.length ≤ s.room; rw [Hn.out]; omega, Nat.le_refl _, q3.ok.trip, q3.ok.keep⟩
      have hf4 : FrmD w3 w4 d v.ownBlock := FrmD.ofBelow hb4 _ _
      have hn4 : NewOr w3 v (.slice A4 n cp4) := by
        cases hu : (Value.slice A4 n cp4).ownBlock with
        | none => exact .inr (.inl hu)
        | some g => exact .inr (.inr ⟨g, hu, (ho4.lt g hu).1⟩)
      exact ⟨by rw [Hl.out]; rfl, _, by rw [Hl.out]; exact q4, hf3.trans (NewOr.refl _ _) ((hf4.set _ _).set _ _), (NewOr.refl w v).trans hn4 hf3.size⟩
  · rw [ho] at c3
    have Hs : Hid (s.replace l = (4, s)) := by unfold Hid DS.replace; rw [ho]; rfl
    clear ho
    go_enter Try.func28, Try.ntmps28
    go_wp2_with fail
    go_ret
    exact ⟨by rw [Hs.out]; rfl, v, by rw [Hs.out]; exact h, FrmD.refl _ _ _, NewOr.refl _ _⟩
end Go.Proofs.Ytlopeflgleplfaa
