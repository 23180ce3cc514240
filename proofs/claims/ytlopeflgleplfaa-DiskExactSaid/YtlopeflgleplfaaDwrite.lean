/-
  The walks of the disk's Append, Sync, Replace, Read, New.
-/
import Derived.Test.YtlopeflgleplfaaDlast
import Derived.Deep.RegionHeld3
namespace Go.Proofs.Ytlopeflgleplfaa
open Go.RowKit
set_option maxHeartbeats 800000 in
theorem append_no (base d : Nat) (v : Value) (s : DS) (A : Option Addr) (n cap : Nat) (w : World) (h : DiskAt w base d v s) (hn : n ≤ maxLen) (hno : s.off = true ∨ s.off = false ∧ s.room < s.file.length + n) :
    Calls Try.prog 12 #[.pointer (some ⟨d, 0, none⟩), .slice A n cap] w fun e w' => e = .returned (.int .i64 (if s.off then 4 else 5)) ∧ ∃ k, w' = w.drewN k := by
  obtain ⟨m, hm⟩ : ∃ m, Hid (s.file.length = m) := ⟨_, rfl⟩
  obtain ⟨A1, c1, rfl, hy⟩ := own_by h.file hm.out
  obtain ⟨c0, c1, _, c3, _, _, _⟩ := h.cell
  have hf1 := h.ok.file
  have hf2 := h.ok.room
  rw [hm.out] at hf1 hno
  unfold maxLen at hn
  rcases hno with ho | ⟨ho, hlt⟩
  · rw [ho] at c3 ⊢
    clear ho
    go_enter Try.func12, Try.ntmps12
    go_wp2_with fail
    go_ret
    exact ⟨rfl, 0, rfl⟩
  · rw [ho] at c3 ⊢
    clear ho
    go_enter Try.func12, Try.ntmps12
    go_wp2_with fail
    go_quiet (fail)
    go_wp2_with fail
    go_ret
    exact ⟨rfl, _, rfl⟩
set_option maxHeartbeats 1600000 in
theorem append_yes (base d : Nat) (v : Value) (s : DS) (A : Option Addr) (n cap B : Nat) (l : List UInt8) (w : World) (h : DiskAt w base d v s) (hbase : base ≤ w.heap.size) (hb : By w B A n cap l) (ho : s.off = false) (hfit : s.file.length + n ≤ s.room) :
    Calls Try.prog 12 #[.pointer (some ⟨d, 0, none⟩), .slice A n cap] w (DPost w base d v (.int .i64 (s.append l).1) (s.append l).2) := by
  obtain ⟨m, hm⟩ : ∃ m, Hid (s.file.length = m) := ⟨_, rfl⟩
  obtain ⟨A1, cp1, rfl, hy⟩ := own_by h.file hm.out
  obtain ⟨c0, c1, _, c3, _, _, hf⟩ := h.cell
  have hfz := hf 1
  have hf1 := h.ok.file
  have hf2 := h.ok.room
  rw [hm.out] at hf1 hfit
  rw [ho] at c3
  have Ho := Lib.hid ho
  have Hn := Lib.hid hb.len
  clear ho hf
  go_enter Try.func12, Try.ntmps12
  go_wp2_with fail
  go_quiet (fail)
  have hnd := own_ne_disk h.file h
  go_wp2_with (
    (at_builtin
     refine wpList_appBAt rfl (.tmp 28) (.tmp 29) rfl base (.slice A1 m cp1) s.file rfl h.file B A n cap l rfl hb (by rw [hm.out]; omega) hbase ?_
     intro v2 w2 ho2 hg2 hat2
     have hd2 : w2.heap[d]? = w.heap[d]? := hg2.block d (Array.getElem?_eq_some_iff.1 h.cells).1 (fun e => hnd e.symm)
     have c12 : w2.cell? ⟨d, 1, none⟩ = some (.slice A1 m cp1) := (World.cell?_of_block (a := ⟨d, 1, none⟩) (w := w) hd2).trans c1
     have hfz2 : w2.frozen? ⟨d, 1, none⟩ = false := (World.frozen?_of_block (a := ⟨d, 1, none⟩) (w := w) hd2).trans hfz
     obtain ⟨A2, cp2, rfl, hy2⟩ := own_by ho2 (n := m + n) (by rw [List.length_append, hm.out, Hn.out])
     have Hd2 := Lib.hid hd2
     clear hd2))
  have q1 := h.set_of (s' := { s with file := s.file ++ l }) Hd2.out 1 (.slice A2 (m + n) cp2) rfl ho2 ⟨h.ok.room, by show (s.file ++ l).length ≤ s.room; rw [List.length_append, hm.out, Hn.out]; exact hfit, by show s.synced ≤ (s.file ++ l).length; rw [List.length_append]; have := h.ok.synced; omega, h.ok.trip, h.ok.keep⟩
  have hf1' : FrmD w (w2.setCell ⟨d, 1, none⟩ (.slice A2 (m + n) cp2)) d (Value.slice A1 m cp1).ownBlock := (((FrmD.refl w d _).drewN nq).grown hg2).set _ _
  have hn1 : NewOr w (.slice A1 m cp1) (.slice A2 (m + n) cp2) := by
    rcases hat2 with e | e
    · exact .inl e
    · exact .inr (.inr ⟨_, e, Nat.le_refl _⟩)
  obtain ⟨s1, hs1⟩ : ∃ s1 : DS, { s with file := s.file ++ l } = s1 := ⟨_, rfl⟩
  rw [hs1] at q1
  have Happ : Hid (s.append l = s1.done id) := by unfold Hid DS.append; rw [Ho.out]; simp only [Bool.false_eq_true, if_false]; rw [if_neg (by rw [hm.out, Hn.out]; omega), ← hs1, Ho.out]
  clear hs1
  refine (last_any _ _ _ _ _ q1).mono ?_
  rintro e w3 ⟨rfl, q3, hf3⟩
  have hf13 := hf1'.trans hn1 hf3
  have hsz3 := hf1'.size
  by_cases hl : s1.isLast = true
  · have Hl : Hid (s.append l = (4, s1.count.crash s1.count.keep)) := by unfold Hid; rw [Happ.out, DS.done, if_pos hl]
    rw [hl]
    clear hl
    obtain ⟨_, _, _, _, _, c5, _⟩ := q3.cell
    go_wp2_with fail
    refine (crash_any _ _ _ _ _ _ q3).mono ?_
    rintro e w4 ⟨rfl, v4, q4, hf4, hn4⟩
    go_wp2_with fail
    go_ret
    refine ⟨by rw [Hl.out]; rfl, v4, by rw [Hl.out]; exact q4, hf13.trans hn1 hf4, hn1.trans hn4 (Nat.le_trans hsz3 hf3.size)⟩
  · have Hl : Hid (s.append l = (0, s1.count)) := by unfold Hid; rw [Happ.out, DS.done, if_neg hl]; rfl
    have hlf : s1.isLast = false := by simpa using hl
    rw [hlf]
    clear hl hlf
    go_wp2_with fail
    go_ret
    exact ⟨by rw [Hl.out]; rfl, _, by rw [Hl.out]; exact q3, hf13, hn1⟩
theorem append_any (base d : Nat) (v : Value) (s : DS) (A : Option Addr) (n cap B : Nat) (l : List UInt8) (w : World) (h : DiskAt w base d v s) (hbase : base ≤ w.heap.size) (hb : By w B A n cap l) :
    Calls Try.prog 12 #[.pointer (some ⟨d, 0, none⟩), .slice A n cap] w (DPost w base d v (.int .i64 (s.append l).1) (s.append l).2) := by
  have hn := hb.len
  have hm : n ≤ maxLen := Nat.le_trans hb.2.1 hb.2.2.1
  cases ho : s.off
  · by_cases hf : s.room < s.file.length + n
    · refine (append_no base d v s A n cap w h hm (.inr ⟨ho, hf⟩)).mono ?_
      rintro e w' ⟨rfl, k, rfl⟩
      have e : s.append l = (5, s) := by simp [DS.append, ho, hn, hf]
      rw [e, ho]
      exact ⟨rfl, v, h.drewN k, (FrmD.refl _ _ _).drewN k, NewOr.refl _ _⟩
    · exact append_yes base d v s A n cap B l w h hbase hb ho (by omega)
  · refine (append_no base d v s A n cap w h hm (.inl ho)).mono ?_
    rintro e w' ⟨rfl, k, rfl⟩
    have e : s.append l = (4, s) := by simp [DS.append, ho]
    rw [e, ho]
    exact ⟨rfl, v, h.drewN k, (FrmD.refl _ _ _).drewN k, NewOr.refl _ _⟩
set_option maxHeartbeats 1600000 in
theorem sync_any (base d : Nat) (v : Value) (s : DS) (w : World) (h : DiskAt w base d v s) :
    Calls Try.prog 13 #[.pointer (some ⟨d, 0, none⟩)] w (DPost w base d v (.int .i64 s.sync.1) s.sync.2) := by
  obtain ⟨c0, c1, _, c3, _, _, hf⟩ := h.cell
  clear hf
  cases ho : s.off
  · rw [ho] at c3
    have Hs : Hid (s.sync = s.done fun s => { s with synced := s.file.length }) := by unfold Hid DS.sync; rw [ho]; rfl
    clear ho
    go_enter Try.func13, Try.ntmps13
    go_wp2_with fail
    refine (last_any _ _ _ _ _ h).mono ?_
    rintro e w3 ⟨rfl, q3, hf3⟩
    by_cases hl : s.isLast = true
    · have Hl : Hid (s.sync = (4, s.count.crash s.count.keep)) := by unfold Hid; rw [Hs.out, DS.done, if_pos hl]
      rw [hl]
      clear hl
      obtain ⟨_, _, _, _, _, c5, _⟩ := q3.cell
      go_wp2_with fail
      refine (crash_any _ _ _ _ _ _ q3).mono ?_
      rintro e w4 ⟨rfl, v4, q4, hf4, hn4⟩
      go_wp2_with fail
      go_ret
      exact ⟨by rw [Hl.out]; rfl, v4, by rw [Hl.out]; exact q4, hf3.trans (NewOr.refl _ _) hf4, (NewOr.refl w v).trans hn4 hf3.size⟩
    · have Hl : Hid (s.sync = (0, { s.count with synced := s.count.file.length })) := by unfold Hid; rw [Hs.out, DS.done, if_neg hl]
      have hlf : s.isLast = false := by simpa using hl
      rw [hlf]
      clear hl hlf
      obtain ⟨n, hn⟩ : ∃ n, Hid (s.count.file.length = n) := ⟨_, rfl⟩
      obtain ⟨A, cap, rfl, hy⟩ := own_by q3.file hn.out
      obtain ⟨_, c1', _, _, _, _, hfz⟩ := q3.cell
      have hz2 := hfz 2
      have hr := q3.ok.room
      have hfl := q3.ok.file
      obtain ⟨_, _, c2, _, _, _, _⟩ := q3.cell
      rw [hn.out] at hfl
      clear hfz
      go_wp2_with fail
      go_ret
      refine ⟨by rw [Hl.out]; rfl, _, ?_, hf3.set _ _, NewOr.refl _ _⟩
      rw [Hl.out]
      refine q3.set (s' := { s.count with synced := s.count.file.length }) 2 _ ?_ q3.file ⟨q3.ok.room, q3.ok.file, Nat.le_refl _, q3.ok.trip, q3.ok.keep⟩
      rw [hn.out]
      rfl
  · rw [ho] at c3
    have Hs : Hid (s.sync = (4, s)) := by unfold Hid DS.sync; rw [ho]; rfl
    clear ho
    go_enter Try.func13, Try.ntmps13
    go_wp2_with fail
    go_ret
    exact ⟨by rw [Hs.out]; rfl, v, by rw [Hs.out]; exact h, FrmD.refl _ _ _, NewOr.refl _ _⟩
set_option maxHeartbeats 1600000 in
theorem replace_anyF (base d : Nat) (v : Value) (s : DS) (A : Option Addr) (n cap : Nat) (l : List UInt8) (w : World) (h : DiskAt w base d v s) (hbase : base ≤ w.heap.size) (hb : ∀ w3, FrmD w w3 d v.ownBlock → By w3 w3.heap.size A n cap l) :
    Calls Try.prog 21 #[.pointer (some ⟨d, 0, none⟩), .slice A n cap] w (DPost w base d v (.int .i64 (s.replace l).1) (s.replace l).2) := by
  obtain ⟨c0, _, _, c3, _, _, hf⟩ := h.cell
  clear hf
  have hn1 : n ≤ 9223372036854775807 := by have hb := hb w (FrmD.refl _ _ _); have := hb.2.1; have := hb.2.2.1; unfold maxLen at this; omega
  have Hn := Lib.hid (hb w (FrmD.refl _ _ _)).len
  have hf2 := h.ok.room
  cases ho : s.off
  · rw [ho] at c3
    by_cases hbig : s.room < n
    · have Hs : Hid (s.replace l = (5, s)) := by unfold Hid DS.replace; rw [ho, Hn.out]; simp [hbig]
      clear ho
      go_enter Try.func21, Try.ntmps21
      go_wp2_with fail
      go_ret
      exact ⟨by rw [Hs.out]; rfl, v, by rw [Hs.out]; exact h, FrmD.refl _ _ _, NewOr.refl _ _⟩
    have Hs : Hid (s.replace l = s.done fun s => { s with file := l, synced := l.length }) := by unfold Hid DS.replace; rw [ho, Hn.out]; simp [hbig]
    clear ho
    go_enter Try.func21, Try.ntmps21
    go_wp2_with fail
    refine (last_any _ _ _ _ _ h).mono ?_
    rintro e w3 ⟨rfl, q3, hf3⟩
    by_cases hl : s.isLast = true
    · have Hl : Hid (s.replace l = (4, s.count.crash s.count.keep)) := by unfold Hid; rw [Hs.out, DS.done, if_pos hl]
      rw [hl]
      clear hl
      obtain ⟨_, _, _, _, _, c5, _⟩ := q3.cell
      go_wp2_with fail
      refine (crash_any _ _ _ _ _ _ q3).mono ?_
      rintro e w4 ⟨rfl, v4, q4, hf4, hn4⟩
      go_wp2_with fail
      go_ret
      exact ⟨by rw [Hl.out]; rfl, v4, by rw [Hl.out]; exact q4, hf3.trans (NewOr.refl _ _) hf4, (NewOr.refl w v).trans hn4 hf3.size⟩
    · have Hl : Hid (s.replace l = (0, { s.count with file := l, synced := l.length })) := by unfold Hid; rw [Hs.out, DS.done, if_neg hl]
      have hlf : s.isLast = false := by simpa using hl
      rw [hlf]
      clear hl hlf
      have hby3 := hb w3 hf3
      obtain ⟨_, c1', _, _, _, _, hfz⟩ := q3.cell
      have hz1 := hfz 1
      have hz2 := hfz 2
      have hdlt : d < w3.heap.size := (Array.getElem?_eq_some_iff.1 q3.cells).1
      clear hfz
      go_wp2_with (
        (at_builtin
         refine wpList_appBAt rfl (.tmp 27) (.tmp 28) rfl w3.heap.size (.slice (some ⟨w3.heap.size, 0, none⟩) 0 0) [] rfl (own_empty (Nat.le_refl _)) w3.heap.size A n cap l rfl (hby3.alloc (Nat.le_refl _) _) (by simp; omega) (by simp) ?_
         intro v4 w4 ho4 hg4 hat4
         have hd4 : w4.heap[d]? = w3.heap[d]? := (hg4.block d (by simp; omega) (fun e => by simp [Value.ownBlock] at e; omega)).trans (Below.heap_alloc w3 _ d hdlt)
         have c14 : w4.cell? ⟨d, 1, none⟩ = some v := (World.cell?_of_block (a := ⟨d, 1, none⟩) (w := w3) hd4).trans c1'
         have hz14 : w4.frozen? ⟨d, 1, none⟩ = false := (World.frozen?_of_block (a := ⟨d, 1, none⟩) (w := w3) hd4).trans hz1
         have hz24 : w4.frozen? ⟨d, 2, none⟩ = false := (World.frozen?_of_block (a := ⟨d, 2, none⟩) (w := w3) hd4).trans hz2
         obtain ⟨_, _, c2', _, _, _, _⟩ := q3.cell
         have c24 := (World.cell?_of_block (a := ⟨d, 2, none⟩) (w := w3) hd4).trans c2'
         obtain ⟨A4, cp4, rfl, hy4⟩ := own_by ho4 (n := n) (by simpa using Hn.out)
         have Hd4 := Lib.hid hd4
         have Hgg := Lib.hid hg4
         clear hd4 hg4))
      go_ret
      have hbs : base ≤ w3.heap.size := Nat.le_trans hbase hf3.size
      have hnr := h.ok.room
      have q4 := q3.set2_of (v' := .slice A4 n cp4) (s' := { s.count with file := l, synced := l.length }) Hd4.out 1 2 (.slice A4 n cp4) (.int .i64 (n : Int)) (by rw [Hn.out]; rfl) (ho4.base hbs)
        ⟨q3.ok.room, by show l.length ≤ s.room; rw [Hn.out]; omega, Nat.le_refl _, q3.ok.trip, q3.ok.keep⟩
      have hf4 : FrmD w3 w4 d v.ownBlock := ⟨Hgg.out.os, Hgg.out.tape, Hgg.out.output, by have := Hgg.out.size; simp at this; omega, fun k hk h1 h2 => (Hgg.out.block k (by simp; omega) (fun e => by simp [Value.ownBlock] at e; omega)).trans (Below.heap_alloc w3 _ k hk)⟩
      have hn4 : NewOr w3 v (.slice A4 n cp4) := by
        rcases hat4 with e | e
        · exact .inr (.inr ⟨_, e, Nat.le_refl _⟩)
        · exact .inr (.inr ⟨_, e, by simp⟩)
      exact ⟨by rw [Hl.out]; rfl, _, by rw [Hl.out]; exact q4, hf3.trans (NewOr.refl _ _) ((hf4.set _ _).set _ _), (NewOr.refl w v).trans hn4 hf3.size⟩
  · rw [ho] at c3
    have Hs : Hid (s.replace l = (4, s)) := by unfold Hid DS.replace; rw [ho]; rfl
    clear ho
    go_enter Try.func21, Try.ntmps21
    go_wp2_with fail
    go_ret
    exact ⟨by rw [Hs.out]; rfl, v, by rw [Hs.out]; exact h, FrmD.refl _ _ _, NewOr.refl _ _⟩
theorem replace_any (base d : Nat) (v : Value) (s : DS) (A : Option Addr) (n cap B : Nat) (l : List UInt8) (w : World) (h : DiskAt w base d v s) (hbase : base ≤ w.heap.size) (hb : By w B A n cap l) (hB : B ≤ base) :
    Calls Try.prog 21 #[.pointer (some ⟨d, 0, none⟩), .slice A n cap] w (DPost w base d v (.int .i64 (s.replace l).1) (s.replace l).2) :=
  replace_anyF base d v s A n cap l w h hbase fun w3 hf3 => (hb.below (hf3.below h) hB).mono (by have := hf3.size; omega)
/-- What Read answers: a copy, in memory of its own. -/
def ReadPost (w : World) (s : DS) (e : Ending) (w' : World) : Prop :=
  Below w.heap.size w w' ∧ ∃ v, e = .returned (.tuple #[v, .int .i64 (if s.off then 4 else 0)]) ∧ OwnB w' w.heap.size v (if s.off then [] else s.file)
set_option maxHeartbeats 800000 in
theorem read_any (base d : Nat) (v : Value) (s : DS) (w : World) (h : DiskAt w base d v s) :
    Calls Try.prog 16 #[.pointer (some ⟨d, 0, none⟩)] w (ReadPost w s) := by
  obtain ⟨_, c1, _, c3, _, _, _⟩ := h.cell
  have hdlt : d < w.heap.size := (Array.getElem?_eq_some_iff.1 h.cells).1
  cases ho : s.off
  · have Hp : Hid (∀ e w', Below w.heap.size w w' → (∃ v, e = .returned (.tuple #[v, .int .i64 0]) ∧ OwnB w' w.heap.size v s.file) → ReadPost w s e w') := by
      intro e w' h1 h2
      unfold ReadPost
      rw [ho]
      exact ⟨h1, h2⟩
    rw [ho] at c3
    obtain ⟨n, hn⟩ : ∃ n, Hid (s.file.length = n) := ⟨_, rfl⟩
    obtain ⟨A, cap, rfl, hy⟩ := own_by h.file hn.out
    have hb : n ≤ 65536 := by have := h.ok.file; have := h.ok.room; rw [hn.out] at *; omega
    clear ho
    go_enter Try.func16, Try.ntmps16
    go_wp2_with (
      (at_builtin
       refine wpList_appB rfl (.tmp 8) (.tmp 12) rfl w.heap.size (.slice (some ⟨w.heap.size, 0, none⟩) 0 0) [] rfl (own_empty (Nat.le_refl _)) w.heap.size A n cap s.file rfl (Rd.alloc hy (Nat.le_refl _) _) (by simp; omega) (by simp) ?_
       intro v4 w4 ho4 hg4))
    go_ret2
    refine Hp.out _ _ (((Below.refl _ _).alloc (Nat.le_refl _) _).grown hg4 (by simp) (fun k hk => by simp [Value.ownBlock] at hk; omega)) ⟨v4, rfl, ho4⟩
  · have Hp : Hid (∀ e w', Below w.heap.size w w' → e = .returned (.tuple #[.slice none 0 0, .int .i64 4]) → ReadPost w s e w') := by
      intro e w' h1 h2
      unfold ReadPost
      rw [ho]
      exact ⟨h1, _, h2, World.ownsRow_nil _ _ _ _⟩
    rw [ho] at c3
    clear ho
    go_enter Try.func16, Try.ntmps16
    go_wp2_with fail
    go_ret2
    exact Hp.out _ _ (Below.refl _ _) rfl
/-- An empty disk, its power on. -/
def DS.new (room : Nat) : DS := ⟨room, [], 0, false, 0, 0⟩
def NewPost (w : World) (room : Nat) (e : Ending) (w' : World) : Prop :=
  e = .returned (.tuple #[.pointer (some ⟨w.heap.size, 0, none⟩), .int .i64 0]) ∧ DiskAt w' w.heap.size w.heap.size (.slice none 0 0) (DS.new room) ∧ Below w.heap.size w w' ∧ w'.heap.size = w.heap.size + 1
set_option maxHeartbeats 400000 in
theorem new_any (room : Nat) (w : World) (hr : room ≤ 65536) : Calls Try.prog 10 #[.int .i64 (room : Int)] w (NewPost w room) := by
  go_enter Try.func10, Try.ntmps10
  go_wp2_with fail
  go_ret2
  refine ⟨rfl, ⟨Nat.le_refl _, heap_alloc_new w _, World.ownsRow_nil _ _ _ _, hr, by simp [DS.new], by simp [DS.new], by simp [DS.new], by simp [DS.new]⟩, (Below.refl _ _).alloc (Nat.le_refl _) _, by simp⟩
end Go.Proofs.Ytlopeflgleplfaa
