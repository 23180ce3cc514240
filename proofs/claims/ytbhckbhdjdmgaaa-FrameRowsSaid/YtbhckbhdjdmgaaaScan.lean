/-
  The walk of frame.Scan.
-/
import Derived.Test.YtbhckbhdjdmgaaaSeal
import Derived.Test.YtbhckbhdjdmgaaaBrows
namespace Go.Proofs.Ytbhckbhdjdmgaaa
open Go.RowKit
theorem info_bb : (Try.prog.info? 22).map (fun i => (i.zero, i.size, i.bytes)) = some (some (.slice none 0 0), 1, 24) := by kernel_rfl
def ScanPost (w : World) (r : List (List UInt8) × Nat) (e : Ending) (w' : World) : Prop :=
  ∃ v, e = .returned (.tuple #[v, .int .i64 r.2]) ∧ OwnRows w' w.heap.size v r.1 ∧ Below w.heap.size w w'
/-- The loop: what has been found, and what is still to come. -/
def ScanRel (w : World) (B : Nat) (A : Option Addr) (n cap : Nat) (l : List UInt8) (m : Nat) (k : Nat) (v : Value) (wr : World) : Prop :=
  k + m = n ∧ By wr B A n cap l ∧ Below w.heap.size w wr ∧ ∃ done, OwnRows wr w.heap.size v done ∧ done.length * 9 ≤ k ∧ scan l = (done ++ (scan (l.drop k)).1, k + (scan (l.drop k)).2)
theorem scan_start (w : World) (B : Nat) (A : Option Addr) (n cap : Nat) (l : List UInt8) (hb : By w B A n cap l) : ScanRel w B A n cap l n 0 (.slice none 0 0) w :=
  ⟨by omega, hb, Below.refl _ _, [], OwnRows.nil _ _, by simp, by simp⟩
set_option maxHeartbeats 800000 in
theorem Scan_any (A : Option Addr) (n cap : Nat) (l : List UInt8) (w : World) (B : Nat) (hB : B ≤ w.heap.size) (hb : By w B A n cap l) (hn : n ≤ 1000000000) :
    Calls Try.prog 20 #[.slice A n cap] w (ScanPost w (scan l)) := by
  obtain ⟨i0, hi, hz0, hz1, hz2⟩ := info_parts info_bb
  go_enter Try.func20, Try.ntmps20
  go_wp2_with fail
  go_loopg [2, 3] n (fun m v s3 wr => ∃ k : Nat, s3 = .int .i64 k ∧ ScanRel w B A n cap l m k v wr)
  case atStart => exact ⟨0, rfl, scan_start w B A n cap l hb⟩
  case round =>
    obtain ⟨k, rfl, hk, hy, hbw, done, ho, hd, hs⟩ := hrel
    have hkn : k ≤ n := by omega
    obtain ⟨A1, c1, hsl, hy1⟩ := By.cutL (P := Try.prog) 22 5 Try.underlying22 size_u8 hy k gk (k : Int) rfl hk
    have hBw : B ≤ wr.heap.size := Nat.le_trans hB hbw.size
    have Hk := Lib.hid hk
    have Hs := Lib.hid hs
    clear hk hs
    cases hf : first (l.drop k) with
    | none =>
      have Hf := Lib.hid hf
      clear hf
      have Hp : Hid (∀ e w', FirstPost wr (first (l.drop k)) e w' → Below wr.heap.size wr w' ∧ e = .returned (.tuple #[.slice none 0 0, .int .i64 0, .int .i64 3])) := by
        intro e w' ⟨h1, h2⟩
        rw [Hf.out] at h2
        exact ⟨h1, h2⟩
      go_wp2_with fail
      refine (First_any _ _ _ _ _ _ hBw hy1).mono ?_
      intro e w2 hp
      obtain ⟨hb2, rfl⟩ := Hp.out e w2 hp
      clear hp
      go_wp2_with fail
      go_ret2
      refine ⟨u2, ?_, ?_, hbw.trans (hb2.mono hbw.size)⟩
      · rw [Hs.out, scan_none Hf.out]; simp
      · rw [Hs.out, scan_none Hf.out]; simpa using ho.below hb2
    | some r =>
      obtain ⟨p, q⟩ := r
      have hpos := first_pos hf
      have hq : q ≤ gk := by have := hpos.2.1; rw [hy1.len] at this; exact this
      have hq9 : 9 ≤ q := hpos.1
      have Hf := Lib.hid hf
      clear hf hpos
      have Hp : Hid (∀ e w', FirstPost wr (first (l.drop k)) e w' → Below wr.heap.size wr w' ∧ ∃ v, e = .returned (.tuple #[v, .int .i64 q, .int .i64 0]) ∧ OwnB w' wr.heap.size v p) := by
        intro e w' ⟨h1, h2⟩
        rw [Hf.out] at h2
        exact ⟨h1, h2⟩
      have hdl : done.length ≤ 1000000000 := by omega
      have hkq : k + q ≤ 1000000000 := by have := Hk.out; omega
      go_wp2_with fail
      refine (First_any _ _ _ _ _ _ hBw hy1).mono ?_
      intro e w2 hp
      obtain ⟨hb2, v2, rfl, ho2⟩ := Hp.out e w2 hp
      clear hp
      obtain ⟨us, g1, g2, g4, g3⟩ := ho.below hb2
      obtain ⟨A2, c2, rfl, hy2⟩ := own_by ho2 rfl
      have hbw2 := hbw.trans (hb2.mono hbw.size)
      go_wp2_with (
        (at_builtin
         refine wpList_app rfl (.tmp 19) (.tmp 21) _ rfl w.heap.size 22 i0 _ 1 24 Try.underlying40 hi hz0 hz1 hz2 rfl (by omega) u2 done.length us rfl (g1.alloc _) (w2.heap.size + 1) (some ⟨w2.heap.size, 0, none⟩) 1 1 [.slice A2 p.length c2] rfl (rd_one _ _ _) (one_one rfl) ?c3 ?c4 ?c5 ?_
         case c3 => simp only [maxLen]; omega
         case c4 => omega
         case c5 => simp; have := hbw2.size; omega
         intro v3 w3 ho3 hg3 _))
      have hbw3 : Below w.heap.size w w3 := (hbw2.alloc hbw2.size _).grown hg3 (by simp; have := hbw2.size; omega) (fun j hj => (g1.lt j hj).1)
      go_roundg (gk - q)
      case rel =>
        have hk := Hk.out
        refine ⟨k + q, by go_num, by omega, ?_, hbw3, done ++ [p], ?_, ?_, ?_⟩
        · exact hb.below hbw3 hB
        · exact OwnRows.snoc (g1.alloc _) g2 g4 (fun i u l hu hl => (g3 i u l hu hl).alloc _) ((ho2.base hbw.size).alloc _) rfl ho3 hg3
        · simp; omega
        · rw [Hs.out, scan_some Hf.out]
          simp [List.drop_drop, Nat.add_assoc]
      case measure => omega
end Go.Proofs.Ytbhckbhdjdmgaaa
