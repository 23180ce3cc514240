/-
  A disk, its file out of sight; and skerrylaw04.wakes.
-/
import Derived.Test.YtlopeflgleplfaaDwrite
import Derived.Lib.SlBytesConst
import Derived.Laws.BytesArg
namespace Go.Proofs.Ytlopeflgleplfaa
open Go.RowKit
/-- The disk s lies at d, above what was there. -/
def DQ (w0 w : World) (base d : Nat) (s : DS) : Prop := ∃ v, DiskAt w base d v s ∧ Below base w0 w
theorem DQ.below {w0 w : World} {base d : Nat} {s : DS} (h : DQ w0 w base d s) : Below base w0 w := h.choose_spec.2
theorem DQ.size {w0 w : World} {base d : Nat} {s : DS} (h : DQ w0 w base d s) : base < w.heap.size := by
  obtain ⟨v, h, _⟩ := h
  have := (Array.getElem?_eq_some_iff.1 h.cells).1
  have := h.low
  omega
theorem DQ.ok {w0 w : World} {base d : Nat} {s : DS} (h : DQ w0 w base d s) : s.Ok := h.choose_spec.1.ok
theorem DQ.keep {w0 w w' : World} {base d : Nat} {s : DS} (h : DQ w0 w base d s) (hb : Below w.heap.size w w') : DQ w0 w' base d s := by
  have := h.size
  obtain ⟨v, h, k⟩ := h
  exact ⟨v, h.below hb, k.trans (hb.mono (by omega))⟩
theorem DQ.alloc {w0 w : World} {base d : Nat} {s : DS} (h : DQ w0 w base d s) (b : Obj) : DQ w0 (w.alloc b) base d s := h.keep ((Below.refl _ _).alloc (Nat.le_refl _) _)
theorem DQ.drewN {w0 w : World} {base d : Nat} {s : DS} (h : DQ w0 w base d s) (n : Nat) : DQ w0 (w.drewN n) base d s := h.keep ⟨rfl, rfl, rfl, Nat.le_refl _, fun _ _ => rfl⟩
theorem DQ.post {w0 w w' : World} {base d : Nat} {s s' : DS} {v : Value} {r : Value} {e : Ending} (h : DiskAt w base d v s) (k : Below base w0 w) (p : DPost w base d v r s' e w') : e = .returned r ∧ DQ w0 w' base d s' := by
  obtain ⟨rfl, v', q, hf, _⟩ := p
  exact ⟨rfl, v', q, k.trans (hf.below h)⟩
theorem DQ.append (w0 w : World) (base d : Nat) (s : DS) (A : Option Addr) (n cap B : Nat) (l : List UInt8) (h : DQ w0 w base d s) (hb : By w B A n cap l) :
    Calls Try.prog 12 #[.pointer (some ⟨d, 0, none⟩), .slice A n cap] w fun e w' => e = .returned (.int .i64 (s.append l).1) ∧ DQ w0 w' base d (s.append l).2 := by
  have hs := h.size
  obtain ⟨v, h, k⟩ := h
  exact (append_any base d v s A n cap B l w h (by omega) hb).mono fun _ _ p => DQ.post h k p
theorem DQ.replace (w0 w : World) (base d : Nat) (s : DS) (A : Option Addr) (n cap B : Nat) (l : List UInt8) (h : DQ w0 w base d s) (hb : By w B A n cap l) (hB : B ≤ base) :
    Calls Try.prog 21 #[.pointer (some ⟨d, 0, none⟩), .slice A n cap] w fun e w' => e = .returned (.int .i64 (s.replace l).1) ∧ DQ w0 w' base d (s.replace l).2 := by
  have hs := h.size
  obtain ⟨v, h, k⟩ := h
  exact (replace_any base d v s A n cap B l w h (by omega) hb hB).mono fun _ _ p => DQ.post h k p
theorem DQ.sync (w0 w : World) (base d : Nat) (s : DS) (h : DQ w0 w base d s) :
    Calls Try.prog 13 #[.pointer (some ⟨d, 0, none⟩)] w fun e w' => e = .returned (.int .i64 s.sync.1) ∧ DQ w0 w' base d s.sync.2 := by
  obtain ⟨v, h, k⟩ := h
  exact (sync_any base d v s w h).mono fun _ _ p => DQ.post h k p
theorem DQ.crash (w0 w : World) (base d : Nat) (s : DS) (keep : Int) (h : DQ w0 w base d s) :
    Calls Try.prog 19 #[.pointer (some ⟨d, 0, none⟩), .int .i64 keep] w fun e w' => e = .returned (.tuple #[]) ∧ DQ w0 w' base d (s.crash keep) := by
  obtain ⟨v, h, k⟩ := h
  exact (crash_any base d v s keep w h).mono fun _ _ p => DQ.post h k p
theorem DQ.start (w0 w : World) (base d : Nat) (s : DS) (h : DQ w0 w base d s) :
    Calls Try.prog 15 #[.pointer (some ⟨d, 0, none⟩)] w fun e w' => e = .returned (.tuple #[]) ∧ DQ w0 w' base d s.start := by
  obtain ⟨v, h, k⟩ := h
  exact (start_any base d v s w h).mono fun _ _ p => DQ.post h k p
theorem DQ.trip (w0 w : World) (base d : Nat) (s : DS) (n keep : Int) (h : DQ w0 w base d s) (hn : n ≤ 9223372036854775807) (hk : -9223372036854775808 ≤ keep ∧ keep ≤ 9223372036854775807) :
    Calls Try.prog 11 #[.pointer (some ⟨d, 0, none⟩), .int .i64 n, .int .i64 keep] w fun e w' => e = .returned (.tuple #[]) ∧ DQ w0 w' base d (s.setTrip n keep) := by
  obtain ⟨v, h, k⟩ := h
  exact (trip_any base d v s n keep w h hn hk).mono fun _ _ p => DQ.post h k p
theorem DQ.isOff (w0 w : World) (base d : Nat) (s : DS) (h : DQ w0 w base d s) :
    Calls Try.prog 14 #[.pointer (some ⟨d, 0, none⟩)] w fun e w' => e = .returned (.bool s.off) ∧ w = w' := by
  obtain ⟨v, h, k⟩ := h
  exact off_any base d v s w h
theorem DQ.len (w0 w : World) (base d : Nat) (s : DS) (h : DQ w0 w base d s) :
    Calls Try.prog 20 #[.pointer (some ⟨d, 0, none⟩)] w fun e w' => e = .returned (.int .i64 (s.file.length : Int)) ∧ w = w' := by
  obtain ⟨v, h, k⟩ := h
  exact size_any base d v s w h
theorem DQ.read (w0 w : World) (base d : Nat) (s : DS) (h : DQ w0 w base d s) :
    Calls Try.prog 16 #[.pointer (some ⟨d, 0, none⟩)] w fun e w' => DQ w0 w' base d s ∧ ReadPost w s e w' := by
  have h' := h
  obtain ⟨v, h, k⟩ := h
  exact (read_any base d v s w h).mono fun _ _ p => ⟨h'.keep p.1, p⟩
theorem DQ.new (room : Nat) (w : World) (hr : room ≤ 65536) : Calls Try.prog 10 #[.int .i64 (room : Int)] w fun e w' =>
    e = .returned (.tuple #[.pointer (some ⟨w.heap.size, 0, none⟩), .int .i64 0]) ∧ DQ w w' w.heap.size w.heap.size (DS.new room) :=
  (new_any room w hr).mono fun _ _ ⟨h1, h2, h3, _⟩ => ⟨h1, _, h2, h3⟩
theorem two_by (w : World) (a b : UInt8) : By (w.alloc (.cells #[.int .u8 (a.toNat : Int), .int .u8 (b.toNat : Int)] 5 (2, 3))) (w.heap.size + 1) (some ⟨w.heap.size, 0, none⟩) 2 2 [a, b] := by
  refine ⟨rfl, Nat.le_refl _, by decide, fun _ => ⟨w.heap.size, 0, rfl, by omega, fun j u hu => ?_⟩⟩
  rw [Nat.zero_add, World.cell?_alloc_mark]
  simpa [bv] using hu
set_option maxHeartbeats 800000 in
theorem wakes_any (w : World) : Calls Try.prog 18 #[] w fun e w' => e = .returned (.bool true) ∧ Below w.heap.size w w' := by
  have kc := fun (w : World) (C : Array Value) (n c : Nat) => Lib.run_convert_bytes_const (P := Try.prog) w 22 5 C n c Try.underlying22 Try.underlying5
  go_enter Try.func18, Try.ntmps18
  go_wp2_with fail
  refine (DQ.new 100 w (by omega)).mono ?_
  rintro e w1 ⟨rfl, q1⟩
  go_wp2_with fail
  refine (DQ.append _ _ _ _ _ _ _ _ _ [97, 98] (q1.alloc _) (two_by w1 97 98)).mono ?_
  rintro e w2 ⟨rfl, q2⟩
  go_wp2_with fail
  refine (DQ.sync _ _ _ _ _ q2).mono ?_
  rintro e w3 ⟨rfl, q3⟩
  go_wp2_with fail
  refine (DQ.append _ _ _ _ _ _ _ _ _ [99, 100] (q3.alloc _) (two_by w3 99 100)).mono ?_
  rintro e w4 ⟨rfl, q4⟩
  go_wp2_with fail
  refine (DQ.crash _ _ _ _ _ 1 q4).mono ?_
  rintro e w5 ⟨rfl, q5⟩
  go_wp2_with fail
  refine (DQ.start _ _ _ _ _ q5).mono ?_
  rintro e w6 ⟨rfl, q6⟩
  go_wp2_with fail
  refine (DQ.read _ _ _ _ _ q6).mono ?_
  rintro e w7 ⟨q7, hb7, v7, rfl, ho⟩
  have ho' : OwnB w7 w6.heap.size v7 [97, 98, 99] := ho
  obtain ⟨A7, c7, rfl, hy7⟩ := own_by ho' (n := 3) rfl
  obtain ⟨b7, o7, rfl, _, hc7⟩ := hy7.2.2.2 (by omega)
  have hconv := run_convert_bytes_arg (P := Try.prog) w7 22 5 Try.underlying22 Try.underlying5 b7 o7 3 c7 [97, 98, 99] rfl (fun i hi => by
    have : i = 0 ∨ i = 1 ∨ i = 2 := by omega
    rcases this with rfl | rfl | rfl
    · exact hc7 0 (bv 97) rfl
    · exact hc7 1 (bv 98) rfl
    · exact hc7 2 (bv 99) rfl) 9 Try.underlying9
  clear hc7
  go_wp2_with fail
  go_ret
  exact ⟨ret_bool (by decide +kernel), q7.below⟩
end Go.Proofs.Ytlopeflgleplfaa
