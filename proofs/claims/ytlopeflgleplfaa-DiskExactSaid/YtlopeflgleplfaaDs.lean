/-
  A disk in plain Lean; and a disk in memory.
-/
import Derived.Test.YtlopeflgleplfaaKeep
namespace Go.Proofs.Ytlopeflgleplfaa
open Go.RowKit
/-- A disk: what it has room for, its file, how much of it is synced, its power, what is tripped. -/
structure DS where
  room : Nat
  file : List UInt8
  synced : Nat
  off : Bool
  trip : Nat
  keep : Int
structure DS.Ok (s : DS) : Prop where
  room : s.room ≤ 65536
  file : s.file.length ≤ s.room
  synced : s.synced ≤ s.file.length
  trip : s.trip ≤ 9223372036854775807
  keep : -9223372036854775808 ≤ s.keep ∧ s.keep ≤ 9223372036854775807
/-- Is this write the last one? -/
def DS.isLast (s : DS) : Bool := decide (s.trip = 1)
def DS.count (s : DS) : DS := { s with trip := s.trip - 1 }
/-- How much stays. -/
def DS.stays (s : DS) (keep : Int) : Nat := s.synced + (max (min keep ((s.file.length : Int) - s.synced)) 0).toNat
def DS.crash (s : DS) (keep : Int) : DS :=
  if s.off then { s with trip := 0 } else { s with trip := 0, off := true, file := s.file.take (s.stays keep), synced := s.stays keep }
/-- A write's end. -/
def DS.done (s : DS) (f : DS → DS) : Nat × DS := if s.isLast then (4, s.count.crash s.count.keep) else (0, f s.count)
def DS.append (s : DS) (l : List UInt8) : Nat × DS :=
  if s.off then (4, s) else if s.room < s.file.length + l.length then (5, s) else DS.done { s with file := s.file ++ l } id
def DS.sync (s : DS) : Nat × DS :=
  if s.off then (4, s) else s.done fun s => { s with synced := s.file.length }
def DS.replace (s : DS) (l : List UInt8) : Nat × DS :=
  if s.off then (4, s) else if s.room < l.length then (5, s) else s.done fun s => { s with file := l, synced := l.length }
def DS.setTrip (s : DS) (n keep : Int) : DS := if s.off then s else { s with trip := (max n 0).toNat, keep := keep }
def DS.start (s : DS) : DS := { s with off := false }
theorem DS.stays_le (s : DS) (keep : Int) (h : s.Ok) : s.synced ≤ s.stays keep ∧ s.stays keep ≤ s.file.length := by
  have := h.synced
  unfold DS.stays
  omega
theorem DS.Ok.crash {s : DS} (h : s.Ok) (keep : Int) : (s.crash keep).Ok := by
  unfold DS.crash
  have h1 := DS.stays_le s keep h
  split
  · exact ⟨h.room, h.file, h.synced, by simp, h.keep⟩
  · exact ⟨h.room, by simp; have := h.file; omega, by simp; omega, by simp, h.keep⟩
theorem DS.Ok.count {s : DS} (h : s.Ok) : s.count.Ok := ⟨h.room, h.file, h.synced, by have := h.trip; simp [DS.count]; omega, h.keep⟩
theorem DS.Ok.done {s : DS} (h : s.Ok) {f : DS → DS} (hf : ∀ x : DS, x.Ok → (f x).Ok) : (s.done f).2.Ok := by
  unfold DS.done
  split
  · exact h.count.crash _
  · exact hf _ h.count
theorem DS.Ok.append {s : DS} (h : s.Ok) (l : List UInt8) : (s.append l).2.Ok := by
  unfold DS.append
  split
  · exact h
  · split
    · exact h
    · exact DS.Ok.done (s := { s with file := s.file ++ l }) ⟨h.room, by show (s.file ++ l).length ≤ s.room; rw [List.length_append]; omega, by show s.synced ≤ (s.file ++ l).length; rw [List.length_append]; have := h.synced; omega, h.trip, h.keep⟩ fun x hx => hx
theorem DS.Ok.sync {s : DS} (h : s.Ok) : s.sync.2.Ok := by
  unfold DS.sync
  split
  · exact h
  · exact DS.Ok.done h fun x hx => ⟨hx.room, hx.file, Nat.le_refl _, hx.trip, hx.keep⟩
theorem DS.Ok.start {s : DS} (h : s.Ok) : s.start.Ok := ⟨h.room, h.file, h.synced, h.trip, h.keep⟩
theorem DS.Ok.setTrip {s : DS} (h : s.Ok) (n keep : Int) (hn : n ≤ 9223372036854775807) (hk : -9223372036854775808 ≤ keep ∧ keep ≤ 9223372036854775807) : (s.setTrip n keep).Ok := by
  unfold DS.setTrip
  split
  · exact h
  · exact ⟨h.room, h.file, h.synced, by show (max n 0).toNat ≤ _; omega, hk⟩

/-! ### In memory -/
def dsCells (v : Value) (s : DS) : Array Value := #[.int .i64 (s.room : Int), v, .int .i64 (s.synced : Int), .bool s.off, .int .i64 (s.trip : Int), .int .i64 s.keep]
/-- Block d is the disk s, its file the slice v; both from 'base' on. -/
structure DiskAt (w : World) (base d : Nat) (v : Value) (s : DS) : Prop where
  low : base ≤ d
  cells : w.heap[d]? = some (.cells (dsCells v s) 55 (0, 0))
  file : OwnB w base v s.file
  ok : s.Ok
/-- Only the disk and its file have turned, of what was there. -/
structure FrmD (w w' : World) (d : Nat) (f : Option Nat) : Prop where
  os : w'.os = w.os
  tape : w'.tape = w.tape
  output : w'.output = w.output
  size : w.heap.size ≤ w'.heap.size
  block : ∀ k, k < w.heap.size → k ≠ d → some k ≠ f → w'.heap[k]? = w.heap[k]?
/-- The file is where it was, or in a new place. -/
def NewOr (w : World) (v v' : Value) : Prop := v'.ownBlock = v.ownBlock ∨ v'.ownBlock = none ∨ ∃ k, v'.ownBlock = some k ∧ w.heap.size ≤ k
theorem NewOr.refl (w : World) (v : Value) : NewOr w v v := .inl rfl
theorem FrmD.refl (w : World) (d : Nat) (f : Option Nat) : FrmD w w d f := ⟨rfl, rfl, rfl, Nat.le_refl _, fun _ _ _ _ => rfl⟩
theorem FrmD.trans {a b c : World} {d : Nat} {v v' : Value} (h : FrmD a b d v.ownBlock) (hn : NewOr a v v') (k : FrmD b c d v'.ownBlock) : FrmD a c d v.ownBlock :=
  ⟨k.os.trans h.os, k.tape.trans h.tape, k.output.trans h.output, Nat.le_trans h.size k.size, fun i hi h1 h2 => (k.block i (Nat.lt_of_lt_of_le hi h.size) h1 (by
    rcases hn with e | e | ⟨j, e, hj⟩ <;> rw [e]
    · exact h2
    · simp
    · intro e'; injection e' with e'; omega)).trans (h.block i hi h1 h2)⟩
theorem NewOr.trans {a b : World} {v v' v'' : Value} (h : NewOr a v v') (k : NewOr b v' v'') (hs : a.heap.size ≤ b.heap.size) : NewOr a v v'' := by
  rcases k with e | e | ⟨j, e, hj⟩
  · rcases h with e' | e' | ⟨j', e', hj'⟩
    · exact .inl (e.trans e')
    · exact .inr (.inl (e.trans e'))
    · exact .inr (.inr ⟨j', e.trans e', hj'⟩)
  · exact .inr (.inl e)
  · exact .inr (.inr ⟨j, e, by omega⟩)
theorem FrmD.below {w w' : World} {base d : Nat} {v : Value} {s : DS} (h : FrmD w w' d v.ownBlock) (hd : DiskAt w base d v s) : Below base w w' :=
  ⟨h.os, h.tape, h.output, h.size, fun k hk => h.block k (by have := (Array.getElem?_eq_some_iff.1 hd.cells).1; have := hd.low; omega) (by have := hd.low; omega) (fun e => by have := (hd.file.lt k e.symm).1; omega)⟩
theorem FrmD.set {w w' : World} {d : Nat} {f : Option Nat} (h : FrmD w w' d f) (i : Nat) (u : Value) : FrmD w (w'.setCell ⟨d, i, none⟩ u) d f :=
  ⟨h.os, h.tape, h.output, by simpa [World.setCell] using h.size, fun k hk h1 h2 => (Below.heap_setCell _ _ _ _ h1).trans (h.block k hk h1 h2)⟩
theorem FrmD.drewN {w w' : World} {d : Nat} {f : Option Nat} (h : FrmD w w' d f) (n : Nat) : FrmD w (w'.drewN n) d f := ⟨h.os, h.tape, h.output, h.size, h.block⟩
theorem FrmD.grown {w w' w'' : World} {d : Nat} {v : Value} (h : FrmD w w' d v.ownBlock) (hg : w'.grownBy w'' v.ownBlock) : FrmD w w'' d v.ownBlock :=
  ⟨hg.os.trans h.os, hg.tape.trans h.tape, hg.output.trans h.output, Nat.le_trans h.size hg.size, fun k hk h1 h2 => (hg.block k (Nat.lt_of_lt_of_le hk h.size) h2).trans (h.block k hk h1 h2)⟩
theorem FrmD.ofBelow {w w' : World} (h : Below w.heap.size w w') (d : Nat) (f : Option Nat) : FrmD w w' d f := ⟨h.os, h.tape, h.output, h.size, fun k hk _ _ => h.block k hk⟩
/-- A row of bytes is never the disk. -/
theorem own_ne_disk {w : World} {b base d : Nat} {u v : Value} {l : List UInt8} {s : DS} (h : OwnB w b u l) (hd : DiskAt w base d v s) : u.ownBlock ≠ some d := by
  rcases h.2 with ⟨rfl, _⟩ | ⟨g, cap, cur, rfl, _, hg, _⟩
  · simp [Value.ownBlock]
  · intro e
    simp [Value.ownBlock] at e
    subst e
    rw [hd.cells] at hg
    injection hg with hg
    injection hg with _ ht
    revert ht
    decide
/-- Another row of bytes stays. -/
theorem OwnB.frm {w w' : World} {b base d : Nat} {u v : Value} {l : List UInt8} {s : DS} (h : OwnB w b u l) (hd : DiskAt w base d v s) (hf : FrmD w w' d v.ownBlock) (hne : u.ownBlock = none ∨ u.ownBlock ≠ v.ownBlock) : OwnB w' b u l := by
  have hnd := own_ne_disk h hd
  obtain ⟨h1, h2 | ⟨g, cap, cur, e, hb, hg, hr⟩⟩ := h
  · exact ⟨h1, .inl h2⟩
  · subst e
    simp only [Value.ownBlock] at hne hnd
    refine ⟨h1, .inr ⟨g, cap, cur, rfl, hb, ?_, hr⟩⟩
    rw [hf.block g (Array.getElem?_eq_some_iff.1 hg).1 (fun e => hnd (by rw [e])) (hne.resolve_left (by simp))]
    exact hg
theorem DiskAt.cell {w : World} {base d : Nat} {v : Value} {s : DS} (h : DiskAt w base d v s) : w.cell? ⟨d, 0, none⟩ = some (.int .i64 (s.room : Int)) ∧ w.cell? ⟨d, 1, none⟩ = some v ∧ w.cell? ⟨d, 2, none⟩ = some (.int .i64 (s.synced : Int)) ∧
    w.cell? ⟨d, 3, none⟩ = some (.bool s.off) ∧ w.cell? ⟨d, 4, none⟩ = some (.int .i64 (s.trip : Int)) ∧ w.cell? ⟨d, 5, none⟩ = some (.int .i64 s.keep) ∧ ∀ i : Nat, w.frozen? ⟨d, i, none⟩ = false :=
  ⟨cell_of_row _ _ _ _ _ _ h.cells, cell_of_row _ _ _ _ _ _ h.cells, cell_of_row _ _ _ _ _ _ h.cells, cell_of_row _ _ _ _ _ _ h.cells, cell_of_row _ _ _ _ _ _ h.cells, cell_of_row _ _ _ _ _ _ h.cells, fun _ => frozen_of_row _ _ _ _ _ h.cells⟩
/-- A disk elsewhere stays. -/
theorem DiskAt.below {w w' : World} {base d : Nat} {v : Value} {s : DS} (h : DiskAt w base d v s) (hb : Below w.heap.size w w') : DiskAt w' base d v s :=
  ⟨h.low, (hb.block d (Array.getElem?_eq_some_iff.1 h.cells).1).trans h.cells, h.file.below hb, h.ok⟩
theorem DiskAt.drewN {w : World} {base d : Nat} {v : Value} {s : DS} (h : DiskAt w base d v s) (n : Nat) : DiskAt (w.drewN n) base d v s := ⟨h.low, h.cells, h.file, h.ok⟩
/-- A field is written. -/
theorem DiskAt.set {w : World} {base d : Nat} {v v' : Value} {s s' : DS} (h : DiskAt w base d v s) (i : Nat) (u : Value) (hc : (dsCells v s).setIfInBounds i u = dsCells v' s') (ho : OwnB w base v' s'.file) (ok : s'.Ok) :
    DiskAt (w.setCell ⟨d, i, none⟩ u) base d v' s' := by
  refine ⟨h.low, by rw [heap_setCell_same _ _ _ _ _ _ h.cells, hc], ?_, ok⟩
  have hne := own_ne_disk ho h
  obtain ⟨h1, h2 | ⟨g, cap, cur, e, hb, hg, hr⟩⟩ := ho
  · exact ⟨h1, .inl h2⟩
  · subst e
    simp only [Value.ownBlock] at hne
    exact ⟨h1, .inr ⟨g, cap, cur, rfl, hb, (Below.heap_setCell _ _ _ _ (fun e => hne (by rw [e]))).trans hg, hr⟩⟩
/-- A field is written behind steps that left the disk's block alone. -/
theorem DiskAt.set_of {w w2 : World} {base d : Nat} {v v' : Value} {s s' : DS} (h : DiskAt w base d v s) (hd : w2.heap[d]? = w.heap[d]?) (i : Nat) (u : Value) (hc : (dsCells v s).setIfInBounds i u = dsCells v' s') (ho : OwnB w2 base v' s'.file) (ok : s'.Ok) :
    DiskAt (w2.setCell ⟨d, i, none⟩ u) base d v' s' := by
  have hd2 := hd.trans h.cells
  refine ⟨h.low, by rw [heap_setCell_same _ _ _ _ _ _ hd2, hc], ?_, ok⟩
  obtain ⟨h1, h2 | ⟨g, cap, cur, e, hb, hg, hr⟩⟩ := ho
  · exact ⟨h1, .inl h2⟩
  · refine ⟨h1, .inr ⟨g, cap, cur, e, hb, (Below.heap_setCell _ _ _ _ (fun e => ?_)).trans hg, hr⟩⟩
    simp only at e
    subst e
    rw [hd2] at hg
    injection hg with hg
    injection hg with _ ht
    revert ht
    decide
theorem DiskAt.set2_of {w w2 : World} {base d : Nat} {v v' : Value} {s s' : DS} (h : DiskAt w base d v s) (hd : w2.heap[d]? = w.heap[d]?) (i j : Nat) (u x : Value) (hc : ((dsCells v s).setIfInBounds i u).setIfInBounds j x = dsCells v' s') (ho : OwnB w2 base v' s'.file) (ok : s'.Ok) :
    DiskAt ((w2.setCell ⟨d, i, none⟩ u).setCell ⟨d, j, none⟩ x) base d v' s' := by
  have hd2 := hd.trans h.cells
  refine ⟨h.low, by rw [heap_setCell_same _ _ _ _ _ _ (heap_setCell_same _ _ _ _ _ _ hd2), hc], ?_, ok⟩
  obtain ⟨h1, h2 | ⟨g, cap, cur, e, hb, hg, hr⟩⟩ := ho
  · exact ⟨h1, .inl h2⟩
  · have hgd : g ≠ d := by
      intro e
      subst e
      rw [hd2] at hg
      injection hg with hg
      injection hg with _ ht
      revert ht
      decide
    exact ⟨h1, .inr ⟨g, cap, cur, e, hb, (Below.heap_setCell _ _ _ _ hgd).trans ((Below.heap_setCell _ _ _ _ hgd).trans hg), hr⟩⟩
/-- What a method does. -/
def DPost (w : World) (base d : Nat) (v : Value) (r : Value) (s' : DS) (e : Ending) (w' : World) : Prop :=
  e = .returned r ∧ ∃ v', DiskAt w' base d v' s' ∧ FrmD w w' d v.ownBlock ∧ NewOr w v v'
end Go.Proofs.Ytlopeflgleplfaa
