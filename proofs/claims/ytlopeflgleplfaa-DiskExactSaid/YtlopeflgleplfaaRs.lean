/-
  The page's disk in memory.
-/
import Derived.Test.YtlopeflgleplfaaDs
namespace Go.Proofs.Ytlopeflgleplfaa
open Go.RowKit
/-- Block d is the disk s, its file the slice v; both from 'base' on. -/
structure RefAt (w : World) (base d : Nat) (v : Value) (s : DS) : Prop where
  low : base ≤ d
  cells : w.heap[d]? = some (.cells (dsCells v s) 49 (0, 0))
  file : OwnB w base v s.file
  ok : s.Ok
theorem FrmD.belowR {w w' : World} {base d : Nat} {v : Value} {s : DS} (h : FrmD w w' d v.ownBlock) (hd : RefAt w base d v s) : Below base w w' :=
  ⟨h.os, h.tape, h.output, h.size, fun k hk => h.block k (by have := (Array.getElem?_eq_some_iff.1 hd.cells).1; have := hd.low; omega) (by have := hd.low; omega) (fun e => by have := (hd.file.lt k e.symm).1; omega)⟩
/-- A row of bytes is never the disk. -/
theorem own_ne_ref {w : World} {b base d : Nat} {u v : Value} {l : List UInt8} {s : DS} (h : OwnB w b u l) (hd : RefAt w base d v s) : u.ownBlock ≠ some d := by
  rcases h.2 with ⟨rfl, _⟩ | ⟨g, cap, cur, rfl, _, hg, _⟩
  · simp [Value.ownBlock]
  · intro e
    simp [Value.ownBlock] at e
    subst e
    rw [hd.cells] at hg
    injection hg with hg
    injection hg with _ ht
    revert ht
    decide
/-- Another row of bytes stays. -/
theorem OwnB.frmR {w w' : World} {b base d : Nat} {u v : Value} {l : List UInt8} {s : DS} (h : OwnB w b u l) (hd : RefAt w base d v s) (hf : FrmD w w' d v.ownBlock) (hne : u.ownBlock = none ∨ u.ownBlock ≠ v.ownBlock) : OwnB w' b u l := by
  have hnd := own_ne_ref h hd
  obtain ⟨h1, h2 | ⟨g, cap, cur, e, hb, hg, hr⟩⟩ := h
  · exact ⟨h1, .inl h2⟩
  · subst e
    simp only [Value.ownBlock] at hne hnd
    refine ⟨h1, .inr ⟨g, cap, cur, rfl, hb, ?_, hr⟩⟩
    rw [hf.block g (Array.getElem?_eq_some_iff.1 hg).1 (fun e => hnd (by rw [e])) (hne.resolve_left (by simp))]
    exact hg
theorem RefAt.cell {w : World} {base d : Nat} {v : Value} {s : DS} (h : RefAt w base d v s) : w.cell? ⟨d, 0, none⟩ = some (.int .i64 (s.room : Int)) ∧ w.cell? ⟨d, 1, none⟩ = some v ∧ w.cell? ⟨d, 2, none⟩ = some (.int .i64 (s.synced : Int)) ∧
    w.cell? ⟨d, 3, none⟩ = some (.bool s.off) ∧ w.cell? ⟨d, 4, none⟩ = some (.int .i64 (s.trip : Int)) ∧ w.cell? ⟨d, 5, none⟩ = some (.int .i64 s.keep) ∧ ∀ i : Nat, w.frozen? ⟨d, i, none⟩ = false :=
  ⟨cell_of_row _ _ _ _ _ _ h.cells, cell_of_row _ _ _ _ _ _ h.cells, cell_of_row _ _ _ _ _ _ h.cells, cell_of_row _ _ _ _ _ _ h.cells, cell_of_row _ _ _ _ _ _ h.cells, cell_of_row _ _ _ _ _ _ h.cells, fun _ => frozen_of_row _ _ _ _ _ h.cells⟩
/-- A disk elsewhere stays. -/
theorem RefAt.below {w w' : World} {base d : Nat} {v : Value} {s : DS} (h : RefAt w base d v s) (hb : Below w.heap.size w w') : RefAt w' base d v s :=
  ⟨h.low, (hb.block d (Array.getElem?_eq_some_iff.1 h.cells).1).trans h.cells, h.file.below hb, h.ok⟩
theorem RefAt.drewN {w : World} {base d : Nat} {v : Value} {s : DS} (h : RefAt w base d v s) (n : Nat) : RefAt (w.drewN n) base d v s := ⟨h.low, h.cells, h.file, h.ok⟩
/-- A field is written. -/
theorem RefAt.set {w : World} {base d : Nat} {v v' : Value} {s s' : DS} (h : RefAt w base d v s) (i : Nat) (u : Value) (hc : (dsCells v s).setIfInBounds i u = dsCells v' s') (ho : OwnB w base v' s'.file) (ok : s'.Ok) :
    RefAt (w.setCell ⟨d, i, none⟩ u) base d v' s' := by
  refine ⟨h.low, by rw [heap_setCell_same _ _ _ _ _ _ h.cells, hc], ?_, ok⟩
  have hne := own_ne_ref ho h
  obtain ⟨h1, h2 | ⟨g, cap, cur, e, hb, hg, hr⟩⟩ := ho
  · exact ⟨h1, .inl h2⟩
  · subst e
    simp only [Value.ownBlock] at hne
    exact ⟨h1, .inr ⟨g, cap, cur, rfl, hb, (Below.heap_setCell _ _ _ _ (fun e => hne (by rw [e]))).trans hg, hr⟩⟩
/-- A field is written behind steps that left the disk's block alone. -/
theorem RefAt.set_of {w w2 : World} {base d : Nat} {v v' : Value} {s s' : DS} (h : RefAt w base d v s) (hd : w2.heap[d]? = w.heap[d]?) (i : Nat) (u : Value) (hc : (dsCells v s).setIfInBounds i u = dsCells v' s') (ho : OwnB w2 base v' s'.file) (ok : s'.Ok) :
    RefAt (w2.setCell ⟨d, i, none⟩ u) base d v' s' := by
  have hd2 := hd.trans h.cells
  refine ⟨h.low, by rw [heap_setCell_same _ _ _ _ _ _ hd2, hc], ?_, ok⟩
  obtain ⟨h1, h2 | ⟨g, cap, cur, e, hb, hg, hr⟩⟩ := ho
  · exact ⟨h1, .inl h2⟩
  · refine ⟨h1, .inr ⟨g, cap, cur, e, hb, (Below.heap_setCell _ _ _ _ (fun e => ?_)).trans hg, hr⟩⟩
    simp only at e
    subst e
    rw [hd2] at hg
    injection hg with hg
    injection hg with _ ht
    revert ht
    decide
theorem RefAt.set2_of {w w2 : World} {base d : Nat} {v v' : Value} {s s' : DS} (h : RefAt w base d v s) (hd : w2.heap[d]? = w.heap[d]?) (i j : Nat) (u x : Value) (hc : ((dsCells v s).setIfInBounds i u).setIfInBounds j x = dsCells v' s') (ho : OwnB w2 base v' s'.file) (ok : s'.Ok) :
    RefAt ((w2.setCell ⟨d, i, none⟩ u).setCell ⟨d, j, none⟩ x) base d v' s' := by
  have hd2 := hd.trans h.cells
  refine ⟨h.low, by rw [heap_setCell_same _ _ _ _ _ _ (heap_setCell_same _ _ _ _ _ _ hd2), hc], ?_, ok⟩
  obtain ⟨h1, h2 | ⟨g, cap, cur, e, hb, hg, hr⟩⟩ := ho
  · exact ⟨h1, .inl h2⟩
  · have hgd : g ≠ d := by
      intro e
      subst e
      rw [hd2] at hg
      injection hg with hg
      injection hg with _ ht
      revert ht
      decide
    exact ⟨h1, .inr ⟨g, cap, cur, e, hb, (Below.heap_setCell _ _ _ _ hgd).trans ((Below.heap_setCell _ _ _ _ hgd).trans hg), hr⟩⟩
/-- What a method does. -/
def RPost (w : World) (base d : Nat) (v : Value) (r : Value) (s' : DS) (e : Ending) (w' : World) : Prop :=
  e = .returned r ∧ ∃ v', RefAt w' base d v' s' ∧ FrmD w w' d v.ownBlock ∧ NewOr w v v'
end Go.Proofs.Ytlopeflgleplfaa
