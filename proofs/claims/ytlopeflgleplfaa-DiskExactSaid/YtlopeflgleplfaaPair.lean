/-
  A disk and the page's disk beside it, and blocks that stay.
-/
import Derived.Test.YtlopeflgleplfaaRput
import Derived.Test.YtlopeflgleplfaaHeavy
namespace Go.Proofs.Ytlopeflgleplfaa
open Go.RowKit
/-- The disk s at d, the page's disk t at r; the blocks K lie apart from both. -/
structure PX (w0 w : World) (base d : Nat) (s : DS) (v : Value) (r : Nat) (t : DS) (u : Value) (K : Nat → Prop) : Prop where
  dk : DiskAt w base d v s
  rf : RefAt w base r u t
  below : Below base w0 w
  ap : ∀ g, u.ownBlock = some g → v.ownBlock ≠ some g
  kept : ∀ k, K k → k < w.heap.size ∧ base ≤ k ∧ k ≠ d ∧ v.ownBlock ≠ some k ∧ k ≠ r ∧ u.ownBlock ≠ some k
def PQ (w0 w : World) (base d : Nat) (s : DS) (r : Nat) (t : DS) (K : Nat → Prop) : Prop := ∃ v u, PX w0 w base d s v r t u K
/-- These blocks have stayed. -/
def Kp (K : Nat → Prop) (w w' : World) : Prop := w.heap.size ≤ w'.heap.size ∧ ∀ k, K k → w'.heap[k]? = w.heap[k]?
section
variable {w0 w w' : World} {base d r : Nat} {s s' t t' : DS} {v u : Value} {K K' : Nat → Prop}
theorem PX.ne (h : PX w0 w base d s v r t u K) : d ≠ r := by
  intro e
  have h1 := h.dk.cells
  have h2 := h.rf.cells
  rw [e, h2] at h1
  injection h1 with h1
  injection h1 with _ h1
  revert h1
  decide
theorem NewOr.not {v v' : Value} {k : Nat} (h : NewOr w v v') (hk : k < w.heap.size) (h1 : v.ownBlock ≠ some k) : v'.ownBlock ≠ some k := fun e => h.apart hk (fun e => h1 e.symm) e.symm
theorem PX.disk {x : Value} {e : Ending} (h : PX w0 w base d s v r t u K) (p : DPost w base d v x s' e w') : e = .returned x ∧ PQ w0 w' base d s' r t K ∧ Kp K w w' := by
  obtain ⟨rfl, v', q, hf, hn⟩ := p
  have hne := h.ne
  have hrs := (Array.getElem?_eq_some_iff.1 h.rf.cells).1
  have hvr := own_ne_ref h.dk.file h.rf
  refine ⟨rfl, ⟨v', u, q, ⟨h.rf.low, ?_, ?_, h.rf.ok⟩, h.below.trans (hf.below h.dk), ?_, ?_⟩, hf.size, ?_⟩
  · exact (hf.block r hrs (fun e => hne e.symm) (fun e => hvr e.symm)).trans h.rf.cells
  · refine OwnB.frm h.rf.file h.dk hf ?_
    cases hu : u.ownBlock with
    | none => exact .inl rfl
    | some g => exact .inr fun e => h.ap g hu e.symm
  · intro g hg
    exact hn.not (h.rf.file.lt g hg).2 (h.ap g hg)
  · intro k hk
    obtain ⟨h1, h2, h3, h4, h5, h6⟩ := h.kept k hk
    exact ⟨Nat.lt_of_lt_of_le h1 hf.size, h2, h3, hn.not h1 h4, h5, h6⟩
  · intro k hk
    obtain ⟨h1, h2, h3, h4, h5, h6⟩ := h.kept k hk
    exact hf.block k h1 h3 (fun e => h4 e.symm)
theorem PX.ref {x : Value} {e : Ending} (h : PX w0 w base d s v r t u K) (p : RPost w base r u x t' e w') : e = .returned x ∧ PQ w0 w' base d s r t' K ∧ Kp K w w' := by
  obtain ⟨rfl, u', q, hf, hn⟩ := p
  have hne := h.ne
  have hds := (Array.getElem?_eq_some_iff.1 h.dk.cells).1
  have hud := own_ne_disk h.rf.file h.dk
  refine ⟨rfl, ⟨v, u', ⟨h.dk.low, ?_, ?_, h.dk.ok⟩, q, h.below.trans (hf.belowR h.rf), ?_, ?_⟩, hf.size, ?_⟩
  · exact (hf.block d hds hne (fun e => hud e.symm)).trans h.dk.cells
  · refine OwnB.frmR h.dk.file h.rf hf ?_
    cases hv : v.ownBlock with
    | none => exact .inl rfl
    | some g => exact .inr fun e => h.ap g e.symm hv
  · intro g hg hv
    exact hn.not (h.dk.file.lt g hv).2 (fun e => h.ap g e hv) hg
  · intro k hk
    obtain ⟨h1, h2, h3, h4, h5, h6⟩ := h.kept k hk
    exact ⟨Nat.lt_of_lt_of_le h1 hf.size, h2, h3, h4, h5, hn.not h1 h6⟩
  · intro k hk
    obtain ⟨h1, h2, h3, h4, h5, h6⟩ := h.kept k hk
    exact hf.block k h1 h5 (fun e => h6 e.symm)
theorem PQ.size (h : PQ w0 w base d s r t K) : base < w.heap.size := by
  obtain ⟨v, u, h⟩ := h
  have := (Array.getElem?_eq_some_iff.1 h.dk.cells).1
  have := h.dk.low
  omega
theorem PQ.below (h : PQ w0 w base d s r t K) : Below base w0 w := by
  obtain ⟨v, u, h⟩ := h
  exact h.below
/-- New blocks. -/
theorem PQ.more (h : PQ w0 w base d s r t K) (hb : Below w.heap.size w w') (hK : ∀ k, K' k → K k ∨ (w.heap.size ≤ k ∧ k < w'.heap.size)) : PQ w0 w' base d s r t K' := by
  have hs := h.size
  obtain ⟨v, u, h⟩ := h
  refine ⟨v, u, h.dk.below hb, h.rf.below hb, h.below.trans (hb.mono (by omega)), h.ap, fun k hk => ?_⟩
  rcases hK k hk with h1 | ⟨h1, h2⟩
  · obtain ⟨h1, h2⟩ := h.kept k h1
    exact ⟨Nat.lt_of_lt_of_le h1 hb.size, h2⟩
  · have hd := (Array.getElem?_eq_some_iff.1 h.dk.cells).1
    have hr := (Array.getElem?_eq_some_iff.1 h.rf.cells).1
    refine ⟨h2, by omega, by omega, fun e => ?_, by omega, fun e => ?_⟩
    · have := (h.dk.file.lt _ e).2; omega
    · have := (h.rf.file.lt _ e).2; omega
theorem PQ.keep (h : PQ w0 w base d s r t K) (hb : Below w.heap.size w w') : PQ w0 w' base d s r t K := h.more hb fun _ h => .inl h
/-- A block that is kept apart is written. -/
theorem PQ.grown {row : Option Nat} (h : PQ w0 w base d s r t K) (hg : w.grownBy w' row) (hr : ∀ k, row = some k → K k) : PQ w0 w' base d s r t K := by
  have hs := h.size
  obtain ⟨v, u, h⟩ := h
  have hd := (Array.getElem?_eq_some_iff.1 h.dk.cells).1
  have hrs := (Array.getElem?_eq_some_iff.1 h.rf.cells).1
  have own : ∀ {x : Value} {l : List UInt8}, OwnB w base x l → (∀ k, K k → x.ownBlock ≠ some k) → OwnB w' base x l := by
    intro x l ho hx
    obtain ⟨h3, h4 | ⟨g, cap, cur, e, hb, hgc, hr'⟩⟩ := ho
    · exact ⟨h3, .inl h4⟩
    · subst e
      refine ⟨h3, .inr ⟨g, cap, cur, rfl, hb, (hg.block g (Array.getElem?_eq_some_iff.1 hgc).1 (fun e => ?_)).trans hgc, hr'⟩⟩
      exact hx g (hr g e.symm) rfl
  refine ⟨v, u, ⟨h.dk.low, ?_, own h.dk.file fun k hk => (h.kept k hk).2.2.2.1, h.dk.ok⟩, ⟨h.rf.low, ?_, own h.rf.file fun k hk => (h.kept k hk).2.2.2.2.2, h.rf.ok⟩, ?_, h.ap, fun k hk => ?_⟩
  · exact (hg.block d hd (fun e => (h.kept d (hr d e.symm)).2.2.1 rfl)).trans h.dk.cells
  · exact (hg.block r hrs (fun e => (h.kept r (hr r e.symm)).2.2.2.2.1 rfl)).trans h.rf.cells
  · exact h.below.grown hg (Nat.le_of_lt hs) fun k hk => (h.kept k (hr k hk)).2.1
  · obtain ⟨h1, h2⟩ := h.kept k hk
    exact ⟨Nat.lt_of_lt_of_le h1 hg.size, h2⟩
/-- What lies below is not read otherwise behind a step. -/
def Step (w0 w : World) (base d : Nat) (s' : DS) (r : Nat) (t' : DS) (K : Nat → Prop) (x : Value) (e : Ending) (w' : World) : Prop := e = .returned x ∧ PQ w0 w' base d s' r t' K ∧ Kp K w w'
theorem PQ.append (A : Option Addr) (n cap B : Nat) (l : List UInt8) (h : PQ w0 w base d s r t K) (hb : By w B A n cap l) :
    Calls Try.prog 12 #[.pointer (some ⟨d, 0, none⟩), .slice A n cap] w (Step w0 w base d (s.append l).2 r t K (.int .i64 (s.append l).1)) := by
  have hs := h.size
  obtain ⟨v, u, h⟩ := h
  exact (append_any base d v s A n cap B l w h.dk (by omega) hb).mono fun _ _ p => h.disk p
theorem PQ.rappend (A : Option Addr) (n cap B : Nat) (l : List UInt8) (h : PQ w0 w base d s r t K) (hb : By w B A n cap l) (hB : B ≤ w.heap.size) (hm : n ≤ 2000) :
    Calls Try.prog 32 #[.pointer (some ⟨r, 0, none⟩), .slice A n cap] w (Step w0 w base d s r (t.append l).2 K (.int .i64 (t.append l).1)) := by
  have hs := h.size
  obtain ⟨v, u, h⟩ := h
  exact (rappend_any base r u t A n cap B l w h.rf (by omega) hb hB (by omega)).mono fun _ _ p => h.ref p
/-- The bytes lie in a block that is kept. -/
theorem PQ.replace (A : Option Addr) (n cap : Nat) (l : List UInt8) (h : PQ w0 w base d s r t K) (hb : By w w.heap.size A n cap l) (hK : 0 < n → ∀ p, A = some p → K p.block) :
    Calls Try.prog 21 #[.pointer (some ⟨d, 0, none⟩), .slice A n cap] w (Step w0 w base d (s.replace l).2 r t K (.int .i64 (s.replace l).1)) := by
  have hs := h.size
  obtain ⟨v, u, h⟩ := h
  refine (replace_anyF base d v s A n cap l w h.dk (by omega) fun w3 hf => ?_).mono fun _ _ p => h.disk p
  exact (stb_by A n cap l w w3 d v v hf (NewOr.refl _ _) ⟨hb, fun hn p e => ⟨(h.kept _ (hK hn p e)).2.2.1, fun e' => (h.kept _ (hK hn p e)).2.2.2.1 e'.symm⟩⟩).1
theorem PQ.rreplace (A : Option Addr) (n cap B : Nat) (l : List UInt8) (h : PQ w0 w base d s r t K) (hb : By w B A n cap l) (hB : B ≤ base) (hm : n ≤ 2000) :
    Calls Try.prog 28 #[.pointer (some ⟨r, 0, none⟩), .slice A n cap] w (Step w0 w base d s r (t.replace l).2 K (.int .i64 (t.replace l).1)) := by
  have hs := h.size
  obtain ⟨v, u, h⟩ := h
  exact (rreplace_any base r u t A n cap B l w h.rf (by omega) hb hB (by omega)).mono fun _ _ p => h.ref p
theorem PQ.sync (h : PQ w0 w base d s r t K) :
    Calls Try.prog 13 #[.pointer (some ⟨d, 0, none⟩)] w (Step w0 w base d s.sync.2 r t K (.int .i64 s.sync.1)) := by
  obtain ⟨v, u, h⟩ := h
  exact (sync_any base d v s w h.dk).mono fun _ _ p => h.disk p
theorem PQ.rsync (h : PQ w0 w base d s r t K) :
    Calls Try.prog 27 #[.pointer (some ⟨r, 0, none⟩)] w (Step w0 w base d s r t.sync.2 K (.int .i64 t.sync.1)) := by
  obtain ⟨v, u, h⟩ := h
  exact (rsync_any base r u t w h.rf).mono fun _ _ p => h.ref p
theorem PQ.crash (keep : Int) (h : PQ w0 w base d s r t K) :
    Calls Try.prog 19 #[.pointer (some ⟨d, 0, none⟩), .int .i64 keep] w (Step w0 w base d (s.crash keep) r t K (.tuple #[])) := by
  obtain ⟨v, u, h⟩ := h
  exact (crash_any base d v s keep w h.dk).mono fun _ _ p => h.disk p
theorem PQ.rcrash (keep : Int) (h : PQ w0 w base d s r t K) :
    Calls Try.prog 30 #[.pointer (some ⟨r, 0, none⟩), .int .i64 keep] w (Step w0 w base d s r (t.crash keep) K (.tuple #[])) := by
  obtain ⟨v, u, h⟩ := h
  exact (rcrash_any base r u t keep w h.rf).mono fun _ _ p => h.ref p
theorem PQ.start (h : PQ w0 w base d s r t K) :
    Calls Try.prog 15 #[.pointer (some ⟨d, 0, none⟩)] w (Step w0 w base d s.start r t K (.tuple #[])) := by
  obtain ⟨v, u, h⟩ := h
  exact (start_any base d v s w h.dk).mono fun _ _ p => h.disk p
theorem PQ.rstart (h : PQ w0 w base d s r t K) :
    Calls Try.prog 31 #[.pointer (some ⟨r, 0, none⟩)] w (Step w0 w base d s r t.start K (.tuple #[])) := by
  obtain ⟨v, u, h⟩ := h
  exact (rstart_any base r u t w h.rf).mono fun _ _ p => h.ref p
theorem PQ.trip (n keep : Int) (h : PQ w0 w base d s r t K) (hn : I64 n) (hk : I64 keep) :
    Calls Try.prog 11 #[.pointer (some ⟨d, 0, none⟩), .int .i64 n, .int .i64 keep] w (Step w0 w base d (s.setTrip n keep) r t K (.tuple #[])) := by
  obtain ⟨v, u, h⟩ := h
  exact (trip_any base d v s n keep w h.dk hn.2 hk).mono fun _ _ p => h.disk p
theorem PQ.rtrip (n keep : Int) (h : PQ w0 w base d s r t K) (hn : I64 n) (hk : I64 keep) :
    Calls Try.prog 29 #[.pointer (some ⟨r, 0, none⟩), .int .i64 n, .int .i64 keep] w (Step w0 w base d s r (t.setTrip n keep) K (.tuple #[])) := by
  obtain ⟨v, u, h⟩ := h
  exact (rtrip_any base r u t n keep w h.rf hn.2 hk).mono fun _ _ p => h.ref p
end
end Go.Proofs.Ytlopeflgleplfaa
