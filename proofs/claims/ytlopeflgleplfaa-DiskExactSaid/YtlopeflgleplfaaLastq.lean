/-
  A disk, and what lies beside it; what DiskLasts keeps, in plain Lean.
-/
import Derived.Test.YtlopeflgleplfaaReads
import Derived.Test.YtlopeflgleplfaaActs
namespace Go.Proofs.Ytlopeflgleplfaa
open Go.RowKit
theorem NewOr.apart {w : World} {v v' : Value} {k : Nat} (h : NewOr w v v') (hk : k < w.heap.size) (h1 : some k ≠ v.ownBlock) : some k ≠ v'.ownBlock := by
  rcases h with e | e | ⟨j, e, hj⟩ <;> rw [e]
  · exact h1
  · simp
  · intro e'; injection e' with e'; omega
/-- A slice of bytes beside the disk d, whose file lies in block f. -/
def ByF (w : World) (d : Nat) (f : Option Nat) (A : Option Addr) (n cap : Nat) (l : List UInt8) : Prop :=
  By w w.heap.size A n cap l ∧ (0 < n → ∀ p, A = some p → p.block ≠ d ∧ some p.block ≠ f)
/-- A block beside the disk. -/
def BlkF (w : World) (d : Nat) (f : Option Nat) (k : Nat) (o : Obj) : Prop := w.heap[k]? = some o ∧ k ≠ d ∧ some k ≠ f
/-- What a disk's method leaves alone. -/
def Stb (Q : World → Nat → Option Nat → Prop) : Prop := ∀ w w' d v v', FrmD w w' d v.ownBlock → NewOr w v v' → Q w d v.ownBlock → Q w' d v'.ownBlock
theorem stb_by (A : Option Addr) (n cap : Nat) (l : List UInt8) : Stb fun w d f => ByF w d f A n cap l := by
  intro w w' d v v' hf hn ⟨⟨h1, h2, h3, h4⟩, h5⟩
  refine ⟨⟨h1, h2, h3, fun hn0 => ?_⟩, fun hn0 p e => ?_⟩
  · obtain ⟨b, off, rfl, hb, hc⟩ := h4 hn0
    obtain ⟨k1, k2⟩ := h5 hn0 _ rfl
    exact ⟨b, off, rfl, Nat.lt_of_lt_of_le hb hf.size, fun j u hu => (World.cell?_of_block (a := ⟨b, off + j, none⟩) (hf.block b hb k1 k2)).trans (hc j u hu)⟩
  · obtain ⟨b, off, rfl, hb, hc⟩ := h4 hn0
    obtain ⟨k1, k2⟩ := h5 hn0 _ rfl
    injection e with e
    subst e
    exact ⟨k1, hn.apart hb k2⟩
theorem stb_blk (k : Nat) (o : Obj) : Stb fun w d f => BlkF w d f k o := by
  intro w w' d v v' hf hn ⟨h1, h2, h3⟩
  have hk := (Array.getElem?_eq_some_iff.1 h1).1
  exact ⟨(hf.block k hk h2 h3).trans h1, h2, hn.apart hk h3⟩
theorem Stb.and {Q R : World → Nat → Option Nat → Prop} (h : Stb Q) (k : Stb R) : Stb fun w d f => Q w d f ∧ R w d f := fun w w' d v v' hf hn ⟨a, b⟩ => ⟨h w w' d v v' hf hn a, k w w' d v v' hf hn b⟩
/-- The disk s at d, and Q of what lies beside it. -/
def DX (w0 w : World) (base d : Nat) (s : DS) (Q : World → Nat → Option Nat → Prop) : Prop := ∃ v, DiskAt w base d v s ∧ Below base w0 w ∧ Q w d v.ownBlock
section
variable {w0 w w' : World} {base d : Nat} {s s' : DS} {Q R : World → Nat → Option Nat → Prop}
theorem DX.dq (h : DX w0 w base d s Q) : DQ w0 w base d s := by
  obtain ⟨v, h1, h2, _⟩ := h
  exact ⟨v, h1, h2⟩
theorem DX.keep (h : DX w0 w base d s Q) (hQ : Stb Q) (hb : Below w.heap.size w w') : DX w0 w' base d s Q := by
  have := h.dq.size
  obtain ⟨v, h1, h2, h3⟩ := h
  exact ⟨v, h1.below hb, h2.trans (hb.mono (by omega)), hQ _ _ _ _ _ (FrmD.ofBelow hb _ _) (NewOr.refl _ _) h3⟩
theorem DX.map (h : DX w0 w base d s Q) (f : ∀ v, DiskAt w base d v s → Below base w0 w → Q w d v.ownBlock → R w d v.ownBlock) : DX w0 w base d s R := by
  obtain ⟨v, h1, h2, h3⟩ := h
  exact ⟨v, h1, h2, f v h1 h2 h3⟩
theorem DX.post {v r : Value} {e : Ending} (hQ : Stb Q) (h1 : DiskAt w base d v s) (h2 : Below base w0 w) (h3 : Q w d v.ownBlock) (p : DPost w base d v r s' e w') : e = .returned r ∧ DX w0 w' base d s' Q := by
  obtain ⟨rfl, v', q, hf, hn⟩ := p
  exact ⟨rfl, v', q, h2.trans (hf.below h1), hQ _ _ _ _ _ hf hn h3⟩
theorem DX.append (A : Option Addr) (n cap B : Nat) (l : List UInt8) (h : DX w0 w base d s Q) (hQ : Stb Q) (hb : By w B A n cap l) :
    Calls Try.prog 12 #[.pointer (some ⟨d, 0, none⟩), .slice A n cap] w fun e w' => e = .returned (.int .i64 (s.append l).1) ∧ DX w0 w' base d (s.append l).2 Q := by
  have hs := h.dq.size
  obtain ⟨v, h1, h2, h3⟩ := h
  exact (append_any base d v s A n cap B l w h1 (by omega) hb).mono fun _ _ p => DX.post hQ h1 h2 h3 p
theorem DX.replace (A : Option Addr) (n cap B : Nat) (l : List UInt8) (h : DX w0 w base d s Q) (hQ : Stb Q) (hb : By w B A n cap l) (hB : B ≤ base) :
    Calls Try.prog 21 #[.pointer (some ⟨d, 0, none⟩), .slice A n cap] w fun e w' => e = .returned (.int .i64 (s.replace l).1) ∧ DX w0 w' base d (s.replace l).2 Q := by
  have hs := h.dq.size
  obtain ⟨v, h1, h2, h3⟩ := h
  exact (replace_any base d v s A n cap B l w h1 (by omega) hb hB).mono fun _ _ p => DX.post hQ h1 h2 h3 p
theorem DX.sync (h : DX w0 w base d s Q) (hQ : Stb Q) :
    Calls Try.prog 13 #[.pointer (some ⟨d, 0, none⟩)] w fun e w' => e = .returned (.int .i64 s.sync.1) ∧ DX w0 w' base d s.sync.2 Q := by
  obtain ⟨v, h1, h2, h3⟩ := h
  exact (sync_any base d v s w h1).mono fun _ _ p => DX.post hQ h1 h2 h3 p
theorem DX.crash (keep : Int) (h : DX w0 w base d s Q) (hQ : Stb Q) :
    Calls Try.prog 19 #[.pointer (some ⟨d, 0, none⟩), .int .i64 keep] w fun e w' => e = .returned (.tuple #[]) ∧ DX w0 w' base d (s.crash keep) Q := by
  obtain ⟨v, h1, h2, h3⟩ := h
  exact (crash_any base d v s keep w h1).mono fun _ _ p => DX.post hQ h1 h2 h3 p
theorem DX.start (h : DX w0 w base d s Q) (hQ : Stb Q) :
    Calls Try.prog 15 #[.pointer (some ⟨d, 0, none⟩)] w fun e w' => e = .returned (.tuple #[]) ∧ DX w0 w' base d s.start Q := by
  obtain ⟨v, h1, h2, h3⟩ := h
  exact (start_any base d v s w h1).mono fun _ _ p => DX.post hQ h1 h2 h3 p
theorem DX.trip (n keep : Int) (h : DX w0 w base d s Q) (hQ : Stb Q) (hn : I64 n) (hk : I64 keep) :
    Calls Try.prog 11 #[.pointer (some ⟨d, 0, none⟩), .int .i64 n, .int .i64 keep] w fun e w' => e = .returned (.tuple #[]) ∧ DX w0 w' base d (s.setTrip n keep) Q := by
  obtain ⟨v, h1, h2, h3⟩ := h
  exact (trip_any base d v s n keep w h1 hn.2 hk).mono fun _ _ p => DX.post hQ h1 h2 h3 p
theorem DX.read (h : DX w0 w base d s Q) (hQ : Stb Q) :
    Calls Try.prog 16 #[.pointer (some ⟨d, 0, none⟩)] w fun e w' => DX w0 w' base d s Q ∧ ReadPost w s e w' := by
  have h' := h
  obtain ⟨v, h1, h2, h3⟩ := h
  exact (read_any base d v s w h1).mono fun _ _ p => ⟨h'.keep hQ p.1, p⟩
theorem DX.readOn (h : DX w0 w base d s Q) (hQ : Stb Q) (ho : s.off = false) {n : Nat} {l : List UInt8} (hl : s.file = l) (hn : l.length = n) :
    Calls Try.prog 16 #[.pointer (some ⟨d, 0, none⟩)] w fun e w' => DX w0 w' base d s Q ∧ Below w.heap.size w w' ∧ ∃ A cap, e = .returned (.tuple #[.slice A n cap, .int .i64 0]) ∧ OwnB w' w.heap.size (.slice A n cap) l := by
  refine (h.read hQ).mono ?_
  rintro e w' ⟨h1, h2, v, h3, h4⟩
  rw [ho] at h3 h4
  subst hl
  obtain ⟨A, c, rfl, _⟩ := own_by h4 (n := n) (by simpa using hn)
  exact ⟨h1, h2, A, c, h3, by simpa using h4⟩
theorem ByF.le {f : Option Nat} {A : Option Addr} {n cap k : Nat} {l b : List UInt8} (h : ByF w d f A n cap l) (hb : b.length = k) (hle : l.length ≤ b.length) : n ≤ k := by
  have := h.1.len
  omega
theorem ByF.ge {f : Option Nat} {A : Option Addr} {n cap k : Nat} {l b : List UInt8} (h : ByF w d f A n cap l) (hb : b.length = k) (hle : b.length ≤ l.length) : k ≤ n := by
  have := h.1.len
  omega
/-- A new row lies beside the disk. -/
theorem ByF.fresh {v : Value} {A : Option Addr} {n cap : Nat} {l : List UInt8} (h : DiskAt w base d v s) (ho : OwnB w' w.heap.size (.slice A n cap) l) (hl : l.length = n) : ByF w' d v.ownBlock A n cap l := by
  obtain ⟨A', c', e, hy⟩ := own_by ho hl
  injection e with e1 _ e3
  subst e1 e3
  refine ⟨hy, fun _ p e => ?_⟩
  subst e
  have h1 : w.heap.size ≤ p.block := by
    obtain ⟨_, ⟨e, _⟩ | ⟨g, cap', cur, e, hg, _⟩⟩ := ho
    · cases e
    · injection e with e _ _
      injection e with e
      subst e
      exact hg
  have h2 := (Array.getElem?_eq_some_iff.1 h.cells).1
  refine ⟨by omega, fun e => ?_⟩
  have := (h.file.lt _ e.symm).2
  omega
/-- What was there lies beside the disk. -/
theorem ByF.old {v : Value} {A : Option Addr} {n cap : Nat} {l : List UInt8} (h : DiskAt w base d v s) (hb : Below base w0 w) (hy : By w0 base A n cap l) : ByF w d v.ownBlock A n cap l := by
  have h2 := (Array.getElem?_eq_some_iff.1 h.cells).1
  have hlow := h.low
  refine ⟨(hy.below hb (Nat.le_refl _)).mono (by omega), fun hn p e => ?_⟩
  obtain ⟨b, off, e', hb', _⟩ := hy.2.2.2 hn
  rw [e'] at e
  injection e with e
  subst e
  refine ⟨by show b ≠ d; omega, fun e => ?_⟩
  have := (h.file.lt _ e.symm).1
  simp only at this
  omega
end
/-! ### In plain Lean -/
/-- The power is on: the file is all, and what is synced is safe. -/
structure Fine (s : DS) (ls la : List UInt8) : Prop where
  on : s.off = false
  room : s.room = 65536
  file : s.file = la
  safe : la.take s.synced = ls
/-- The power is off. -/
structure Dead (s : DS) (ls la b : List UInt8) : Prop where
  off : s.off = true
  room : s.room = 65536
  file : s.file = b
  synced : s.synced = b.length
  pre : la.take b.length = b
  least : ls.length ≤ b.length
  most : b.length ≤ la.length
section
variable {s : DS} {ls la lb : List UInt8}
theorem Fine.len (h : Fine s ls la) (ok : s.Ok) : ls.length = s.synced := by
  have h1 := ok.synced
  rw [h.file] at h1
  rw [← h.safe, List.length_take]
  omega
theorem Fine.crash (h : Fine s ls la) (ok : s.Ok) (keep : Int) : ∃ b, Dead (s.crash keep) ls la b := by
  have h1 := DS.stays_le s keep ok
  have hl := h.len ok
  rw [h.file] at h1
  have e : s.crash keep = { s with trip := 0, off := true, file := s.file.take (s.stays keep), synced := s.stays keep } := by simp [DS.crash, h.on]
  rw [e]
  refine ⟨la.take (s.stays keep), rfl, h.room, ?_, ?_, ?_, ?_, ?_⟩
  · show s.file.take _ = _
    rw [h.file]
  · show s.stays keep = _
    rw [List.length_take]; omega
  · rw [List.length_take, Nat.min_eq_left h1.2]
  · rw [List.length_take]; omega
  · rw [List.length_take]; omega
theorem Fine.count (h : Fine s ls la) : Fine s.count ls la := ⟨h.on, h.room, h.file, h.safe⟩
theorem Fine.done (h : Fine s ls la) (ok : s.Ok) (f : DS → DS) : ((s.done f).1 = 0 ∧ (s.done f).2 = f s.count) ∨ ((s.done f).1 = 4 ∧ ∃ b, Dead (s.done f).2 ls la b) := by
  unfold DS.done
  by_cases hl : s.isLast = true
  · rw [if_pos hl]
    exact .inr ⟨rfl, h.count.crash ok.count _⟩
  · rw [if_neg hl]
    exact .inl ⟨rfl, rfl⟩
theorem Fine.sync (h : Fine s ls la) (ok : s.Ok) : (s.sync.1 = 0 ∧ Fine s.sync.2 la la) ∨ (s.sync.1 = 4 ∧ ∃ b, Dead s.sync.2 ls la b) := by
  have e : s.sync = s.done fun s => { s with synced := s.file.length } := by unfold DS.sync; rw [h.on]; rfl
  rw [e]
  rcases h.done ok (fun s => { s with synced := s.file.length }) with ⟨h1, h2⟩ | h1
  · refine .inl ⟨h1, ?_⟩
    rw [h2]
    refine ⟨h.on, h.room, h.file, ?_⟩
    show la.take s.file.length = la
    rw [h.file]
    simp
  · exact .inr h1
theorem Fine.replace (h : Fine s ls la) (ok : s.Ok) : ((s.replace lb).1 = 0 ∧ Fine (s.replace lb).2 lb lb) ∨ ((s.replace lb).1 = 4 ∧ ∃ b, Dead (s.replace lb).2 ls la b) ∨ ((s.replace lb).1 = 5 ∧ Fine (s.replace lb).2 ls la) := by
  by_cases hb : s.room < lb.length
  · have e : s.replace lb = (5, s) := by simp [DS.replace, h.on, hb]
    rw [e]
    exact .inr (.inr ⟨rfl, h⟩)
  · have e : s.replace lb = s.done fun s => { s with file := lb, synced := lb.length } := by unfold DS.replace; rw [h.on, if_neg (by simp), if_neg hb]
    rw [e]
    rcases h.done ok (fun s => { s with file := lb, synced := lb.length }) with ⟨h1, h2⟩ | h1
    · refine .inl ⟨h1, ?_⟩
      rw [h2]
      exact ⟨h.on, h.room, rfl, by simp⟩
    · exact .inr (.inl h1)
theorem Fine.append (h : Fine s ls la) (ok : s.Ok) : ((s.append lb).1 = 0 ∧ Fine (s.append lb).2 ls (la ++ lb)) ∨ ((s.append lb).1 = 4 ∧ ∃ b, Dead (s.append lb).2 ls (la ++ lb) b) ∨ ((s.append lb).1 = 5 ∧ Fine (s.append lb).2 ls la) := by
  by_cases hb : s.room < s.file.length + lb.length
  · have e : s.append lb = (5, s) := by simp [DS.append, h.on, hb]
    rw [e]
    exact .inr (.inr ⟨rfl, h⟩)
  · have e : s.append lb = DS.done { s with file := s.file ++ lb } id := by unfold DS.append; rw [h.on, if_neg (by simp), if_neg hb]
    rw [e]
    have hs := ok.synced
    have h' : Fine { s with file := s.file ++ lb } ls (la ++ lb) := by
      refine ⟨h.on, h.room, by show s.file ++ lb = _; rw [h.file], ?_⟩
      show (la ++ lb).take s.synced = ls
      rw [← h.safe, List.take_append_of_le_length]
      rw [← h.file]
      exact hs
    have ok' : DS.Ok { s with file := s.file ++ lb } := ⟨ok.room, by show (s.file ++ lb).length ≤ s.room; rw [List.length_append]; omega, by show s.synced ≤ (s.file ++ lb).length; rw [List.length_append]; omega, ok.trip, ok.keep⟩
    rcases h'.done ok' id with ⟨h1, h2⟩ | h1
    · refine .inl ⟨h1, ?_⟩
      rw [h2]
      exact h'.count
    · exact .inr (.inl h1)
theorem Fine.trip (h : Fine s ls la) (n keep : Int) : Fine (s.setTrip n keep) ls la := by
  have e : s.setTrip n keep = { s with trip := (max n 0).toNat, keep := keep } := by simp [DS.setTrip, h.on]
  rw [e]
  exact ⟨h.on, h.room, h.file, h.safe⟩
theorem Fine.start (h : Fine s ls la) : Fine s.start ls la := ⟨rfl, h.room, h.file, h.safe⟩
theorem Dead.start (h : Dead s ls la lb) : Fine s.start lb lb := ⟨rfl, h.room, h.file, by show lb.take s.synced = lb; rw [h.synced]; simp⟩
end
end Go.Proofs.Ytlopeflgleplfaa
