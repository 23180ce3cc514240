/-
  Entries of a log; their lines: in plain Lean, and in memory.
-/
import Derived.Test.YtkckncggiicciaaDoorRrepl
import Derived.Test.YtkckncggiicciaaDoorVal
namespace Go.Proofs.YtkckncggiicciaaDoor
open Go.RowKit
set_option maxRecDepth 100000
/-- An entry. -/
structure En where
  term : Int
  kind : Int
  client : Int
  seq : Int
  ck : Int
  key : ByteArray
  old : Va
  val : Va
  full : Int
  wit : Int
  learn : Int
  lw : Int
def En.cells (e : En) : List Value := [.int .i64 e.term, .int .i64 e.kind, .int .i64 e.client, .int .i64 e.seq, .int .i64 e.ck, .string e.key, .int .i64 e.old.k, .float .f64 e.old.x, .string e.old.s, .int .i64 e.val.k, .float .f64 e.val.x, .string e.val.s, .int .i64 e.full, .int .i64 e.wit, .int .i64 e.learn, .int .i64 e.lw]
theorem En.cells_len (e : En) : e.cells.length = 16 := rfl
theorem En.cells_one (e : En) : ∀ v ∈ e.cells, v.oneCell' = true := by
  intro v hv
  have : e.cells.all (·.oneCell') = true := rfl
  exact List.all_eq_true.1 this v hv
/-- Its numbers are of 64 bits. -/
structure En.In (e : En) : Prop where
  term : In64 e.term
  client : In64 e.client
  seq : In64 e.seq
  full : In64 e.full
  wit : In64 e.wit
  learn : In64 e.learn
  lw : In64 e.lw
theorem size16 : (Tryd.prog.info? 64).map (·.size) = some 16 := by kernel_rfl
/-- An entry's line. -/
def headL (idx term : Int) : List UInt8 := wordsL [Lib.itoa idx, Lib.itoa term]
def entL (idx : Int) (e : En) : List UInt8 :=
  if e.kind = 0 then wordsL [headL idx e.term, [110, 111, 110, 101]]
  else if e.kind = 1 then wordsL [headL idx e.term, [99, 97, 108, 108], Lib.itoa e.client, Lib.itoa e.seq]
  else if e.kind = 2 then wordsL [headL idx e.term, [99, 111, 110, 102], Lib.itoa e.full, Lib.itoa e.wit, Lib.itoa e.learn, Lib.itoa e.lw]
  else wordsL [headL idx e.term, [63]]
def e0 : En := ⟨0, 0, 0, 0, 0, ⟨#[]⟩, ⟨0, 0, ⟨#[]⟩⟩, ⟨0, 0, ⟨#[]⟩⟩, 0, 0, 0, 0⟩
/-- The first lines of a log. -/
def logL (base : Int) (es : List En) (n : Nat) : List (List UInt8) := (List.range n).map fun (i : Nat) => entL (base + i + 1) (es.getD i e0)
theorem logL_succ (base : Int) (es : List En) (n : Nat) : logL base es (n + 1) = logL base es n ++ [entL (base + n + 1) (es.getD n e0)] := by
  unfold logL
  rw [List.range_succ, List.map_append]
  rfl
theorem logL_len (base : Int) (es : List En) (n : Nat) : (logL base es n).length = n := by simp [logL]
theorem headL_len {idx term : Int} (h1 : In64 idx) (h2 : In64 term) : (headL idx term).length ≤ 43 := by
  have q1 := Lib.itoa_length_le _ h1.1 h1.2
  have q2 := Lib.itoa_length_le _ h2.1 h2.2
  unfold headL wordsL
  rw [Lib.join_cons]
  simp [Lib.joinTail]
  omega
theorem entL_len {idx : Int} {e : En} (h1 : In64 idx) (h : e.In) : (entL idx e).length ≤ 1000 := by
  have q0 := headL_len h1 h.term
  have q1 := Lib.itoa_length_le _ h.client.1 h.client.2
  have q2 := Lib.itoa_length_le _ h.seq.1 h.seq.2
  have q3 := Lib.itoa_length_le _ h.full.1 h.full.2
  have q4 := Lib.itoa_length_le _ h.wit.1 h.wit.2
  have q5 := Lib.itoa_length_le _ h.learn.1 h.learn.2
  have q6 := Lib.itoa_length_le _ h.lw.1 h.lw.2
  unfold entL wordsL
  repeat' split
  all_goals
    rw [Lib.join_cons]
    simp [Lib.joinTail]
    omega
/-- A row of entries, read. -/
def EnRows (w : World) (B : Nat) (A : Option Addr) (m c : Nat) (es : List En) : Prop := Rd w B 16 A m c (es.map En.cells).flatten
theorem en_row {w : World} {B m c : Nat} {A : Option Addr} {es : List En} (h : EnRows w B A m c es) (hl : es.length = m) {k : Nat} (hk : k < m) :
    ∃ b off e, A = some ⟨b, off, none⟩ ∧ b < B ∧ es[k]? = some e ∧ es.getD k e0 = e ∧ e ∈ es ∧ w.rangeAt b (off + k * 16) e.cells := by
  obtain ⟨b, off, x, h1, h2, h3, h4, h5⟩ := rd_row (xss := es.map En.cells) h (fun x hx => by
    obtain ⟨e, _, rfl⟩ := List.mem_map.1 hx
    exact e.cells_len) (by rw [List.length_map]; exact hl) hk
  rw [List.getElem?_map] at h3
  cases hq : es[k]? with
  | none => rw [hq] at h3; cases h3
  | some e =>
    rw [hq] at h3
    injection h3 with h3
    subst h3
    exact ⟨b, off, e, h1, h2, rfl, by simp [List.getD, hq], List.mem_of_getElem? hq, h5⟩
end Go.Proofs.YtkckncggiicciaaDoor
