/-
  The walk of ReportLogs.
-/
import Derived.Test.YtkckncggiicciaaDoorRlog
import Derived.Test.YtkckncggiicciaaDoorRheavy
import Derived.Test.YtkckncggiicciaaDoorRpairs
import Derived.Test.YtkckncggiicciaaDoorRwords
import Derived.Test.YtkckncggiicciaaDoorRwk
namespace Go.Proofs.YtkckncggiicciaaDoor
open Go.RowKit
set_option maxRecDepth 100000
/-- A log that is kept. -/
structure Hd where
  term : Int
  vote : Int
  base : Int
  bt : Int
  full : Int
  wit : Int
  learn : Int
  lw : Int
def Hd.cells (h : Hd) (S : Option Addr) (sn sc : Nat) (A : Option Addr) (m c : Nat) : List Value :=
  [.int .i64 h.term, .int .i64 h.vote, .int .i64 h.base, .int .i64 h.bt, .int .i64 h.full, .int .i64 h.wit, .int .i64 h.learn, .int .i64 h.lw, .slice S sn sc, .slice A m c]
theorem Hd.at (h : Hd) (S : Option Addr) (sn sc : Nat) (A : Option Addr) (m c : Nat) : HdAt (h.cells S sn sc A m c) h.base h.bt A m c S sn sc :=
  ⟨rfl, fun v hv => by
    have : (h.cells S sn sc A m c).all (·.oneCell') = true := rfl
    exact List.all_eq_true.1 this v hv, rfl, rfl, rfl, rfl⟩
/-- The replica that has it, all else nought. -/
def Hd.raft (h : Hd) (S : Option Addr) (sn sc : Nat) (A : Option Addr) (m c : Nat) : List Value :=
  [.int .i64 0, .int .i64 h.term, .int .i64 h.vote, .int .i64 h.base, .int .i64 h.bt, .int .i64 h.full, .int .i64 h.wit, .int .i64 h.learn, .int .i64 h.lw, .slice S sn sc, .slice A m c, .int .i64 0, .int .i64 0, .int .i64 0, .int .i64 0, .int .i64 0, .int .i64 0, .int .i64 0,
  .int .i64 0, .int .i64 0, .int .i64 0, .int .i64 0, .int .i64 0, .int .i64 0, .int .i64 0, .int .i64 0, .int .i64 0, .int .i64 0, .int .i64 0, .int .i64 0, .int .i64 0, .int .i64 0, .int .i64 0, .int .i64 0, .int .i64 0, .int .i64 0, .int .i64 0, .int .i64 0, .int .i64 0, .slice none 0 0]
theorem Hd.raft_at (h : Hd) (S : Option Addr) (sn sc : Nat) (A : Option Addr) (m c : Nat) : RfAt (h.raft S sn sc A m c) 0 h.term h.base h.bt 0 0 0 (.slice A m c) :=
  ⟨rfl, fun v hv => by
    have : (h.raft S sn sc A m c).all (·.oneCell') = true := rfl
    exact List.all_eq_true.1 this v hv, rfl, rfl, rfl, rfl, rfl, rfl, rfl, rfl⟩
/-! ### Plain -/
theorem head_split (idx term : Int) : headL idx term = Lib.itoa idx ++ 32 :: Lib.itoa term := by
  unfold headL wordsL
  rw [Lib.join_cons]
  simp [Lib.joinTail]
theorem ent_split (idx : Int) (e : En) : ∃ r : List UInt8, entL idx e = Lib.itoa idx ++ 32 :: (Lib.itoa e.term ++ 32 :: r) := by
  have key : ∀ (a : List UInt8) (xs : List (List UInt8)), ∃ r, wordsL (headL idx e.term :: a :: xs) = Lib.itoa idx ++ 32 :: (Lib.itoa e.term ++ 32 :: r) := fun a xs => by
    unfold wordsL
    rw [Lib.join_cons, head_split]
    simp [Lib.joinTail]
  unfold entL
  repeat' split
  all_goals exact key _ _
theorem ent_words (idx : Int) (e : En) : ∃ r : List UInt8, splitL (entL idx e) = Lib.itoa idx :: Lib.itoa e.term :: cutW [] r := by
  obtain ⟨r, hr⟩ := ent_split idx e
  refine ⟨r, ?_⟩
  rw [hr]
  unfold splitL
  rw [cutW_word _ _ (itoa_digit idx), cutW_word _ _ (itoa_digit e.term)]
  rfl
theorem pair_a (v : Va) : pairL (⟨#[97]⟩, v) = [107, 54, 49, 32] ++ valT v := by
  have e : hexT [97] = [54, 49] := by decide
  unfold pairL wordsL
  show Lib.join [107 :: hexT [97], valT v] [32] = _
  rw [e, Lib.join_cons]
  simp [Lib.joinTail]
theorem app_head (c : UInt8) (B : ByteArray) : (⟨#[c]⟩ ++ B : ByteArray).data.toList = c :: B.data.toList := by rw [ByteArray.data_append]; simp
theorem head_ne {c : UInt8} {l : List UInt8} (h : c ≠ 63) : (c :: l == [63]) = false := by
  rw [beq_eq_false_iff_ne]
  intro e
  injection e with e _
  exact h e
theorem val_q (v : Va) : (valT v == [63]) = !decide (chkVa v = 0) := by
  unfold valT
  by_cases h : chkVa v = 0
  · rw [if_pos h, decide_eq_true h]
    unfold vtextV
    split
    · rw [app_head]
      exact head_ne (by decide)
    · split
      · obtain ⟨t, ht⟩ : ∃ t, hexT v.s.data.toList = t := ⟨_, rfl⟩
        rw [ht]
        exact head_ne (c := 116) (by decide)
      · rfl
  · rw [if_neg h, decide_eq_false h]
    rfl
theorem pair_q (v : Va) : ((⟨(pairL (⟨#[97]⟩, v)).toArray⟩ : ByteArray).toList == [107, 54, 49, 32, 63]) = (chkVa v != 0) := by
  rw [ByteArray.toList_eq]
  show (pairL (⟨#[97]⟩, v) == [107, 54, 49, 32, 63]) = _
  rw [pair_a]
  have e : ([107, 54, 49, 32] ++ valT v == [107, 54, 49, 32, 63]) = (valT v == [63]) := by
    rw [Bool.eq_iff_iff, beq_iff_eq, beq_iff_eq]
    constructor
    · intro h
      exact List.append_cancel_left (show [107, 54, 49, 32] ++ valT v = [107, 54, 49, 32] ++ [63] from h)
    · intro h
      rw [h]
      rfl
  rw [e, val_q]
  rw [Bool.eq_iff_iff]
  simp
end Go.Proofs.YtkckncggiicciaaDoor
