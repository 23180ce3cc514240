/-
  Frames one behind the other: plain mathematics; and a slice of slices of bytes that comes in.
-/
import Derived.Test.YtbhckbhdjdmgaaaUnlike
namespace Go.Proofs.Ytbhckbhdjdmgaaa
open Go.RowKit
/-- Frames one behind the other. -/
def frms (l : List (List UInt8)) : List UInt8 := l.flatMap frm
/-- Short payloads, not many. -/
def fewB (l : List (List UInt8)) : Bool := decide (l.length ≤ 60) && l.all fun p => decide (p.length ≤ 500)
theorem frms_snoc (l : List (List UInt8)) (p : List UInt8) : frms (l ++ [p]) = frms l ++ frm p := by simp [frms]
theorem frms_len (l : List (List UInt8)) (h : ∀ p ∈ l, p.length ≤ 500) : (frms l).length ≤ l.length * 509 := by
  induction l with
  | nil => simp [frms]
  | cons p l ih =>
    have h1 := h p (by simp)
    have h2 := ih fun q hq => h q (by simp [hq])
    have e : frms (p :: l) = frm p ++ frms l := by simp [frms]
    rw [e, List.length_append, frm_length, List.length_cons]
    omega
theorem scan_frms (l : List (List UInt8)) (rest : List UInt8) (h : ∀ p ∈ l, p.length ≤ 500) : scan (frms l ++ rest) = (l ++ (scan rest).1, (frms l).length + (scan rest).2) := by
  induction l with
  | nil => simp [frms]
  | cons p l ih =>
    have h1 := h p (by simp)
    have e : frms (p :: l) = frm p ++ frms l := by simp [frms]
    rw [e, List.append_assoc, scan_frm p _ (by omega), ih fun q hq => h q (by simp [hq]), List.length_append, frm_length]
    simp [Nat.add_assoc]
theorem first_mark (c : UInt8) (rest : List UInt8) (h : c ≠ 0x9d) : first (c :: rest) = none := by
  unfold first
  by_cases h9 : (c :: rest).length < 9
  · rw [if_pos h9]
  · rw [if_neg h9, if_pos (by simpa using h)]
/-- A frame that is cut off is none. -/
theorem first_cut (p rest : List UInt8) (k : Nat) (hp : p.length ≤ 16384) (hk : k < p.length + 9) : first ((frm p ++ rest).take k) = none := by
  have hl : ((frm p ++ rest).take k).length = k := by rw [List.length_take, List.length_append, frm_length]; omega
  unfold first
  by_cases h9 : k < 9
  · rw [if_pos (by omega)]
  · have hlen : (frm p).length = p.length + 9 := frm_length p
    have ht : (frm p ++ rest).take k = (frm p).take k := by rw [List.take_append_of_le_length (by omega)]
    rw [ht] at hl ⊢
    have e1 : (((frm p).take k).drop 1).take 4 = hi4 p.length := by
      rw [List.drop_take, List.take_take]
      rw [show min 4 (k - 1) = 4 by omega]
      simp [frm, hi4]
    rw [if_neg (by omega), if_neg (by rw [List.getElem?_take, if_pos (by omega)]; simp [frm]), e1, num_hi4 _ (by omega), hl, if_pos (by omega)]
end Go.Proofs.Ytbhckbhdjdmgaaa
