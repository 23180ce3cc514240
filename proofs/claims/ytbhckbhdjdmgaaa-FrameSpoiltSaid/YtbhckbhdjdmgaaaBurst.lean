/-
  A burst of 32 bits within a payload: which frame begins there? Plain mathematics.
-/
import Derived.Test.YtbhckbhdjdmgaaaMath
namespace Go.Proofs.Ytbhckbhdjdmgaaa
/-- Has a byte been turned? -/
def turn (X : Nat) : Nat → Bool
  | 0 => false
  | i + 1 => turn X i || (Fr.byt X i != 0)
/-- A burst from k on, its first i bytes. -/
def dl (L k i X : Nat) : List UInt8 := List.replicate k 0 ++ Fr.byts X i ++ List.replicate (L - k - i) 0
def spl (f : List UInt8) (k X i : Nat) : List UInt8 := List.zipWith (· ^^^ ·) f (dl f.length k i X)
theorem dl_length (L k i X : Nat) (h : k + i ≤ L) : (dl L k i X).length = L := by simp [dl, Fr.byts_length]; omega
theorem spl_length (f : List UInt8) (k X i : Nat) (h : k + i ≤ f.length) : (spl f k X i).length = f.length := by simp [spl, dl_length _ _ _ _ h]
theorem zip_zero : ∀ f : List UInt8, List.zipWith (· ^^^ ·) f (List.replicate f.length 0) = f
  | [] => rfl
  | c :: f => by simp only [List.length_cons, List.replicate_succ, List.zipWith_cons_cons, zip_zero f, UInt8.xor_zero]
theorem byts_get (X m j : Nat) (h : j < m) : (Fr.byts X m)[j]? = some (Fr.byt X j) := by simp [Fr.byts, h]
theorem dl_get (L k i X j : Nat) (h : k + i ≤ L) : (dl L k i X)[j]? = if j < k then some 0 else if j < k + i then some (Fr.byt X (j - k)) else if j < L then some 0 else none := by
  unfold dl
  by_cases h1 : j < k
  · rw [if_pos h1, List.append_assoc, List.getElem?_append_left (by simp; omega)]
    simp [h1]
  · rw [if_neg h1]
    by_cases h2 : j < k + i
    · rw [if_pos h2, List.getElem?_append_left (by simp [Fr.byts_length]; omega), List.getElem?_append_right (by simp; omega)]
      simp only [List.length_replicate]
      exact byts_get _ _ _ (by omega)
    · rw [if_neg h2, List.getElem?_append_right (by simp [Fr.byts_length]; omega)]
      simp only [List.length_append, List.length_replicate, Fr.byts_length, List.getElem?_replicate]
      by_cases h3 : j < L
      · rw [if_pos h3, if_pos (by omega)]
      · rw [if_neg h3, if_neg (by omega)]
theorem spl_zero (f : List UInt8) (k X : Nat) (hk : k ≤ f.length) : spl f k X 0 = f := by
  unfold spl
  have e : dl f.length k 0 X = List.replicate f.length (0 : UInt8) := by
    apply List.ext_getElem?
    intro j
    rw [dl_get _ _ _ _ _ (by omega), List.getElem?_replicate]
    by_cases h1 : j < k
    · rw [if_pos h1, if_pos (by omega)]
    · rw [if_neg h1, if_neg (by omega)]
  rw [e, zip_zero]
theorem spl_succ (f : List UInt8) (k X i : Nat) (h : k + i < f.length) (c : UInt8) (hc : (spl f k X i)[k + i]? = some c) : spl f k X (i + 1) = (spl f k X i).set (k + i) (c ^^^ Fr.byt X i) := by
  have hd : (dl f.length k i X)[k + i]? = some 0 := by
    rw [dl_get _ _ _ _ _ (by omega), if_neg (by omega), if_neg (by omega), if_pos h]
  have hfc : f[k + i]? = some c := by
    unfold spl at hc
    rw [List.getElem?_zipWith, hd, List.getElem?_eq_getElem h] at hc
    rw [List.getElem?_eq_getElem h]
    simpa using hc
  apply List.ext_getElem?
  intro j
  rw [List.getElem?_set, spl_length _ _ _ _ (by omega)]
  by_cases hj : k + i = j
  · subst hj
    rw [if_pos rfl, if_pos h]
    unfold spl
    rw [List.getElem?_zipWith, hfc, dl_get _ _ _ _ _ (by omega), if_neg (by omega), if_pos (by omega)]
    simp
  · rw [if_neg hj]
    unfold spl
    rw [List.getElem?_zipWith, List.getElem?_zipWith, dl_get _ _ _ _ _ (by omega), dl_get _ _ _ _ _ (by omega)]
    by_cases h1 : j < k
    · rw [if_pos h1, if_pos h1]
    · rw [if_neg h1, if_neg h1]
      by_cases h2 : j < k + i
      · rw [if_pos h2, if_pos (by omega)]
      · rw [if_neg h2, if_neg (by omega)]
theorem turn_false {X : Nat} : ∀ {i : Nat}, turn X i = false → ∀ j, j < i → Fr.byt X j = 0
  | 0, _, j, hj => by omega
  | i + 1, h, j, hj => by
    simp only [turn, Bool.or_eq_false_iff] at h
    by_cases e : j = i
    · subst e; simpa using h.2
    · exact turn_false h.1 j (by omega)
theorem turn_of {X : Nat} : ∀ {i : Nat}, (∀ j, j < i → Fr.byt X j = 0) → turn X i = false
  | 0, _ => rfl
  | i + 1, h => by
    simp only [turn, Bool.or_eq_false_iff]
    exact ⟨turn_of fun j hj => h j (by omega), by simp [h i (by omega)]⟩
theorem dl_zeros (L k i X : Nat) (h : k + i ≤ L) (h0 : ∀ j, j < i → Fr.byt X j = 0) : dl L k i X = List.replicate L 0 := by
  apply List.ext_getElem?
  intro j
  rw [dl_get _ _ _ _ _ h, List.getElem?_replicate]
  by_cases h1 : j < k
  · rw [if_pos h1, if_pos (by omega)]
  · rw [if_neg h1]
    by_cases h2 : j < k + i
    · rw [if_pos h2, if_pos (by omega), h0 _ (by omega)]
    · rw [if_neg h2]
theorem crc_dl (L k i X : Nat) (h : Fr.crc 0#32 (dl L k i X) = 0#32) : Fr.crc 0#32 (Fr.byts X i) = 0#32 := by
  unfold dl at h
  rw [Fr.crc_append, Fr.crc_append, Fr.crc_zeros] at h
  exact Fr.crc_zeros_inj _ _ h
theorem spl_frm (p : List UInt8) (n T X i : Nat) (hp : p.length = n) : spl (frm p) (9 + T) X i = 0x9d :: (hi4 n ++ hi4 (Fr.sum (hi4 n ++ p)).toNat ++ spl p T X i) := by
  have hd : dl (frm p).length (9 + T) i X = List.replicate 9 0 ++ dl p.length T i X := by
    unfold dl
    rw [frm_length, show List.replicate (9 + T) (0 : UInt8) = List.replicate 9 0 ++ List.replicate T 0 from (List.replicate_append_replicate).symm]
    simp only [List.append_assoc]
    congr 4
    omega
  have hfr : frm p = (0x9d :: (hi4 n ++ hi4 (Fr.sum (hi4 n ++ p)).toNat)) ++ p := by rw [← hp]; simp [frm]
  unfold spl
  rw [hd, hfr, List.zipWith_append (by simp [hi4])]
  have e : List.zipWith (· ^^^ ·) (0x9d :: (hi4 n ++ hi4 (Fr.sum (hi4 n ++ p)).toNat)) (List.replicate 9 0) = 0x9d :: (hi4 n ++ hi4 (Fr.sum (hi4 n ++ p)).toNat) := by
    have := zip_zero (0x9d :: (hi4 n ++ hi4 (Fr.sum (hi4 n ++ p)).toNat))
    rw [show (0x9d :: (hi4 n ++ hi4 (Fr.sum (hi4 n ++ p)).toNat) : List UInt8).length = 9 by simp [hi4]] at this
    exact this
  rw [e]
  simp
theorem first_spl (p : List UInt8) (n T b2 S i : Nat) (hp : p.length = n) (hn : n ≤ 16384) (hS : S < 8) (hb : b2 ≤ 4294967295) (hTi : T + i ≤ n) (hi : i ≤ 5) :
    first (spl (frm p) (9 + T) (b2 * 2 ^ S) i) = if turn (b2 * 2 ^ S) i then none else some (p, n + 9) := by
  have hq : (spl p T (b2 * 2 ^ S) i).length = n := by rw [spl_length _ _ _ _ (by omega), hp]
  obtain ⟨P, hP⟩ : ∃ P, spl p T (b2 * 2 ^ S) i = P := ⟨_, rfl⟩
  obtain ⟨M, hM⟩ : ∃ M, (Fr.sum (hi4 n ++ p)).toNat = M := ⟨_, rfl⟩
  have hMlt : M < 4294967296 := by rw [← hM]; exact BitVec.isLt _
  rw [spl_frm p n T _ i hp, hP, hM]
  rw [hP] at hq
  have e1 : ((0x9d :: (hi4 n ++ hi4 M ++ P)).drop 1).take 4 = hi4 n := by simp [hi4]
  have e5 : ((0x9d :: (hi4 n ++ hi4 M ++ P)).drop 5).take 4 = hi4 M := by simp [hi4]
  have e9 : ((0x9d :: (hi4 n ++ hi4 M ++ P)).drop 9).take n = P := by
    rw [show (0x9d :: (hi4 n ++ hi4 M ++ P)).drop 9 = P by simp [hi4]]
    exact List.take_of_length_le (by omega)
  have hl : (0x9d :: (hi4 n ++ hi4 M ++ P)).length = n + 9 := by simp [hi4, hq]
  have hnum := num_hi4 n (by omega)
  unfold first
  rw [e1, e5, hnum, e9, hl, if_neg (by omega), if_neg (by simp), if_neg (by omega), num_hi4 M hMlt]
  cases ht : turn (b2 * 2 ^ S) i
  · have hPp : P = p := by
      rw [← hP]
      unfold spl
      rw [dl_zeros _ _ _ _ (by omega) (turn_false ht), zip_zero]
    subst hPp
    rw [if_neg (by simp [hM]), Nat.add_comm]
    rfl
  · rw [if_pos]
    · rfl
    · intro hsum
      have h1 : Fr.sum (hi4 n ++ P) = Fr.sum (hi4 n ++ p) := BitVec.eq_of_toNat_eq (by rw [hsum, hM])
      have h2 : Fr.crc (Fr.crc (~~~ 0#32) (hi4 n)) P = Fr.crc (Fr.crc (~~~ 0#32) (hi4 n)) p := by
        unfold Fr.sum at h1
        rw [Fr.crc_append, Fr.crc_append] at h1
        have := congrArg (fun x => ~~~ x) h1
        simpa using this
      have h3 := Fr.crc_diff p (dl p.length T i (b2 * 2 ^ S)) (Fr.crc (~~~ 0#32) (hi4 n)) 0#32 (dl_length _ _ _ _ (by omega)).symm
      have h4 : List.zipWith (· ^^^ ·) p (dl p.length T i (b2 * 2 ^ S)) = P := hP
      rw [h4, BitVec.xor_zero, h2] at h3
      have h5 : Fr.crc 0#32 (dl p.length T i (b2 * 2 ^ S)) = 0#32 := by
        have := congrArg (fun x => Fr.crc (Fr.crc (~~~ 0#32) (hi4 n)) p ^^^ x) h3
        simp only [BitVec.xor_self, ← BitVec.xor_assoc, BitVec.zero_xor] at this
        exact this.symm
      have h6 := Fr.burst b2 S i (by omega) hS hi (crc_dl _ _ _ _ h5)
      rw [turn_of h6] at ht
      cases ht
end Go.Proofs.Ytbhckbhdjdmgaaa
