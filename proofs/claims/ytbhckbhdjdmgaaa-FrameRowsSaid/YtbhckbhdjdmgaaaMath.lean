/-
  The plain mathematics of the sum of a frame: the register, the table, linearity, bursts. No program in sight.
-/
namespace Go.Proofs.Ytbhckbhdjdmgaaa
namespace Fr
/-- One shift of the register. -/
def stp (s : BitVec 32) : BitVec 32 := if s.getLsbD 0 = true then (s >>> 1) ^^^ 0xedb88320#32 else s >>> 1
def stpn : Nat → BitVec 32 → BitVec 32
  | 0, s => s
  | n + 1, s => stp (stpn n s)
def ext (c : UInt8) : BitVec 32 := c.toBitVec.setWidth 32
def tab (i : Nat) : BitVec 32 := stpn 8 (BitVec.ofNat 32 i)
/-- One byte, as the program does it. -/
def upd (s : BitVec 32) (c : UInt8) : BitVec 32 := tab (s.setWidth 8 ^^^ c.toBitVec).toNat ^^^ (s >>> 8)
def crc (s : BitVec 32) (b : List UInt8) : BitVec 32 := b.foldl upd s
/-- The sum. -/
def sum (b : List UInt8) : BitVec 32 := ~~~ (crc (~~~ 0#32) b)

theorem ushr_xor (a b : BitVec 32) (k : Nat) : (a ^^^ b) >>> k = (a >>> k) ^^^ (b >>> k) := by
  ext i hi; simp [BitVec.getElem_xor]

theorem stp_xor (a b : BitVec 32) : stp (a ^^^ b) = stp a ^^^ stp b := by
  unfold stp
  rw [BitVec.getLsbD_xor, ushr_xor]
  cases ha : a.getLsbD 0 <;> cases hb : b.getLsbD 0 <;> simp
  · rw [BitVec.xor_assoc]
  · rw [BitVec.xor_assoc, BitVec.xor_assoc, BitVec.xor_comm (b >>> 1)]
  · rw [BitVec.xor_assoc, BitVec.xor_comm (b >>> 1), ← BitVec.xor_assoc (3988292384#32), BitVec.xor_self, BitVec.zero_xor]

theorem stp_zero : stp 0#32 = 0#32 := by decide
theorem stpn_xor (n : Nat) (a b : BitVec 32) : stpn n (a ^^^ b) = stpn n a ^^^ stpn n b := by
  induction n with
  | zero => rfl
  | succ n ih => simp only [stpn, ih, stp_xor]
theorem stpn_zero (n : Nat) : stpn n 0#32 = 0#32 := by
  induction n with
  | zero => rfl
  | succ n ih => simp only [stpn, ih, stp_zero]
theorem stpn_add (m n : Nat) (s : BitVec 32) : stpn (m + n) s = stpn m (stpn n s) := by
  induction m with
  | zero => simp [stpn]
  | succ m ih => rw [Nat.succ_add]; simp only [stpn, ih]

theorem stp_inj0 {a : BitVec 32} (h : stp a = 0#32) : a = 0#32 := by
  unfold stp at h
  by_cases hb : a.getLsbD 0 = true
  · rw [if_pos hb] at h
    have := congrArg (fun x : BitVec 32 => x.getLsbD 31) h
    simp at this
  · rw [if_neg hb] at h
    apply BitVec.eq_of_getLsbD_eq
    intro i hi
    rcases i with _ | i
    · simpa using hb
    · have := congrArg (fun x : BitVec 32 => x.getLsbD i) h
      simp at this
      rw [Nat.add_comm] at this
      simpa using this
theorem stpn_inj0 {n : Nat} {a : BitVec 32} (h : stpn n a = 0#32) : a = 0#32 := by
  induction n with
  | zero => exact h
  | succ n ih => exact ih (stp_inj0 h)

/-- While the low bits are nought it is a shift alone. -/
theorem stpn_low (n : Nat) (s : BitVec 32) (h : ∀ i, i < n → s.getLsbD i = false) : stpn n s = s >>> n := by
  induction n with
  | zero => simp [stpn]
  | succ n ih =>
    simp only [stpn]
    rw [ih (fun i hi => h i (by omega))]
    unfold stp
    rw [if_neg (by simp [h n (by omega)]), ← BitVec.shiftRight_add]

theorem ushr_of_shl (n k : Nat) (x : BitVec 32) (hk : n + k ≤ 32) (hx : x.toNat < 2 ^ n) : (x <<< k) >>> k = x := by
  apply BitVec.eq_of_toNat_eq
  rw [BitVec.toNat_ushiftRight, BitVec.toNat_shiftLeft, Nat.shiftLeft_eq, Nat.shiftRight_eq_div_pow]
  have h : x.toNat * 2 ^ k < 2 ^ 32 := by
    calc x.toNat * 2 ^ k < 2 ^ n * 2 ^ k := Nat.mul_lt_mul_of_pos_right hx (Nat.two_pow_pos k)
      _ = 2 ^ (n + k) := by rw [Nat.pow_add]
      _ ≤ 2 ^ 32 := Nat.pow_le_pow_right (by decide) hk
  rw [Nat.mod_eq_of_lt h, Nat.mul_div_cancel _ (Nat.two_pow_pos k)]

theorem stpn_shl (n k : Nat) (x : BitVec 32) (hk : n + k ≤ 32) (hx : x.toNat < 2 ^ n) : stpn k (x <<< k) = x := by
  rw [stpn_low k _ (fun i hi => by simp [hi]), ushr_of_shl n k x hk hx]

theorem ext_lt (c : UInt8) : (ext c).toNat < 2 ^ 8 := by
  have := c.toBitVec.isLt
  simp only [ext, BitVec.toNat_setWidth]
  exact Nat.lt_of_le_of_lt (Nat.mod_le _ _) this

/-- The table: eight shifts of the whole register. -/
theorem upd_eq (s : BitVec 32) (c : UInt8) : upd s c = stpn 8 (s ^^^ ext c) := by
  have hsplit : s ^^^ ext c = BitVec.ofNat 32 (s.setWidth 8 ^^^ c.toBitVec).toNat ^^^ ((s >>> 8) <<< 8) := by
    apply BitVec.eq_of_getLsbD_eq
    intro i hi
    have e : BitVec.ofNat 32 (s.setWidth 8 ^^^ c.toBitVec).toNat = (s.setWidth 8 ^^^ c.toBitVec).setWidth 32 := by rw [BitVec.ofNat_toNat]
    rw [e]
    simp only [ext, BitVec.getLsbD_xor, BitVec.getLsbD_setWidth, BitVec.getLsbD_shiftLeft, BitVec.getLsbD_ushiftRight]
    by_cases h8 : i < 8
    · simp [h8, hi]
    · have : c.toBitVec.getLsbD i = false := BitVec.getLsbD_of_ge _ _ (by omega)
      simp [h8, hi, this, show 8 + (i - 8) = i by omega]
  rw [hsplit, stpn_xor, stpn_low 8 ((s >>> 8) <<< 8) (fun i hi => by simp [hi])]
  unfold upd tab
  congr 1
  apply BitVec.eq_of_getLsbD_eq
  intro i hi
  simp only [BitVec.getLsbD_shiftLeft, BitVec.getLsbD_ushiftRight]
  by_cases h : 8 + i < 32
  · simp [h]
  · have : s.getLsbD (8 + i) = false := BitVec.getLsbD_of_ge _ _ (by omega)
    simp [h, this]

theorem ext_xor (a b : UInt8) : ext (a ^^^ b) = ext a ^^^ ext b := by
  simp [ext, UInt8.toBitVec_xor]
theorem ext_zero : ext 0 = 0#32 := by decide
theorem ext_inj0 {a : UInt8} (h : ext a = 0#32) : a = 0 := by
  have h2 := congrArg BitVec.toNat h
  simp only [ext, BitVec.toNat_setWidth] at h2
  have hlt := a.toBitVec.isLt
  rw [Nat.mod_eq_of_lt (Nat.lt_trans hlt (by decide))] at h2
  exact UInt8.toBitVec_inj.1 (BitVec.eq_of_toNat_eq h2)

theorem upd_xor (s t : BitVec 32) (c d : UInt8) : upd (s ^^^ t) (c ^^^ d) = upd s c ^^^ upd t d := by
  rw [upd_eq, upd_eq, upd_eq, ← stpn_xor, ext_xor]
  congr 1
  rw [BitVec.xor_assoc, BitVec.xor_assoc]
  congr 1
  rw [← BitVec.xor_assoc, ← BitVec.xor_assoc, BitVec.xor_comm t]

theorem crc_append (s : BitVec 32) (a b : List UInt8) : crc s (a ++ b) = crc (crc s a) b := List.foldl_append
theorem crc_cons (s : BitVec 32) (c : UInt8) (b : List UInt8) : crc s (c :: b) = crc (upd s c) b := rfl
theorem crc_snoc (s : BitVec 32) (a : List UInt8) (c : UInt8) : crc s (a ++ [c]) = upd (crc s a) c := by rw [crc_append]; rfl

/-- Two texts of one length: their registers differ by the register of their difference. -/
theorem crc_diff : ∀ (a d : List UInt8) (s t : BitVec 32), a.length = d.length → crc (s ^^^ t) (List.zipWith (· ^^^ ·) a d) = crc s a ^^^ crc t d
  | [], [], _, _, _ => rfl
  | x :: a, y :: d, s, t, h => by
    simp only [List.zipWith_cons_cons, crc_cons, upd_xor]
    exact crc_diff a d _ _ (by simpa using h)

theorem upd_zero_inj {t : BitVec 32} (h : upd t 0 = 0#32) : t = 0#32 := by
  rw [upd_eq, ext_zero, BitVec.xor_zero] at h
  exact stpn_inj0 h
theorem crc_zeros_inj : ∀ (n : Nat) (t : BitVec 32), crc t (List.replicate n 0) = 0#32 → t = 0#32
  | 0, _, h => h
  | n + 1, t, h => by
    rw [List.replicate_succ, crc_cons] at h
    exact upd_zero_inj (crc_zeros_inj n _ h)
theorem crc_zeros (n : Nat) : crc 0#32 (List.replicate n 0) = 0#32 := by
  induction n with
  | zero => rfl
  | succ n ih => rw [List.replicate_succ, crc_cons, upd_eq, ext_zero, BitVec.xor_zero, stpn_zero]; exact ih

/-! ### A burst of 32 bits -/
/-- The i-th byte of a number. -/
def byt (X i : Nat) : UInt8 := UInt8.ofNat (X / 2 ^ (8 * i))
def byts (X m : Nat) : List UInt8 := (List.range m).map (byt X)
theorem byts_succ (X m : Nat) : byts X (m + 1) = byts X m ++ [byt X m] := by simp [byts, List.range_succ]
theorem byts_length (X m : Nat) : (byts X m).length = m := by simp [byts]

theorem ext_byt_toNat (X i : Nat) : (ext (byt X i)).toNat = X / 2 ^ (8 * i) % 256 := by
  show ((UInt8.ofNat (X / 2 ^ (8 * i))).toBitVec.setWidth 32).toNat = _
  rw [BitVec.toNat_setWidth]
  show (UInt8.ofNat (X / 2 ^ (8 * i))).toNat % 2 ^ 32 = _
  rw [UInt8.toNat_ofNat']
  have : X / 2 ^ (8 * i) % 2 ^ 8 < 2 ^ 8 := Nat.mod_lt _ (by decide)
  rw [Nat.mod_eq_of_lt (by omega)]

theorem ext_byt (X i j : Nat) : (ext (byt X i)).getLsbD j = (decide (j < 8) && X.testBit (8 * i + j)) := by
  rw [BitVec.getLsbD, ext_byt_toNat, show (256 : Nat) = 2 ^ 8 from rfl, Nat.testBit_mod_two_pow, Nat.testBit_div_two_pow, Nat.add_comm]

theorem pack_succ (X m : Nat) :
    BitVec.ofNat 32 (X % 2 ^ (8 * m)) ^^^ (ext (byt X m) <<< (8 * m)) = BitVec.ofNat 32 (X % 2 ^ (8 * (m + 1))) := by
  apply BitVec.eq_of_getLsbD_eq
  intro i hi
  rw [BitVec.getLsbD_xor, BitVec.getLsbD_shiftLeft, ext_byt, BitVec.getLsbD_ofNat, BitVec.getLsbD_ofNat, Nat.testBit_mod_two_pow, Nat.testBit_mod_two_pow]
  by_cases h1 : i < 8 * m
  · have h2 : i < 8 * (m + 1) := by omega
    simp [h1, h2, hi]
  · by_cases h2 : i < 8 * (m + 1)
    · have h3 : i - 8 * m < 8 := by omega
      have h4 : 8 * m + (i - 8 * m) = i := by omega
      simp [h1, h2, h3, h4, hi]
    · have h3 : ¬ i - 8 * m < 8 := by omega
      simp [h1, h2, h3]

theorem crc_byts (X : Nat) : ∀ m, 8 * m ≤ 32 → crc 0#32 (byts X m) = stpn (8 * m) (BitVec.ofNat 32 (X % 2 ^ (8 * m)))
  | 0, _ => by simp [byts, crc, stpn, Nat.mod_one]
  | m + 1, hm => by
    rw [byts_succ, crc_snoc, crc_byts X m (by omega), upd_eq]
    have e := stpn_shl 8 (8 * m) (ext (byt X m)) (by omega) (ext_lt _)
    rw [← e, e, ← congrArg (fun z => stpn (8 * m) (BitVec.ofNat 32 (X % 2 ^ (8 * m))) ^^^ z) e, ← stpn_xor, pack_succ X m, ← stpn_add]
    congr 1
    omega

theorem byt_zero_of (X m i : Nat) (hi : i < m) (h : X % 2 ^ (8 * m) = 0) : byt X i = 0 := by
  have hd : 2 ^ (8 * (i + 1)) ∣ X := Nat.dvd_trans (Nat.pow_dvd_pow 2 (by omega)) (Nat.dvd_of_mod_eq_zero h)
  obtain ⟨q, rfl⟩ := hd
  have : 2 ^ (8 * (i + 1)) * q / 2 ^ (8 * i) = 256 * q := by
    rw [show 8 * (i + 1) = 8 * i + 8 by omega, Nat.pow_add, Nat.mul_assoc, Nat.mul_div_cancel_left _ (Nat.two_pow_pos _)]
  unfold byt
  rw [this]
  apply UInt8.toNat_inj.1
  rw [UInt8.toNat_ofNat']
  simp

/-- WHAT A BURST LEAVES: of the bytes of 'bits * 2 ^ sh' (five of them), or of the first few: the register is nought only if they are. -/
theorem burst (bits sh m : Nat) (hb : bits < 2 ^ 32) (hs : sh < 8) (hm : m ≤ 5) (h : crc 0#32 (byts (bits * 2 ^ sh) m) = 0#32) :
    ∀ i, i < m → byt (bits * 2 ^ sh) i = 0 := by
  by_cases h4 : m ≤ 4
  · rw [crc_byts _ m (by omega)] at h
    have h0 := congrArg BitVec.toNat (stpn_inj0 h)
    rw [BitVec.toNat_ofNat] at h0
    have hle : 2 ^ (8 * m) ≤ 2 ^ 32 := Nat.pow_le_pow_right (by decide) (by omega)
    rw [Nat.mod_eq_of_lt (Nat.lt_of_lt_of_le (Nat.mod_lt _ (Nat.two_pow_pos _)) hle)] at h0
    intro i hi
    exact byt_zero_of _ m i hi (by simpa using h0)
  · have h5 : m = 5 := by omega
    subst h5
    rw [byts_succ, crc_snoc, crc_byts _ 4 (by omega), upd_eq] at h
    have h1 := stpn_inj0 h
    -- the low part
    have hlow : stpn 32 (BitVec.ofNat 32 (bits * 2 ^ sh % 2 ^ 32)) = stpn (32 - sh) (BitVec.ofNat 32 (bits % 2 ^ (32 - sh))) := by
      have e : BitVec.ofNat 32 (bits * 2 ^ sh % 2 ^ 32) = BitVec.ofNat 32 (bits % 2 ^ (32 - sh)) <<< sh := by
        apply BitVec.eq_of_getLsbD_eq
        intro i hi
        rw [BitVec.getLsbD_ofNat, BitVec.getLsbD_shiftLeft, BitVec.getLsbD_ofNat, Nat.testBit_mod_two_pow, Nat.testBit_mod_two_pow, Nat.testBit_mul_two_pow]
        by_cases hq : i < sh
        · simp [hq, hi, show ¬ sh ≤ i by omega]
        · have a1 : sh ≤ i := by omega
          have a2 : i - sh < 32 - sh := by omega
          have a3 : i - sh < 32 := by omega
          simp [hq, hi, a1, a2, a3]
      rw [show stpn 32 = stpn ((32 - sh) + sh) by rw [Nat.sub_add_cancel (by omega)], stpn_add, e]
      congr 1
      refine stpn_shl (32 - sh) sh _ (by omega) ?_
      rw [BitVec.toNat_ofNat]
      exact Nat.lt_of_le_of_lt (Nat.mod_le _ _) (Nat.mod_lt _ (Nat.two_pow_pos _))
    -- the high part
    have hn : (ext (byt (bits * 2 ^ sh) 4)).toNat = bits / 2 ^ (32 - sh) := by
      rw [ext_byt_toNat]
      have e1 : bits * 2 ^ sh / 2 ^ (8 * 4) = bits / 2 ^ (32 - sh) := by
        rw [show 8 * 4 = (32 - sh) + sh by omega, Nat.pow_add, Nat.mul_div_mul_right _ _ (Nat.two_pow_pos _)]
      rw [e1]
      apply Nat.mod_eq_of_lt
      rw [Nat.div_lt_iff_lt_mul (Nat.two_pow_pos _)]
      refine Nat.lt_of_lt_of_le hb ?_
      rw [show (256 : Nat) = 2 ^ 8 from rfl, ← Nat.pow_add]
      exact Nat.pow_le_pow_right (by decide) (by omega)
    have hhi : ext (byt (bits * 2 ^ sh) 4) = stpn (32 - sh) (ext (byt (bits * 2 ^ sh) 4) <<< (32 - sh)) := by
      refine (stpn_shl sh (32 - sh) _ (by omega) ?_).symm
      rw [hn, Nat.div_lt_iff_lt_mul (Nat.two_pow_pos _), ← Nat.pow_add, show sh + (32 - sh) = 32 by omega]
      exact hb
    rw [show 8 * 4 = 32 from rfl, hlow, hhi, ← stpn_xor] at h1
    have h2 := stpn_inj0 h1
    have h3 : BitVec.ofNat 32 (bits % 2 ^ (32 - sh)) ^^^ ext (byt (bits * 2 ^ sh) 4) <<< (32 - sh) = BitVec.ofNat 32 bits := by
      apply BitVec.eq_of_getLsbD_eq
      intro i hi
      rw [BitVec.getLsbD_xor, BitVec.getLsbD_shiftLeft, BitVec.getLsbD_ofNat, BitVec.getLsbD_ofNat, Nat.testBit_mod_two_pow, BitVec.getLsbD, hn, Nat.testBit_div_two_pow]
      by_cases hq : i < 32 - sh
      · simp [hq, hi]
      · simp [hq, hi, show i - (32 - sh) + (32 - sh) = i by omega]
    rw [h3] at h2
    have h4 := congrArg BitVec.toNat h2
    rw [BitVec.toNat_ofNat, Nat.mod_eq_of_lt hb] at h4
    intro i hi
    have h0 : bits = 0 := by simpa using h4
    subst h0
    unfold byt
    rw [Nat.zero_mul, Nat.zero_div]
    rfl
end Fr
/-- Four bytes of a number, the highest first. -/
def hi4 (n : Nat) : List UInt8 := [UInt8.ofNat (n / 16777216), UInt8.ofNat (n / 65536), UInt8.ofNat (n / 256), UInt8.ofNat n]
/-- The number of bytes, the highest first. -/
def num (l : List UInt8) : Nat := l.foldl (fun x c => x * 256 + c.toNat) 0
/-- The frame of a payload. -/
def frm (p : List UInt8) : List UInt8 := 0x9d :: (hi4 p.length ++ hi4 (Fr.sum (hi4 p.length ++ p)).toNat ++ p)
/-- The frame that bytes begin with: its payload, its length. -/
def first (b : List UInt8) : Option (List UInt8 × Nat) :=
  if b.length < 9 then none else
  if b[0]? ≠ some 0x9d then none else
  if num ((b.drop 1).take 4) > 16384 ∨ num ((b.drop 1).take 4) > b.length - 9 then none else
  if (Fr.sum ((b.drop 1).take 4 ++ (b.drop 9).take (num ((b.drop 1).take 4)))).toNat ≠ num ((b.drop 5).take 4) then none else
  some ((b.drop 9).take (num ((b.drop 1).take 4)), 9 + num ((b.drop 1).take 4))
theorem first_pos {b p : List UInt8} {n : Nat} (h : first b = some (p, n)) : 9 ≤ n ∧ n ≤ b.length ∧ p.length + 9 = n ∧ p.length ≤ 16384 := by
  unfold first at h
  split at h
  · cases h
  · split at h
    · cases h
    · split at h
      · cases h
      · split at h
        · cases h
        · simp only [Option.some.injEq, Prod.mk.injEq] at h
          obtain ⟨rfl, rfl⟩ := h
          simp only [List.length_take, List.length_drop]
          omega
/-- The frames at the beginning of bytes. -/
def scan (b : List UInt8) : List (List UInt8) × Nat :=
  match _h : first b with
  | none => ([], 0)
  | some (p, n) => (p :: (scan (b.drop n)).1, n + (scan (b.drop n)).2)
termination_by b.length
decreasing_by all_goals (have := first_pos _h; simp only [List.length_drop]; omega)
theorem scan_none {b : List UInt8} (h : first b = none) : scan b = ([], 0) := by
  rw [scan]; split <;> simp_all
theorem scan_some {b p : List UInt8} {n : Nat} (h : first b = some (p, n)) : scan b = (p :: (scan (b.drop n)).1, n + (scan (b.drop n)).2) := by
  rw [scan]; split <;> simp_all
theorem hi4_length (n : Nat) : (hi4 n).length = 4 := rfl
theorem num_hi4 (n : Nat) (h : n < 4294967296) : num (hi4 n) = n := by
  simp only [num, hi4, List.foldl_cons, List.foldl_nil, UInt8.toNat_ofNat']
  omega
theorem frm_length (p : List UInt8) : (frm p).length = p.length + 9 := by simp [frm, hi4_length]; omega
theorem first_frm (p more : List UInt8) (hp : p.length ≤ 16384) : first (frm p ++ more) = some (p, p.length + 9) := by
  have e1 : ((frm p ++ more).drop 1).take 4 = hi4 p.length := by simp [frm, hi4]
  have e5 : ((frm p ++ more).drop 5).take 4 = hi4 (Fr.sum (hi4 p.length ++ p)).toNat := by simp [frm, hi4]
  have e9 : ((frm p ++ more).drop 9).take p.length = p := by simp [frm, hi4]
  have hl : (frm p ++ more).length = p.length + 9 + more.length := by simp [frm_length]
  have hn := num_hi4 p.length (by omega)
  unfold first
  rw [e1, e5, hn, e9, hl, if_neg (by omega), if_neg (by simp [frm]), if_neg (by omega), num_hi4 _ (BitVec.isLt _), if_neg (by simp), Nat.add_comm]
end Go.Proofs.Ytbhckbhdjdmgaaa
