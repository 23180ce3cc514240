/-
  Pairs of digits, read back; a value's text, read back: in plain Lean.
-/
import Derived.Test.YtpndhfnoppkmgaaDoorVtexts
import Derived.Test.YtpndhfnoppkmgaaDoorParsem
namespace Go.Proofs.YtpndhfnoppkmgaaDoor
/-- A byte of two digits. -/
def byteOf (a b : UInt8) : UInt8 := UInt8.ofNat ((digV a).toNat * 16 + (digV b).toNat)
def unOk (l : List UInt8) : Bool := l.length % 2 == 0 && allD l
/-- The first k bytes. -/
def unL (l : List UInt8) : Nat → List UInt8
  | 0 => []
  | k + 1 => unL l k ++ [byteOf (l.getD (2 * k) 0) (l.getD (2 * k + 1) 0)]
def unS (l : List UInt8) : List UInt8 := if unOk l = true then unL l (l.length / 2) else []
theorem unL_len (l : List UInt8) (k : Nat) : (unL l k).length = k := by
  induction k with
  | zero => rfl
  | succ k ih => simp [unL, ih]
theorem unOk_iff {l : List UInt8} : unOk l = true ↔ l.length % 2 = 0 ∧ allD l = true := by
  unfold unOk
  simp
theorem dig_at {l : List UInt8} (h : allD l = true) (j : Nat) (hj : j < l.length) : 0 ≤ digV l[j] := by
  unfold allD at h
  have := List.all_eq_true.1 h l[j] (List.getElem_mem _)
  simpa using this
theorem hexT_unL {l : List UInt8} (h : allD l = true) (k : Nat) (hk : 2 * k ≤ l.length) : hexT (unL l k) = l.take (2 * k) := by
  induction k with
  | zero => rfl
  | succ k ih =>
    have h1 := dig_at h (2 * k) (by omega)
    have h2 := dig_at h (2 * k + 1) (by omega)
    have b1 := digV_bd l[2 * k]
    have b2 := digV_bd l[2 * k + 1]
    have e1 : l.getD (2 * k) 0 = l[2 * k] := by simp [List.getD, List.getElem?_eq_getElem (show 2 * k < l.length by omega)]
    have e2 : l.getD (2 * k + 1) 0 = l[2 * k + 1] := by simp [List.getD, List.getElem?_eq_getElem (show 2 * k + 1 < l.length by omega)]
    have e3 : (byteOf l[2 * k] l[2 * k + 1]).toNat = (digV l[2 * k]).toNat * 16 + (digV l[2 * k + 1]).toNat := by
      unfold byteOf
      rw [UInt8.toNat_ofNat']
      omega
    rw [unL, hexT_snoc, ih (by omega), e1, e2, e3]
    have q1 : ((digV l[2 * k]).toNat * 16 + (digV l[2 * k + 1]).toNat) / 16 = (digV l[2 * k]).toNat := by omega
    have q2 : ((digV l[2 * k]).toNat * 16 + (digV l[2 * k + 1]).toNat) % 16 = (digV l[2 * k + 1]).toNat := by omega
    rw [q1, q2, hexd_digV h1, hexd_digV h2, show 2 * (k + 1) = 2 * k + 1 + 1 by omega,
      List.take_succ_eq_append_getElem (show 2 * k + 1 < l.length by omega), List.take_succ_eq_append_getElem (show 2 * k < l.length by omega), List.append_assoc]
    rfl
theorem hexd_inj {a b : Nat} (ha : a < 16) (hb : b < 16) (h : hexd a = hexd b) : a = b := by
  have h1 := digV_hexd ha
  rw [h, digV_hexd hb] at h1
  omega
theorem hexT_inj (a b : List UInt8) (h : hexT a = hexT b) : a = b := by
  induction a generalizing b with
  | nil =>
    cases b with
    | nil => rfl
    | cons d b =>
      have := congrArg List.length h
      rw [hexT_len, hexT_len] at this
      simp at this
  | cons c a ih =>
    cases b with
    | nil =>
      have := congrArg List.length h
      rw [hexT_len, hexT_len] at this
      simp at this
    | cons d b =>
      have hc := c.toNat_lt
      have hd := d.toNat_lt
      have e1 : hexT (c :: a) = hexd (c.toNat / 16) :: hexd (c.toNat % 16) :: hexT a := by simp [hexT]
      have e2 : hexT (d :: b) = hexd (d.toNat / 16) :: hexd (d.toNat % 16) :: hexT b := by simp [hexT]
      rw [e1, e2] at h
      injection h with h1 h
      injection h with h2 h
      have q1 := hexd_inj (by omega) (by omega) h1
      have q2 := hexd_inj (by omega) (by omega) h2
      rw [ih b h, UInt8.toNat_inj.1 (show c.toNat = d.toNat by omega)]
theorem allD_hexT (m : List UInt8) : allD (hexT m) = true := by
  induction m with
  | nil => rfl
  | cons c m ih =>
    have hc := c.toNat_lt
    have e1 : hexT (c :: m) = hexd (c.toNat / 16) :: hexd (c.toNat % 16) :: hexT m := by simp [hexT]
    rw [e1]
    unfold allD at ih ⊢
    rw [List.all_cons, List.all_cons, ih, digV_hexd (by omega), digV_hexd (by omega)]
    simp
    omega
theorem unOk_hexT (m : List UInt8) : unOk (hexT m) = true := unOk_iff.2 ⟨by rw [hexT_len]; omega, allD_hexT m⟩
theorem unS_hexT (m : List UInt8) : unS (hexT m) = m := by
  unfold unS
  rw [if_pos (unOk_hexT m)]
  apply hexT_inj
  rw [hexT_unL (allD_hexT m) _ (by omega), List.take_of_length_le (by rw [hexT_len]; omega)]
theorem hexT_unS {l : List UInt8} (h : unOk l = true) : hexT (unS l) = l := by
  obtain ⟨h1, h2⟩ := unOk_iff.1 h
  unfold unS
  rw [if_pos h, hexT_unL h2 _ (by omega), List.take_of_length_le (by omega)]
theorem unS_len {l : List UInt8} (h : unOk l = true) : 2 * (unS l).length = l.length := by
  have := congrArg List.length (hexT_unS h)
  rw [hexT_len] at this
  exact this
theorem unS_le (l : List UInt8) : (unS l).length ≤ l.length := by
  unfold unS
  split
  · rw [unL_len]; omega
  · simp
/-- Is it a value's text? -/
def pvOk : List UInt8 → Bool
  | [] => false
  | c :: r => if c = 45 then r == [] else if c = 110 then parseOk r else if c = 116 then unOk r && decide ((unS r).length ≤ 32) else false
/-- Which. -/
def pvV (l : List UInt8) : Va := if pvOk l = true then match l with
  | [] => ⟨0, 0, ⟨#[]⟩⟩
  | c :: r => if c = 45 then ⟨0, 0, ⟨#[]⟩⟩ else if c = 110 then ⟨1, parseN r, ⟨#[]⟩⟩ else ⟨2, 0, ⟨(unS r).toArray⟩⟩ else ⟨0, 0, ⟨#[]⟩⟩
theorem pvV_no {l : List UInt8} (h : pvOk l = false) : pvV l = ⟨0, 0, ⟨#[]⟩⟩ := by
  unfold pvV
  rw [h]
  rfl
theorem eqS_nil : eqS ⟨#[]⟩ ⟨#[]⟩ = true := by unfold eqS; simp
theorem same_nought : sameB 0 0 = true := by decide
/-- A text that is one: its value is right, and has that text. -/
theorem pv_reads {l : List UInt8} (h : pvOk l = true) : chkVa (pvV l) = 0 ∧ vtextV (pvV l) = ⟨l.toArray⟩ ∧ (pvV l).x < 18446744073709551616 ∧ (pvV l).s.size ≤ 32 := by
  unfold pvV
  rw [if_pos h]
  cases l with
  | nil => cases h
  | cons c r =>
    dsimp only
    unfold pvOk at h
    dsimp only at h
    by_cases h1 : c = 45
    · rw [if_pos h1] at h ⊢
      subst h1
      have : r = [] := eq_of_beq h
      subst this
      refine ⟨?_, by rfl, by decide, by decide⟩
      unfold chkVa
      dsimp only
      rw [if_pos rfl, same_nought, eqS_nil]
      rfl
    · rw [if_neg h1] at h ⊢
      by_cases h2 : c = 110
      · rw [if_pos h2] at h ⊢
        subst h2
        have hN : parseN r = valD r := by unfold parseN; rw [if_pos h]
        have hc := (parseOk_iff.1 h).2.2
        refine ⟨?_, ?_, parseN_lt r, show (0 : Nat) ≤ 32 by decide⟩
        · unfold chkVa
          dsimp only
          rw [if_neg (by decide), if_pos rfl, hN, hc, eqS_nil]
          simp
        · unfold vtextV
          dsimp only
          rw [if_pos rfl]
          unfold textV
          rw [hN, text_parse h]
          show (⟨[110].toArray⟩ ++ ⟨r.toArray⟩ : ByteArray) = _
          rw [bytes_app]
          rfl
      · rw [if_neg h2] at h ⊢
        by_cases h3 : c = 116
        · rw [if_pos h3] at h
          subst h3
          simp only [Bool.and_eq_true, decide_eq_true_eq] at h
          have hz : (⟨(unS r).toArray⟩ : ByteArray).size ≤ 32 := by
            show (unS r).toArray.size ≤ 32
            rw [List.size_toArray]
            exact h.2
          refine ⟨?_, ?_, show (0 : Nat) < 18446744073709551616 by decide, hz⟩
          · unfold chkVa
            dsimp only
            rw [if_neg (by decide), if_neg (by decide), if_pos rfl, if_neg (by omega), same_nought]
            rfl
          · unfold vtextV
            dsimp only
            rw [if_neg (by decide), if_pos rfl]
            have e : hexT (unS r) = r := hexT_unS h.1
            show (⟨(116 :: hexT (unS r)).toArray⟩ : ByteArray) = _
            rw [e]
        · rw [if_neg h3] at h
          cases h
theorem chk_zero {a : Va} (h : chkVa a = 0) (hx : a.x < 18446744073709551616) : (a.k = 0 ∧ a.x = 0 ∧ a.s = ⟨#[]⟩) ∨ (a.k = 1 ∧ canon a.x = a.x ∧ a.s = ⟨#[]⟩) ∨ (a.k = 2 ∧ a.x = 0 ∧ a.s.size ≤ 32) := by
  have hnil : ∀ s : ByteArray, eqS s ⟨#[]⟩ = true → s = ⟨#[]⟩ := fun s hs => by
    unfold eqS at hs
    have := eq_of_beq hs
    rw [ByteArray.toList_eq, ByteArray.toList_eq] at this
    exact bytes_ext this
  have hn := nought_eq hx
  unfold chkVa at h
  by_cases h0 : a.k = 0
  · rw [if_pos h0] at h
    refine .inl ⟨h0, ?_⟩
    split at h
    · rename_i h1
      simp only [Bool.and_eq_true] at h1
      rw [hn] at h1
      exact ⟨by simpa using h1.1, hnil _ h1.2⟩
    · cases h
  rw [if_neg h0] at h
  by_cases h1 : a.k = 1
  · rw [if_pos h1] at h
    refine .inr (.inl ⟨h1, ?_⟩)
    split at h
    · rename_i h2
      simp only [Bool.and_eq_true] at h2
      exact ⟨by simpa using h2.1, hnil _ h2.2⟩
    · cases h
  rw [if_neg h1] at h
  by_cases h2 : a.k = 2
  · rw [if_pos h2] at h
    refine .inr (.inr ⟨h2, ?_⟩)
    by_cases h3 : 32 < a.s.size
    · rw [if_pos h3] at h; cases h
    rw [if_neg h3] at h
    split at h
    · rename_i h4
      rw [hn] at h4
      exact ⟨by simpa using h4, by omega⟩
    · cases h
  rw [if_neg h2] at h
  cases h
/-- A right value's text leads back to it. -/
theorem pv_back {a : Va} (h : chkVa a = 0) (hx : a.x < 18446744073709551616) : pvOk (vtextV a).data.toList = true ∧ pvV (vtextV a).data.toList = a := by
  obtain ⟨k, x, s⟩ := a
  have hz := chk_zero h hx
  dsimp only at hz hx
  have key : ∀ l : List UInt8, (vtextV ⟨k, x, s⟩).data.toList = l → pvOk l = true → (match l with
    | [] => (⟨0, 0, ⟨#[]⟩⟩ : Va)
    | c :: r => if c = 45 then ⟨0, 0, ⟨#[]⟩⟩ else if c = 110 then ⟨1, parseN r, ⟨#[]⟩⟩ else ⟨2, 0, ⟨(unS r).toArray⟩⟩) = ⟨k, x, s⟩ → pvOk (vtextV ⟨k, x, s⟩).data.toList = true ∧ pvV (vtextV ⟨k, x, s⟩).data.toList = ⟨k, x, s⟩ := by
    intro l e h1 h2
    rw [e]
    refine ⟨h1, ?_⟩
    unfold pvV
    rw [if_pos h1]
    exact h2
  rcases hz with ⟨rfl, rfl, rfl⟩ | ⟨rfl, hc, rfl⟩ | ⟨rfl, rfl, hs⟩
  · exact key [45] rfl rfl rfl
  · obtain ⟨p1, p2⟩ := parse_text hx
    rw [hc] at p1 p2
    refine key (110 :: hexL 16 x) ?_ ?_ ?_
    · unfold vtextV textV
      dsimp only
      rw [if_pos rfl, hc]
      show (⟨[110].toArray⟩ ++ ⟨(hexL 16 x).toArray⟩ : ByteArray).data.toList = _
      rw [bytes_app]
      rfl
    · unfold pvOk
      dsimp only
      rw [if_neg (by decide), if_pos rfl]
      exact p1
    · dsimp only
      rw [if_neg (by decide), if_pos rfl]
      unfold parseN
      rw [if_pos p1, p2]
  · have e : unS (hexT s.data.toList) = s.data.toList := unS_hexT _
    refine key (116 :: hexT s.data.toList) rfl ?_ ?_
    · unfold pvOk
      dsimp only
      rw [if_neg (by decide), if_neg (by decide), if_pos rfl, unOk_hexT, e]
      have : s.data.toList.length = s.size := Array.length_toList
      simp
      exact hs
    · dsimp only
      rw [if_neg (by decide), if_neg (by decide), e]
theorem sameVa_text {a b : Va} (ha : chkVa a = 0) (hb : chkVa b = 0) (xa : a.x < 18446744073709551616) (xb : b.x < 18446744073709551616) : ((vtextV a).toList == (vtextV b).toList) = sameVa a b := by
  rw [Bool.eq_iff_iff]
  constructor
  · intro h
    have h := eq_of_beq h
    rw [ByteArray.toList_eq, ByteArray.toList_eq] at h
    have p1 := (pv_back ha xa).2
    rw [h, (pv_back hb xb).2] at p1
    rw [p1]
    unfold sameVa eqS
    simp
    unfold sameB
    exact decide_eq_true rfl
  · intro h
    unfold sameVa eqS at h
    simp only [Bool.and_eq_true] at h
    have hk : a.k = b.k := by simpa using h.1
    have hs : a.s = b.s := by
      have := eq_of_beq h.2.2
      rw [ByteArray.toList_eq, ByteArray.toList_eq] at this
      exact bytes_ext this
    have hc : canon a.x = canon b.x := by
      have := h.2.1
      rw [same_canon xa xb] at this
      exact of_decide_eq_true this
    have : vtextV a = vtextV b := by
      unfold vtextV textV
      rw [hk, hs, hc]
    rw [this]
    simp
end Go.Proofs.YtpndhfnoppkmgaaDoor
