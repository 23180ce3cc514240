/-
  Joined texts, part 2: the lemmas and walks that the row stands on.
-/
import Derived.Test.YtkckncggiicciaaDoorV1
import Derived.Deep.RegionWith
import Derived.Deep.LoopGhost
import Derived.Orders
import Derived.Still
import Derived.Tactics
import Derived.Below
import Derived.Lib.QuietBelow
/-
  The walk of strings.Repeat, of noughts.
-/
namespace Go.Proofs.YtkckncggiicciaaDoor
open Go.RowKit
set_option maxRecDepth 100000
theorem and_low {c : Nat} (h : c < 4294967296) : bits .and .u64 (c : Int) 4294967295 = (c : Int) := by
  have := bits_and_u64_nat c 4294967295 (by omega) (by omega)
  rw [show ((4294967295 : Nat) : Int) = 4294967295 from rfl] at this
  rw [this]
  have e : c &&& 4294967295 = c % 4294967296 := Nat.and_two_pow_sub_one_eq_mod c 32
  rw [e, Nat.mod_eq_of_lt h]
set_option maxHeartbeats 1000000 in
theorem Mul64_one (c : Nat) (hc : c < 100) (w : World) : Calls Tryd.prog 130 #[.int .u64 1, .int .u64 (c : Int)] w fun e w' => e = .returned (.tuple #[.int .u64 0, .int .u64 (c : Int)]) ∧ w = w' := by
  have h1 := and_low (c := c) (by omega)
  have h2 : bits .and .u64 1 4294967295 = 1 := by decide +kernel
  have h3 : bits .and .u64 0 4294967295 = 0 := by decide +kernel
  have h4 : (c : Int) / 4294967296 = 0 := by omega
  go_enter Tryd.func130, Tryd.ntmps130
  go_wp2_with fail
  go_ret2
  exact ⟨rfl, rfl⟩
set_option maxHeartbeats 1000000 in
theorem Mul_one (c : Nat) (hc : c < 100) (w : World) : Calls Tryd.prog 113 #[.int .u64 1, .int .u64 (c : Int)] w fun e w' => e = .returned (.tuple #[.int .u64 0, .int .u64 (c : Int)]) ∧ w = w' := by
  go_enter Tryd.func113, Tryd.ntmps113
  go_wp2_with (refine (Mul64_one c hc _).mono ?_; rintro e w1 ⟨rfl, rfl⟩)
  go_ret2
  exact ⟨rfl, rfl⟩
/-- A part of a string. -/
theorem ext_list (s : ByteArray) (a b : Nat) : (s.extract a b).data.toList = (s.data.toList.take b).drop a := by
  rw [ByteArray.data_extract, Array.toList_extract, List.extract_eq_take_drop, List.drop_take]
theorem bytes_ext {a b : ByteArray} (h : a.data.toList = b.data.toList) : a = b := by
  cases a; cases b
  congr 1
  exact Array.ext' h
set_option maxHeartbeats 1000000 in
theorem lite_prefix (s : ByteArray) (c0 p : UInt8) (rest : List UInt8) (hs : s.data.toList = c0 :: rest) (hm : s.size ≤ maxLen) (w : World) :
    Calls Tryd.prog 78 #[.string s, .string ⟨#[p]⟩] w fun e w' => e = .returned (.bool (c0 == p)) ∧ w = w' := by
  have h1 : 1 ≤ s.size := by
    have : s.data.toList.length = s.size := Array.length_toList
    rw [hs] at this
    simp at this
    omega
  unfold maxLen at hm
  go_enter Tryd.func78, Tryd.ntmps78
  go_wp2_with fail
  go_ret
  refine ⟨?_, rfl⟩
  have e1 : (s.extract 0 1).toList = [c0] := by
    rw [ByteArray.toList_eq, ext_list, hs]
    rfl
  show Ending.returned (Value.bool ((s.extract 0 1).toList == [p])) = _
  rw [e1]
  simp
set_option maxHeartbeats 1000000 in
theorem prefix_any (s : ByteArray) (c0 p : UInt8) (rest : List UInt8) (hs : s.data.toList = c0 :: rest) (hm : s.size ≤ maxLen) (w : World) :
    Calls Tryd.prog 54 #[.string s, .string ⟨#[p]⟩] w fun e w' => e = .returned (.bool (c0 == p)) ∧ w = w' := by
  go_enter Tryd.func54, Tryd.ntmps54
  go_wp2_with (refine (lite_prefix _ c0 p rest (by assumption) (by assumption) _).mono ?_; rintro e w1 ⟨rfl, rfl⟩)
  go_ret
  exact ⟨rfl, rfl⟩
set_option maxRecDepth 100000 in
set_option maxHeartbeats 3200000 in
theorem Rep_any (c : Nat) (hc : c ≤ 16) (w : World) : Calls Tryd.prog 94 #[.string ⟨#[48]⟩, .int .i64 (c : Int)] w fun e w' => e = .returned (.string ⟨(List.replicate c 48).toArray⟩) ∧ w = w' := by
  rcases Decidable.em (c = 0) with rfl | h0
  · go_enter Tryd.func94, Tryd.ntmps94
    go_wp2_with fail
    go_ret
    exact ⟨rfl, rfl⟩
  rcases Decidable.em (c = 1) with rfl | h1
  · go_enter Tryd.func94, Tryd.ntmps94
    go_wp2_with fail
    go_ret
    exact ⟨rfl, rfl⟩
  have h2 : 2 ≤ c := by omega
  have g0 : ((c : Int) == 0) = false := by simp; omega
  have g1 : ((c : Int) == 1) = false := by simp; omega
  clear h0 h1
  go_enter Tryd.func94, Tryd.ntmps94
  go_wp2_with (first
    | (go_at_call 113; refine (Mul_one c (by omega) _).mono ?_; rintro e w1 ⟨rfl, rfl⟩)
    | (go_at_call 54; refine (prefix_any _ _ _ _ rfl (by decide) _).mono ?_; rintro e w1 ⟨rfl, rfl⟩))
  go_ret
  refine ⟨?_, rfl⟩
  clear g0 g1
  have : c = 2 ∨ c = 3 ∨ c = 4 ∨ c = 5 ∨ c = 6 ∨ c = 7 ∨ c = 8 ∨ c = 9 ∨ c = 10 ∨ c = 11 ∨ c = 12 ∨ c = 13 ∨ c = 14 ∨ c = 15 ∨ c = 16 := by omega
  rcases this with rfl | rfl | rfl | rfl | rfl | rfl | rfl | rfl | rfl | rfl | rfl | rfl | rfl | rfl | rfl <;> rfl
end Go.Proofs.YtkckncggiicciaaDoor
/-
  The walks of num.Text, and of the page's.
-/
namespace Go.Proofs.YtkckncggiicciaaDoor
open Go.RowKit
def HexPost (n : Nat) (w : World) (e : Ending) (w' : World) : Prop :=
  ∃ j, 1 ≤ j ∧ j ≤ 16 ∧ n < 16 ^ j ∧ e = .returned (.string ⟨(hexL j n).toArray⟩) ∧ Below w.heap.size w w'
set_option maxHeartbeats 1000000 in
theorem ifmt_any (n : Nat) (w : World) (hn : n < 18446744073709551616) (hT : TzAt w) :
    Calls Tryd.prog 112 #[.int .u64 n, .int .i64 16] w (HexPost n w) := by
  have HF : Hid (Calls Tryd.prog 90 #[.slice none 0 0, .int .u64 n, .int .i64 16, .bool false, .bool false] w (FmtPost n w)) := fmtBits_any n w hn hT
  clear hT
  go_enter Tryd.func112, Tryd.ntmps112
  go_wp2_with fail
  refine HF.out.mono ?_
  rintro e w1 ⟨j, h1, h2, h3, rfl, h4⟩
  have HP : Hid (HexPost n w (.returned (.string ⟨(hexL j n).toArray⟩)) w1) := ⟨j, h1, h2, h3, rfl, h4⟩
  clear h1 h2 h3 h4
  go_wp2_with fail
  go_ret
  exact HP.out
set_option maxHeartbeats 1000000 in
theorem fmt_any (n : Nat) (w : World) (hn : n < 18446744073709551616) (hT : TzAt w) :
    Calls Tryd.prog 93 #[.int .u64 n, .int .i64 16] w (HexPost n w) := by
  have HF : Hid (Calls Tryd.prog 112 #[.int .u64 n, .int .i64 16] w (HexPost n w)) := ifmt_any n w hn hT
  clear hT
  go_enter Tryd.func93, Tryd.ntmps93
  go_wp2_with fail
  refine HF.out.mono ?_
  rintro e w1 ⟨j, h1, h2, h3, rfl, h4⟩
  have HP : Hid (HexPost n w (.returned (.string ⟨(hexL j n).toArray⟩)) w1) := ⟨j, h1, h2, h3, rfl, h4⟩
  clear h1 h2 h3 h4
  go_wp2_with fail
  go_ret
  exact HP.out
theorem bytes_app (a b : List UInt8) : (⟨a.toArray⟩ ++ ⟨b.toArray⟩ : ByteArray) = ⟨(a ++ b).toArray⟩ := bytes_ext (by rw [ByteArray.data_append]; simp)
theorem ret_str {a b : ByteArray} (h : a = b) : Ending.returned (Value.string a) = .returned (.string b) := by rw [h]
/-- A float's text. -/
def textV (x : Nat) : ByteArray := ⟨(hexL 16 (canon x)).toArray⟩
set_option maxHeartbeats 1000000 in
theorem Text_any (x : Nat) (w : World) (hx : x < 18446744073709551616) (hT : TzAt w) :
    Calls Tryd.prog 71 #[.float .f64 x] w fun e w' => e = .returned (.string (textV x)) ∧ Below w.heap.size w w' := by
  have hb := call_bits (canon x)
  have hc := canon_lt hx
  have HF : Hid (Calls Tryd.prog 93 #[.int .u64 (canon x : Int), .int .i64 16] w (HexPost (canon x) w)) := fmt_any (canon x) w hc hT
  have HV : Hid (textV x = ⟨(hexL 16 (canon x)).toArray⟩) := rfl
  have HC : Hid (∀ w, Calls Tryd.prog 60 #[.float .f64 x] w fun e w' => e = .returned (.float .f64 (canon x)) ∧ w = w') := fun w => Canon_any x w
  obtain ⟨c, hcc⟩ : ∃ c, canon x = c := ⟨_, rfl⟩
  rw [hcc] at hb hc HF HV HC
  clear hT hcc
  go_enter Tryd.func71, Tryd.ntmps71
  go_wp2_with (go_at_call 60; refine (HC.out _).mono ?_; rintro e w1 ⟨rfl, rfl⟩)
  refine HF.out.mono ?_
  rintro e w1 ⟨j, h1, h2, h3, rfl, h4⟩
  have hsz : (⟨(hexL j c).toArray⟩ : ByteArray).size = j := by
    show (hexL j c).toArray.size = j
    rw [List.size_toArray, hexL_len]
  have HR : Hid (∀ w, Calls Tryd.prog 94 #[.string ⟨#[48]⟩, .int .i64 (16 - (j : Int))] w fun e w' => e = .returned (.string ⟨(List.replicate (16 - j) 48).toArray⟩) ∧ w = w') := fun w => by
    have := Rep_any (16 - j) (by omega) w
    rw [show ((16 - j : Nat) : Int) = 16 - (j : Int) by omega] at this
    exact this
  have HE : Hid ((⟨(List.replicate (16 - j) 48).toArray⟩ ++ ⟨(hexL j c).toArray⟩ : ByteArray) = textV x) := by
    show _ = _
    rw [bytes_app, HV.out, ← hexL_pad _ _ _ h3, Nat.sub_add_cancel h2]
  obtain ⟨S, hS⟩ : ∃ S, (⟨(hexL j c).toArray⟩ : ByteArray) = S := ⟨_, rfl⟩
  rw [hS] at hsz HE ⊢
  obtain ⟨R, hR⟩ : ∃ R, (⟨(List.replicate (16 - j) 48).toArray⟩ : ByteArray) = R := ⟨_, rfl⟩
  have hrz : R.size = 16 - j := by
    rw [← hR]
    show (List.replicate (16 - j) (48 : UInt8)).toArray.size = 16 - j
    rw [List.size_toArray, List.length_replicate]
  rw [hR] at HR HE
  have h4' := Lib.hid h4
  clear hS hR h3 h4
  go_wp2_with (go_at_call 94; refine (HR.out _).mono ?_; rintro e w2 ⟨rfl, rfl⟩)
  go_ret
  exact ⟨ret_str HE.out, h4'.out⟩
set_option maxHeartbeats 1000000 in
theorem RefText_any (x : Nat) (w : World) (hx : x < 18446744073709551616) (hT : TzAt w) :
    Calls Tryd.prog 95 #[.float .f64 x] w fun e w' => e = .returned (.string (textV x)) ∧ Below w.heap.size w w' := by
  have hb := call_bits (canon x)
  have hc := canon_lt hx
  have HF : Hid (Calls Tryd.prog 93 #[.int .u64 (canon x : Int), .int .i64 16] w (HexPost (canon x) w)) := fmt_any (canon x) w hc hT
  have HV : Hid (textV x = ⟨(hexL 16 (canon x)).toArray⟩) := rfl
  have HC : Hid (∀ w, Calls Tryd.prog 70 #[.float .f64 x] w fun e w' => e = .returned (.float .f64 (canon x)) ∧ w = w') := fun w => RefCanon_any x w
  obtain ⟨c, hcc⟩ : ∃ c, canon x = c := ⟨_, rfl⟩
  rw [hcc] at hb hc HF HV HC
  clear hT hcc
  go_enter Tryd.func95, Tryd.ntmps95
  go_wp2_with (go_at_call 70; refine (HC.out _).mono ?_; rintro e w1 ⟨rfl, rfl⟩)
  refine HF.out.mono ?_
  rintro e w1 ⟨j, h1, h2, h3, rfl, h4⟩
  have H3 := Lib.hid h3
  have h4' := Lib.hid h4
  clear h3 h4
  go_wp2_with fail
  go_loopg [3] (16 - j) (fun g s2 wr => ∃ (i : Nat) (S : ByteArray), i + j + g = 16 ∧ s2 = .string S ∧ S = ⟨(List.replicate i 48 ++ hexL j c).toArray⟩ ∧ wr = w1)
  case atStart => exact ⟨0, _, by omega, rfl, rfl, rfl⟩
  case round =>
    obtain ⟨i, S, hig, rfl, hS, rfl⟩ := hrel
    have hsz : S.size = i + j := by
      rw [hS]
      show (List.replicate i (48 : UInt8) ++ hexL j c).toArray.size = i + j
      rw [List.size_toArray, List.length_append, List.length_replicate, hexL_len]
    have HS := Lib.hid hS
    have Hig := Lib.hid hig
    have hle : i + j ≤ 16 := by omega
    clear hS hig
    by_cases hlt : i + j < 16
    · go_wp2_with fail
      go_roundg (gk - 1)
      case rel => exact ⟨i + 1, _, by have := Hig.out; omega, rfl, by
        rw [HS.out]
        show (⟨[48].toArray⟩ ++ ⟨_⟩ : ByteArray) = _
        rw [bytes_app, List.replicate_succ]
        rfl, rfl⟩
      case measure => have := Hig.out; omega
    · go_wp2_with fail
      go_ret
      exact ⟨ret_str (by rw [HS.out, HV.out, ← hexL_pad _ _ _ H3.out, show i + j = 16 by omega]), h4'.out⟩
end Go.Proofs.YtkckncggiicciaaDoor
/-
  Values: their walks: the same, ahead, right.
-/
namespace Go.Proofs.YtkckncggiicciaaDoor
open Go.RowKit
set_option maxRecDepth 100000
/-- A value. -/
structure Va where
  k : Int
  x : Nat
  s : ByteArray
/-- As it is handed over. -/
def Va.v (a : Va) : Value := .agg #[.int .i64 a.k, .float .f64 a.x, .string a.s]
def eqS (s t : ByteArray) : Bool := s.toList == t.toList
def sameVa (a b : Va) : Bool := a.k == b.k && (sameB a.x b.x && eqS a.s b.s)
def lessVa (a b : Va) : Bool := if a.k ≠ b.k then decide (a.k < b.k) else if sameB a.x b.x = false then lessB a.x b.x else Op.bytesLess a.s.toList b.s.toList
/-- Is it right? (Its error's number.) -/
def chkVa (a : Va) : Int := if a.k = 0 then (if sameB a.x 0 && eqS a.s ⟨#[]⟩ then 0 else 8) else if a.k = 1 then (if canon a.x == a.x && eqS a.s ⟨#[]⟩ then 0 else 8)
  else if a.k = 2 then (if 32 < a.s.size then 2 else if sameB a.x 0 then 0 else 8) else 15
theorem bcell {W w1 : World} (hb : Below W.heap.size W w1) : (∀ b o, b < W.heap.size → w1.cell? ⟨b, o, none⟩ = W.cell? ⟨b, o, none⟩) ∧ (∀ b o, b < W.heap.size → w1.frozen? ⟨b, o, none⟩ = W.frozen? ⟨b, o, none⟩) :=
  ⟨fun b o h => hb.cell (p := ⟨b, o, none⟩) h, fun b o h => hb.frozen (p := ⟨b, o, none⟩) h⟩
theorem two_below (w : World) (o p : Obj) : Below w.heap.size w ((w.alloc o).alloc p) := ((Below.refl _ _).alloc (Nat.le_refl _) _).alloc (by simp) _
theorem one_below (w : World) (o : Obj) : Below w.heap.size w (w.alloc o) := (Below.refl _ _).alloc (Nat.le_refl _) _
set_option maxHeartbeats 400000 in
theorem vcanon_any (x : Nat) (w : World) : Calls Tryd.prog 82 #[.float .f64 x] w fun e w' => e = .returned (.bool (canon x == x)) ∧ w = w' := by
  have h1 := call_bits (canon x)
  have h2 := call_bits x
  have HC : Hid (∀ w, Calls Tryd.prog 60 #[.float .f64 x] w fun e w' => e = .returned (.float .f64 (canon x)) ∧ w = w') := fun w => Canon_any x w
  obtain ⟨c, hc⟩ : ∃ c, canon x = c := ⟨_, rfl⟩
  rw [hc] at h1 HC ⊢
  clear hc
  go_enter Tryd.func82, Tryd.ntmps82
  go_wp2_with (refine (HC.out _).mono ?_; rintro e w1 ⟨rfl, rfl⟩)
  go_ret
  refine ⟨ret_bool ?_, rfl⟩
  rw [Bool.eq_iff_iff]
  simp
  try omega
theorem nought_eq {x : Nat} (hx : x < 18446744073709551616) : sameB x 0 = (x == 0) := by
  rw [same_canon hx (by omega), show canon 0 = 0 by decide, Bool.eq_iff_iff]
  simp
  constructor
  · intro h
    unfold canon at h
    split at h
    · omega
    · exact h
  · rintro rfl
    decide
set_option maxHeartbeats 3200000 in
theorem VCheck_any (a : Va) (w : World) (ha : a.x < 18446744073709551616) (hs : a.s.size ≤ maxLen) :
    Calls Tryd.prog 58 #[a.v] w fun e w' => e = .returned (.int .i64 (chkVa a)) ∧ Below w.heap.size w w' := by
  obtain ⟨k, x, s⟩ := a
  unfold chkVa Va.v eqS
  dsimp only at ha hs ⊢
  unfold maxLen at hs
  have HN : Hid (∀ w, Calls Tryd.prog 81 #[.float .f64 x, .float .f64 0] w fun e w' => e = .returned (.bool (sameB x 0)) ∧ w = w') := fun w => Same_any x 0 w ha (by omega)
  have HC : Hid (∀ w, Calls Tryd.prog 82 #[.float .f64 x] w fun e w' => e = .returned (.bool (canon x == x)) ∧ w = w') := fun w => vcanon_any x w
  obtain ⟨t, ht⟩ : ∃ t, s.toList = t := ⟨_, rfl⟩
  have he : ((⟨#[]⟩ : ByteArray).toList) = [] := by rw [ByteArray.toList_eq]
  rw [ht, he]
  rcases Decidable.em (k = 0) with rfl | h0
  · rw [if_pos rfl]
    cases hn : sameB x 0
    all_goals
      cases hb : (t == ([] : List UInt8))
      all_goals
        rw [hn] at HN
        simp only [Bool.and_self, Bool.and_false, Bool.and_true, Bool.false_eq_true, if_false, if_true]
        go_enter Tryd.func58, Tryd.ntmps58
        go_wp2_with (refine (HN.out _).mono ?_; rintro e w1 ⟨rfl, rfl⟩)
        go_ret
        exact ⟨rfl, one_below _ _⟩
  rw [if_neg h0]
  rcases Decidable.em (k = 1) with rfl | h1
  · rw [if_pos rfl]
    cases hn : (canon x == x)
    all_goals
      cases hb : (t == ([] : List UInt8))
      all_goals
        rw [hn] at HC
        simp only [Bool.and_self, Bool.and_false, Bool.and_true, Bool.false_eq_true, if_false, if_true]
        go_enter Tryd.func58, Tryd.ntmps58
        go_wp2_with (first | (go_at_call 81; refine (HN.out _).mono ?_; rintro e w1 ⟨rfl, rfl⟩) | (go_at_call 82; refine (HC.out _).mono ?_; rintro e w1 ⟨rfl, rfl⟩))
        go_ret
        exact ⟨rfl, one_below _ _⟩
  rw [if_neg h1]
  rcases Decidable.em (k = 2) with rfl | h2
  · rw [if_pos rfl]
    rcases Decidable.em (32 < s.size) with h32 | h32
    case' inl => rw [if_pos h32]
    case' inr =>
      rw [if_neg h32]
      cases hn : sameB x 0
    all_goals
      try rw [hn] at HN
      try simp only [Bool.false_eq_true, if_false, if_true]
      go_enter Tryd.func58, Tryd.ntmps58
      go_wp2_with (refine (HN.out _).mono ?_; rintro e w1 ⟨rfl, rfl⟩)
      go_ret
      exact ⟨rfl, one_below _ _⟩
  rw [if_neg h2]
  have g0 : (k == 0) = false := by simpa using h0
  have g1 : (k == 1) = false := by simpa using h1
  have g2 : (k == 2) = false := by simpa using h2
  go_enter Tryd.func58, Tryd.ntmps58
  go_wp2_with (refine (HN.out _).mono ?_; rintro e w1 ⟨rfl, rfl⟩)
  go_ret
  exact ⟨rfl, one_below _ _⟩
end Go.Proofs.YtkckncggiicciaaDoor
/-
  Entries of a log; their lines: in plain Lean, and in memory.
-/
namespace Go.Proofs.YtkckncggiicciaaDoor
open Go.RowKit
set_option maxRecDepth 100000
/-- An entry. -/
structure En where
  term : Int
  kind : Int
  client : Int
  seq : Int
  ck : Int
  key : ByteArray
  old : Va
  val : Va
  full : Int
  wit : Int
  learn : Int
  lw : Int
def En.cells (e : En) : List Value := [.int .i64 e.term, .int .i64 e.kind, .int .i64 e.client, .int .i64 e.seq, .int .i64 e.ck, .string e.key, .int .i64 e.old.k, .float .f64 e.old.x, .string e.old.s, .int .i64 e.val.k, .float .f64 e.val.x, .string e.val.s, .int .i64 e.full, .int .i64 e.wit, .int .i64 e.learn, .int .i64 e.lw]
theorem En.cells_len (e : En) : e.cells.length = 16 := rfl
theorem En.cells_one (e : En) : ∀ v ∈ e.cells, v.oneCell' = true := by
  intro v hv
  have : e.cells.all (·.oneCell') = true := rfl
  exact List.all_eq_true.1 this v hv
/-- Its numbers are of 64 bits. -/
structure En.In (e : En) : Prop where
  term : In64 e.term
  client : In64 e.client
  seq : In64 e.seq
  full : In64 e.full
  wit : In64 e.wit
  learn : In64 e.learn
  lw : In64 e.lw
theorem size16 : (Tryd.prog.info? 64).map (·.size) = some 16 := by kernel_rfl
/-- An entry's line. -/
def headL (idx term : Int) : List UInt8 := wordsL [Lib.itoa idx, Lib.itoa term]
def entL (idx : Int) (e : En) : List UInt8 :=
  if e.kind = 0 then wordsL [headL idx e.term, [110, 111, 110, 101]]
  else if e.kind = 1 then wordsL [headL idx e.term, [99, 97, 108, 108], Lib.itoa e.client, Lib.itoa e.seq]
  else if e.kind = 2 then wordsL [headL idx e.term, [99, 111, 110, 102], Lib.itoa e.full, Lib.itoa e.wit, Lib.itoa e.learn, Lib.itoa e.lw]
  else wordsL [headL idx e.term, [63]]
def e0 : En := ⟨0, 0, 0, 0, 0, ⟨#[]⟩, ⟨0, 0, ⟨#[]⟩⟩, ⟨0, 0, ⟨#[]⟩⟩, 0, 0, 0, 0⟩
/-- The first lines of a log. -/
def logL (base : Int) (es : List En) (n : Nat) : List (List UInt8) := (List.range n).map fun (i : Nat) => entL (base + i + 1) (es.getD i e0)
theorem logL_succ (base : Int) (es : List En) (n : Nat) : logL base es (n + 1) = logL base es n ++ [entL (base + n + 1) (es.getD n e0)] := by
  unfold logL
  rw [List.range_succ, List.map_append]
  rfl
theorem logL_len (base : Int) (es : List En) (n : Nat) : (logL base es n).length = n := by simp [logL]
theorem headL_len {idx term : Int} (h1 : In64 idx) (h2 : In64 term) : (headL idx term).length ≤ 43 := by
  have q1 := Lib.itoa_length_le _ h1.1 h1.2
  have q2 := Lib.itoa_length_le _ h2.1 h2.2
  unfold headL wordsL
  rw [Lib.join_cons]
  simp [Lib.joinTail]
  omega
theorem entL_len {idx : Int} {e : En} (h1 : In64 idx) (h : e.In) : (entL idx e).length ≤ 1000 := by
  have q0 := headL_len h1 h.term
  have q1 := Lib.itoa_length_le _ h.client.1 h.client.2
  have q2 := Lib.itoa_length_le _ h.seq.1 h.seq.2
  have q3 := Lib.itoa_length_le _ h.full.1 h.full.2
  have q4 := Lib.itoa_length_le _ h.wit.1 h.wit.2
  have q5 := Lib.itoa_length_le _ h.learn.1 h.learn.2
  have q6 := Lib.itoa_length_le _ h.lw.1 h.lw.2
  unfold entL wordsL
  repeat' split
  all_goals
    rw [Lib.join_cons]
    simp [Lib.joinTail]
    omega
/-- A row of entries, read. -/
def EnRows (w : World) (B : Nat) (A : Option Addr) (m c : Nat) (es : List En) : Prop := Rd w B 16 A m c (es.map En.cells).flatten
theorem en_row {w : World} {B m c : Nat} {A : Option Addr} {es : List En} (h : EnRows w B A m c es) (hl : es.length = m) {k : Nat} (hk : k < m) :
    ∃ b off e, A = some ⟨b, off, none⟩ ∧ b < B ∧ es[k]? = some e ∧ es.getD k e0 = e ∧ e ∈ es ∧ w.rangeAt b (off + k * 16) e.cells := by
  obtain ⟨b, off, x, h1, h2, h3, h4, h5⟩ := rd_row (xss := es.map En.cells) h (fun x hx => by
    obtain ⟨e, _, rfl⟩ := List.mem_map.1 hx
    exact e.cells_len) (by rw [List.length_map]; exact hl) hk
  rw [List.getElem?_map] at h3
  cases hq : es[k]? with
  | none => rw [hq] at h3; cases h3
  | some e =>
    rw [hq] at h3
    injection h3 with h3
    subst h3
    exact ⟨b, off, e, h1, h2, rfl, by simp [List.getD, hq], List.mem_of_getElem? hq, h5⟩
end Go.Proofs.YtkckncggiicciaaDoor
/-
  The walk of value.Text.
-/
namespace Go.Proofs.YtkckncggiicciaaDoor
open Go.RowKit
set_option maxRecDepth 100000
/-- Two digits for each byte. -/
def hexT (l : List UInt8) : List UInt8 := l.flatMap fun c => [hexd (c.toNat / 16), hexd (c.toNat % 16)]
theorem hexT_snoc (l : List UInt8) (c : UInt8) : hexT (l ++ [c]) = hexT l ++ [hexd (c.toNat / 16), hexd (c.toNat % 16)] := by simp [hexT]
theorem hexT_len (l : List UInt8) : (hexT l).length = 2 * l.length := by
  induction l with
  | nil => rfl
  | cons c l ih => simp [hexT] at ih ⊢; omega
theorem digs16_at {d : Nat} (hd : d < 16) (h : d < (⟨#[48, 49, 50, 51, 52, 53, 54, 55, 56, 57, 97, 98, 99, 100, 101, 102]⟩ : ByteArray).size) :
    (⟨#[48, 49, 50, 51, 52, 53, 54, 55, 56, 57, 97, 98, 99, 100, 101, 102]⟩ : ByteArray)[d] = hexd d := by
  have : d = 0 ∨ d = 1 ∨ d = 2 ∨ d = 3 ∨ d = 4 ∨ d = 5 ∨ d = 6 ∨ d = 7 ∨ d = 8 ∨ d = 9 ∨ d = 10 ∨ d = 11 ∨ d = 12 ∨ d = 13 ∨ d = 14 ∨ d = 15 := by omega
  rcases this with rfl | rfl | rfl | rfl | rfl | rfl | rfl | rfl | rfl | rfl | rfl | rfl | rfl | rfl | rfl | rfl <;> rfl
theorem and_15b : ∀ n : Nat, n < 256 → bits .and .u8 (n : Int) 15 = ((n % 16 : Nat) : Int) := by decide +kernel
/-- The row that a string's bytes lie in. -/
theorem str_cell (w : World) (s : ByteArray) (j : Nat) (hj : j < s.data.toList.length) : (Lib.bytesWorld w 5 s).cell? ⟨w.heap.size, j, none⟩ = some (.int .u8 (s.data.toList[j].toNat : Int)) := by
  rw [Lib.bytesWorld_cell w 5 s j (by simpa using hj)]
  simp [List.getD, List.getElem?_eq_getElem hj]
theorem str_below (w : World) (s : ByteArray) : Below w.heap.size w (Lib.bytesWorld w 5 s) :=
  ⟨by simp [Lib.bytesWorld, World.freeze, World.alloc, World.drew, -World.alloc_eq, -World.drew_eq], by simp [Lib.bytesWorld, World.freeze, World.alloc, World.drew, -World.alloc_eq, -World.drew_eq], by simp [Lib.bytesWorld, World.freeze, World.alloc, World.drew, -World.alloc_eq, -World.drew_eq], by rw [Lib.bytesWorld_size]; omega, fun k hk => Lib.bytesWorld_at_old w _ s k hk⟩
set_option maxHeartbeats 3200000 in
theorem VText_two (x : Nat) (s : ByteArray) (w : World) (hs : s.size ≤ maxLen) (hc : chkVa ⟨2, x, s⟩ = 0) (hx : x < 18446744073709551616) :
    Calls Tryd.prog 47 #[.agg #[.int .i64 2, .float .f64 x, .string s]] w fun e w' => e = .returned (.tuple #[.string ⟨(116 :: hexT s.data.toList).toArray⟩, .int .i64 0]) ∧ Below w.heap.size w w' := by
  have HC : Hid (∀ w, Calls Tryd.prog 58 #[.agg #[.int .i64 2, .float .f64 x, .string s]] w fun e w' => e = .returned (.int .i64 0) ∧ Below w.heap.size w w') := fun w => by
    have := VCheck_any ⟨2, x, s⟩ w hx hs
    rw [hc] at this
    exact this
  go_enter Tryd.func47, Tryd.ntmps47
  go_wp2_with fail
  refine (HC.out _).mono ?_
  rintro e w1 ⟨rfl, hb1⟩
  have hr1 : w1.heap[w.heap.size]? = some (.cells #[.int .i64 2, .float .f64 x, .string s] 56 (0, 0)) := (hb1.block _ (by simp)).trans (heap_alloc_new w _)
  have c0 : w1.cell? ⟨w.heap.size, 0, none⟩ = some (.int .i64 2) := cell_of_row _ _ _ _ _ _ hr1
  have c1 : w1.cell? ⟨w.heap.size, 1, none⟩ = some (.float .f64 x) := cell_of_row _ _ _ _ _ _ hr1
  have c2 : w1.cell? ⟨w.heap.size, 2, none⟩ = some (.string s) := cell_of_row _ _ _ _ _ _ hr1
  have hz1 : w.heap.size < w1.heap.size := by have := hb1.size; simp at this; omega
  have hbw1 : Below w.heap.size w w1 := (one_below w _).trans (hb1.mono (by simp))
  have hcv := fun w => Lib.run_convert_string_bytes (P := Tryd.prog) w 9 26 5 s Tryd.underlying9 Tryd.underlying26 Tryd.underlying5
  clear hr1 hb1
  go_wp2_with fail
  obtain ⟨l, hl⟩ : ∃ l, s.data.toList = l := ⟨_, rfl⟩
  have hlen : l.length = s.size := by rw [← hl]; exact Array.length_toList
  obtain ⟨w2, hw2⟩ : ∃ w2, w1.alloc (.cells #[.int .u8 116] 5) = w2 := ⟨_, rfl⟩
  have hz2 : w2.heap.size = w1.heap.size + 1 := by rw [← hw2]; simp
  have hb2 : Below w.heap.size w w2 := by rw [← hw2]; exact hbw1.alloc hbw1.size _
  have ho2 : OwnB w2 w.heap.size (.slice (some ⟨w1.heap.size, 0, none⟩) 1 1) [116] := by rw [← hw2]; exact own_lit hbw1.size 116
  have hrow : ∀ j (hj : j < l.length), (Lib.bytesWorld w2 5 s).cell? ⟨w1.heap.size + 1, j, none⟩ = some (.int .u8 (l[j].toNat : Int)) := by
    subst hl
    intro j hj
    rw [← hz2]
    exact str_cell w2 s j hj
  have hb3 : Below w2.heap.size w2 (Lib.bytesWorld w2 5 s) := str_below w2 s
  have hz3 : (Lib.bytesWorld w2 5 s).heap.size = w1.heap.size + 2 := by rw [Lib.bytesWorld_size, hz2]
  rw [hw2]
  obtain ⟨w3, hw3⟩ : ∃ w3, Lib.bytesWorld w2 5 s = w3 := ⟨_, rfl⟩
  rw [hw3] at hrow hb3 hz3 ⊢
  have ho3 : OwnB w3 w.heap.size (.slice (some ⟨w1.heap.size, 0, none⟩) 1 1) [116] := ho2.below hb3
  have hbw3 : Below w.heap.size w w3 := hb2.trans (hb3.mono hb2.size)
  obtain ⟨C, hC⟩ : ∃ C, grownCap w2 s.size 0 5 = C := ⟨_, rfl⟩
  rw [hC]
  have Hrow := Lib.hid hrow
  have Hlen := Lib.hid hlen
  have Hl := Lib.hid hl
  clear hw2 hw3 hC c0 c1 c2 hcv hrow hlen hl ho2 hb2 hb3 hz2
  have h32 : s.size ≤ 32 := by
    unfold chkVa at hc
    simp at hc
    by_cases h : 32 < s.size
    · rw [if_pos h] at hc; cases hc
    · omega
  clear hc
  go_loopg [5, 28] s.size (fun g s5 s28 wr => ∃ i : Nat, i + g = s.size ∧ s28 = .int .i64 i ∧ OwnB wr w.heap.size s5 (116 :: hexT (l.take i)) ∧ s5.ownBlock ≠ some (w1.heap.size + 1) ∧ Below w.heap.size w wr ∧ w1.heap.size + 2 ≤ wr.heap.size ∧ wr.heap[w1.heap.size + 1]? = w3.heap[w1.heap.size + 1]?)
  case atStart => exact ⟨0, by omega, rfl, ho3, by simp [Value.ownBlock], hbw3, by omega, rfl⟩
  case round =>
    obtain ⟨i, hig, rfl, ho, hne, hb, hz, hk⟩ := hrel
    have hin : i ≤ s.size := by omega
    have Hig := Lib.hid hig
    have Ho := Lib.hid ho
    have Hne := Lib.hid hne
    have Hk := Lib.hid hk
    clear hig ho hne hk
    by_cases hlt : i < s.size
    · have hil : i < l.length := by rw [Hlen.out]; exact hlt
      obtain ⟨c, hc⟩ : ∃ c, l[i]'hil = c := ⟨_, rfl⟩
      have hcell : wr.cell? ⟨w1.heap.size + 1, i, none⟩ = some (.int .u8 (c.toNat : Int)) := by
        rw [← hc]
        exact (World.cell?_of_block (a := ⟨w1.heap.size + 1, i, none⟩) Hk.out).trans (Hrow.out i hil)
      have Hst : Hid (l.take (i + 1) = l.take i ++ [c]) := by
        unfold Hid
        rw [← hc]
        exact List.take_succ_eq_append_getElem hil
      clear hc
      have hc256 := c.toNat_lt
      obtain ⟨d1, hd1⟩ : ∃ d, c.toNat / 16 = d := ⟨_, rfl⟩
      obtain ⟨d2, hd2⟩ : ∃ d, c.toNat % 16 = d := ⟨_, rfl⟩
      have hq : (c.toNat : Int) / 16 = (d1 : Int) := by omega
      have hand := and_15b c.toNat hc256
      rw [hd2] at hand
      have h1 : d1 < 16 := by omega
      have h2 : d2 < 16 := by omega
      have g1 := fun h => digs16_at h1 h
      have g2 := fun h => digs16_at h2 h
      have Hd : Hid (c.toNat / 16 = d1 ∧ c.toNat % 16 = d2) := ⟨hd1, hd2⟩
      clear hd1 hd2
      go_wp2_with fail
      go_region_held3 (fun w' => Below w.heap.size w w') ((first | assumption | exact Below.drew (by assumption) | exact Below.alloc (Below.drew (by assumption)) (Below.size (by assumption)) _)) ((first
        | (refine step_appBAt rfl (.tmp 32) (.tmp 39) rfl w.heap.size u5 _ rfl (World.ownsRow.alloc Ho.out _) (wr.heap.size + 1) (some ⟨wr.heap.size, 0, none⟩) 2 2 [hexd d1, hexd d2] rfl (by_two wr (hexd d1) (hexd d2)) (by rw [List.length_cons, hexT_len, List.length_take]; omega) (by simp; omega) ?_
           intro v4 w4 ho4 hg4 hw4
           have hb4 : Below w.heap.size w w4 := (Below.alloc (Below.drew hb) hb.size _).grown hg4 (by simp; omega) (fun k hk => (World.ownsRow.lt Ho.out k hk).1))))
      all_goals
        have hR : w1.heap.size + 1 < wr.heap.size := by omega
        have hne4 : v4.ownBlock ≠ some (w1.heap.size + 1) := by
          rcases hw4 with h | h
          · rw [h]; exact Hne.out
          · rw [h]
            intro e
            injection e with e
            simp at e
            omega
        have hk4 : w4.heap[w1.heap.size + 1]? = w3.heap[w1.heap.size + 1]? := by
          rw [hg4.block _ (by simp; omega) (fun e => Hne.out e.symm)]
          exact (Below.heap_alloc _ _ _ hR).trans Hk.out
        have hz4 : w1.heap.size + 2 ≤ w4.heap.size := by have := hg4.size; simp at this; omega
        have Hne4 := Lib.hid hne4
        have Hk4 := Lib.hid hk4
        have Ho4 : Hid (OwnB w4 w.heap.size v4 (116 :: hexT (l.take (i + 1)))) := by
          unfold Hid
          rw [Hst.out, hexT_snoc, Hd.out.1, Hd.out.2]
          exact ho4
        clear hw4 hg4 hne4 hk4 ho4 hcell hq hand g1 g2
        go_wp2_with fail
        go_roundg (gk - 1)
      all_goals first
        | exact ⟨i + 1, by have := Hig.out; omega, by go_num, Ho4.out, Hne4.out, hb4, hz4, Hk4.out⟩
        | (have := Hig.out; omega)
    · obtain rfl : i = s.size := by omega
      obtain ⟨A, C2, rfl, hy⟩ := own_by Ho.out (n := 1 + 2 * s.size) (by rw [List.length_cons, hexT_len, List.length_take, Hlen.out]; omega)
      have hfin : Hid ((⟨(116 :: hexT (l.take s.size)).toArray⟩ : ByteArray) = ⟨(116 :: hexT s.data.toList).toArray⟩) := by
        unfold Hid
        rw [Hl.out, List.take_of_length_le (by rw [Hlen.out]; exact Nat.le_refl _)]
      have hcv := conv_by hy
      rw [hfin.out] at hcv
      clear hy
      go_wp2_with fail
      go_ret2
      exact ⟨rfl, hb⟩
end Go.Proofs.YtkckncggiicciaaDoor
/-
  Two values' sum, and the greater one: the walks.
-/
namespace Go.Proofs.YtkckncggiicciaaDoor
open Go.RowKit
set_option maxRecDepth 100000
def zeroVa : Va := ⟨0, 0, ⟨#[]⟩⟩
def joinV (mk : Nat → Nat → Nat) (a b : Va) : Va × Int :=
  if chkVa a ≠ 0 then (zeroVa, chkVa a) else if chkVa b ≠ 0 then (zeroVa, chkVa b) else if a.k = 0 then (b, 0) else if a.k ≠ 1 ∨ b.k ≠ 1 then (zeroVa, 8) else (⟨1, mk a.x b.x, ⟨#[]⟩⟩, 0)
def JPost (mk : Nat → Nat → Nat) (a b : Va) (w : World) (e : Ending) (w' : World) : Prop :=
  e = .returned (.tuple #[(joinV mk a b).1.v, .int .i64 (joinV mk a b).2]) ∧ Below w.heap.size w w'
theorem size3 : (Tryd.prog.info? 56).map (·.size) = some 3 := by kernel_rfl
theorem val_one (k : Int) (x : Nat) (s : ByteArray) : (#[.int .i64 k, .float .f64 x, .string s] : Array Value).all (·.oneCell') = true := by simp [Value.oneCell']
theorem results_val {fn : Func} {c t : Nat} (h : fn.results = #[.cell c 56, .tmp t]) (tmps : Array Value) (w : World) (g : Nat) (k : Int) (x : Nat) (s : ByteArray) (n : Int)
    (hp : tmps.getD c undef = .pointer (some ⟨g, 0, none⟩)) (h5 : tmps.getD t undef = .int .i64 n) (hg : w.heap[g]? = some (.cells #[.int .i64 k, .float .f64 x, .string s] 56 (0, 0))) :
    (results fn tmps).run Tryd.prog w = .ok (.tuple #[.agg #[.int .i64 k, .float .f64 x, .string s], .int .i64 n]) w := by
  have hl := run_loadVar_row (P := Tryd.prog) w g 56 56 #[.int .i64 k, .float .f64 x, .string s] (0, 0) _ hg Tryd.underlying56 rfl size3
  have hp' : tmps[c]?.getD undef = .pointer (some ⟨g, 0, none⟩) := by simpa using hp
  have h5' : tmps[t]?.getD undef = .int .i64 n := by simpa using h5
  simp [results, h, hp', h5', asAddr, hl]
theorem chk_vals (a : Va) : chkVa a = 0 ∨ chkVa a = 8 ∨ chkVa a = 2 ∨ chkVa a = 15 := by
  unfold chkVa
  repeat' split
  all_goals simp
end Go.Proofs.YtkckncggiicciaaDoor
/-
  Two values' sum, and the greater one: value.Add, value.Max.
-/
namespace Go.Proofs.YtkckncggiicciaaDoor
open Go.RowKit
set_option maxRecDepth 100000
theorem Qt_below {w : World} {v : Value} {e : Ending} {w' : World} (h : Qt w v e w') : e = .returned v ∧ Below w.heap.size w w' := by
  obtain ⟨h1, m, rfl⟩ := h
  exact ⟨h1, ⟨rfl, rfl, rfl, Nat.le_refl _, fun k _ => rfl⟩⟩
end Go.Proofs.YtkckncggiicciaaDoor
/-
  Values: the page's walks: right, ahead, the same.
-/
namespace Go.Proofs.YtkckncggiicciaaDoor
open Go.RowKit
set_option maxRecDepth 100000
set_option maxHeartbeats 400000 in
theorem Rnought_any (x : Nat) (w : World) : Calls Tryd.prog 51 #[.float .f64 x] w fun e w' => e = .returned (.bool (x == 0)) ∧ w = w' := by
  have h1 := call_bits x
  go_enter Tryd.func51, Tryd.ntmps51
  go_wp2_with fail
  go_ret
  refine ⟨ret_bool ?_, rfl⟩
  rw [Bool.eq_iff_iff]
  simp
  try omega
set_option maxHeartbeats 1600000 in
theorem keepFloat_any (a b : Nat) (w : World) (ha : a < 18446744073709551616) (hb : b < 18446744073709551616) : Calls Tryd.prog 20 #[.float .f64 a, .float .f64 b] w fun e w' => e = .returned (.bool (sameB a b)) ∧ w = w' := by
  have h1 := call_bits a
  have h2 := call_bits b
  have e1 := cmp_ne_self a
  have e2 := cmp_ne_self b
  have hs := same_canon ha hb
  unfold canon at hs
  cases na : isNan a
  all_goals cases nb : isNan b
  all_goals
    rw [na] at e1 hs
    rw [nb] at e2 hs
    simp only [Bool.false_eq_true, if_false, if_true] at hs
    have HS := Lib.hid hs
    have Na := Lib.hid na
    have Nb := Lib.hid nb
    clear hs na nb
    go_enter Tryd.func20, Tryd.ntmps20
    go_wp2_with fail
    go_ret
    refine ⟨ret_bool ?_, rfl⟩
    rw [HS.out, Bool.eq_iff_iff]
    have e1 := Na.out
    have e2 := Nb.out
    simp
    first
      | done
      | omega
      | (constructor
         · intro e
           have e' : a = b := by omega
           rw [e', e2] at e1
           cases e1
         · intro e
           first
             | (rw [e] at e1; exact absurd e1 (by decide))
             | (rw [← e] at e2; exact absurd e2 (by decide)))
set_option maxHeartbeats 1600000 in
theorem keepVa_any (a b : Va) (w : World) (ha : a.x < 18446744073709551616) (hb : b.x < 18446744073709551616) :
    Calls Tryd.prog 28 #[a.v, b.v] w fun e w' => e = .returned (.bool (sameVa a b)) ∧ Below w.heap.size w w' := by
  obtain ⟨k1, x1, s1⟩ := a
  obtain ⟨k2, x2, s2⟩ := b
  unfold sameVa Va.v eqS
  dsimp only at ha hb ⊢
  rcases Decidable.em (k1 = k2) with rfl | hk
  · cases hs : sameB x1 x2
    all_goals
      go_enter Tryd.func28, Tryd.ntmps28
      go_wp2_with (refine (keepFloat_any _ _ _ ha hb).mono ?_; rintro e w1 ⟨rfl, rfl⟩)
      go_ret
      exact ⟨ret_bool (by simp), two_below _ _ _⟩
  · have hk' : (k1 == k2) = false := by simpa using hk
    rw [hk', Bool.false_and]
    go_enter Tryd.func28, Tryd.ntmps28
    go_wp2_with fail
    go_ret
    exact ⟨rfl, two_below _ _ _⟩
set_option maxHeartbeats 6400000 in
theorem RCheck_any (a : Va) (w : World) (ha : a.x < 18446744073709551616) (hs : a.s.size ≤ maxLen) :
    Calls Tryd.prog 25 #[a.v] w fun e w' => e = .returned (.int .i64 (chkVa a)) ∧ Below w.heap.size w w' := by
  obtain ⟨k, x, s⟩ := a
  unfold chkVa Va.v eqS
  dsimp only at ha hs ⊢
  unfold maxLen at hs
  rw [nought_eq ha]
  have HN : Hid (∀ w, Calls Tryd.prog 51 #[.float .f64 x] w fun e w' => e = .returned (.bool (x == 0)) ∧ w = w') := fun w => Rnought_any x w
  have HC : Hid (∀ w, Calls Tryd.prog 44 #[] w fun e w' => e = .returned (.float .f64 9221120237041090561) ∧ w = w') := fun w => RefNaN_any w
  have h1 := call_bits x
  have h2 := call_bits 9221120237041090561
  have hne := cmp_ne_self x
  obtain ⟨t, ht⟩ : ∃ t, s.toList = t := ⟨_, rfl⟩
  have he : ((⟨#[]⟩ : ByteArray).toList) = [] := by rw [ByteArray.toList_eq]
  rw [ht, he]
  have hcn : (canon x == x) = (!isNan x || decide (x = 9221120237041090561)) := by
    unfold canon
    cases isNan x
    · simp
    · rw [Bool.eq_iff_iff]
      simp
      exact eq_comm
  have h0n : x = 0 → isNan x = false := by rintro rfl; decide
  rw [hcn]
  clear hcn
  rcases Decidable.em (k = 0) with rfl | h0
  · rw [if_pos rfl]
    cases hn : (x == 0)
    all_goals
      cases hb : (t == ([] : List UInt8))
      all_goals
        rw [hn] at HN
        have hnn : x = 0 → isNan x = false := h0n
        simp only [Bool.and_self, Bool.and_false, Bool.and_true, Bool.false_eq_true, if_false, if_true]
        try rw [h0n (by simpa using hn)] at hne
        go_enter Tryd.func25, Tryd.ntmps25
        go_wp2_with (first
          | (go_at_call 51; refine (HN.out _).mono ?_; rintro e w1 ⟨rfl, rfl⟩)
          | (go_at_call 44; refine (HC.out _).mono ?_; rintro e w1 ⟨rfl, rfl⟩))
        go_ret
        first
          | exact ⟨rfl, one_below _ _⟩
          | exact ⟨rfl, (one_below _ _).trans ⟨rfl, rfl, rfl, Nat.le_refl _, fun k _ => rfl⟩⟩
  rw [if_neg h0]
  rcases Decidable.em (k = 1) with rfl | h1'
  · rw [if_pos rfl]
    cases hb : (t == ([] : List UInt8))
    all_goals
      cases nx : isNan x
      case' true => rcases Decidable.em (x = 9221120237041090561) with hx | hx
      all_goals
        rw [nx] at hne
        try rw [decide_eq_true hx]
        try rw [decide_eq_false hx]
        simp only [Bool.not_true, Bool.not_false, Bool.or_self, Bool.or_true, Bool.true_or, Bool.and_self, Bool.and_false, Bool.and_true, Bool.false_eq_true, if_false, if_true]
        clear nx
        go_enter Tryd.func25, Tryd.ntmps25
        go_wp2_with (first
          | (go_at_call 51; refine (HN.out _).mono ?_; rintro e w1 ⟨rfl, rfl⟩)
          | (go_at_call 44; refine (HC.out _).mono ?_; rintro e w1 ⟨rfl, rfl⟩))
        go_ret
        first
          | exact ⟨rfl, one_below _ _⟩
          | exact ⟨rfl, (one_below _ _).trans ⟨rfl, rfl, rfl, Nat.le_refl _, fun k _ => rfl⟩⟩
  rw [if_neg h1']
  rcases Decidable.em (k = 2) with rfl | h2'
  · rw [if_pos rfl]
    rcases Decidable.em (32 < s.size) with h32 | h32
    case' inl => rw [if_pos h32]
    case' inr =>
      rw [if_neg h32]
      cases hn : (x == 0)
    all_goals
      try rw [hn] at HN
      try simp only [Bool.false_eq_true, if_false, if_true]
      try rw [h0n (by simpa using hn)] at hne
      go_enter Tryd.func25, Tryd.ntmps25
      go_wp2_with (first
        | (go_at_call 51; refine (HN.out _).mono ?_; rintro e w1 ⟨rfl, rfl⟩)
        | (go_at_call 44; refine (HC.out _).mono ?_; rintro e w1 ⟨rfl, rfl⟩))
      go_ret
      first
        | exact ⟨rfl, one_below _ _⟩
        | exact ⟨rfl, (one_below _ _).trans ⟨rfl, rfl, rfl, Nat.le_refl _, fun k _ => rfl⟩⟩
  rw [if_neg h2']
  rcases Decidable.em (k < 0) with hk | hk
  case' inr => have hk2 : 2 < k := by omega
  all_goals
    go_enter Tryd.func25, Tryd.ntmps25
    go_wp2_with (first
      | (go_at_call 51; refine (HN.out _).mono ?_; rintro e w1 ⟨rfl, rfl⟩)
      | (go_at_call 44; refine (HC.out _).mono ?_; rintro e w1 ⟨rfl, rfl⟩))
    go_ret
    first
      | exact ⟨rfl, one_below _ _⟩
      | exact ⟨rfl, (one_below _ _).trans ⟨rfl, rfl, rfl, Nat.le_refl _, fun k _ => rfl⟩⟩
end Go.Proofs.YtkckncggiicciaaDoor
/-
  Two values' sum, and the greater one: the page's walks.
-/
namespace Go.Proofs.YtkckncggiicciaaDoor
open Go.RowKit
set_option maxRecDepth 100000
set_option maxHeartbeats 6400000 in
theorem RJoin_ADD (mk : Nat → Nat → Nat) (a b : Va) (w : World) (ha : a.x < 18446744073709551616) (hb : b.x < 18446744073709551616) (sa : a.s.size ≤ maxLen) (sb : b.s.size ≤ maxLen)
    (HM : ∀ w, Calls Tryd.prog 116 #[.float .f64 a.x, .float .f64 b.x] w fun e w' => e = .returned (.float .f64 (mk a.x b.x)) ∧ Below w.heap.size w w') :
    Calls Tryd.prog 100 #[a.v, b.v, .bool true] w (JPost mk a b w) := by
  have HC1 : Hid (∀ w, Calls Tryd.prog 25 #[a.v] w fun e w' => e = .returned (.int .i64 (chkVa a)) ∧ Below w.heap.size w w') := fun w => RCheck_any a w ha sa
  have HC2 : Hid (∀ w, Calls Tryd.prog 25 #[b.v] w fun e w' => e = .returned (.int .i64 (chkVa b)) ∧ Below w.heap.size w w') := fun w => RCheck_any b w hb sb
  have hv1 := chk_vals a
  have hv2 := chk_vals b
  have HP1 : Hid (∀ c, chkVa a = c → c ≠ 0 → ∀ w', Below w.heap.size w w' → JPost mk a b w (.returned (.tuple #[zeroVa.v, .int .i64 c])) w') := by
    rintro c rfl hc w' hb
    unfold JPost joinV
    rw [if_pos hc]
    exact ⟨rfl, hb⟩
  have HP2 : Hid (∀ c, chkVa a = 0 → chkVa b = c → c ≠ 0 → ∀ w', Below w.heap.size w w' → JPost mk a b w (.returned (.tuple #[zeroVa.v, .int .i64 c])) w') := by
    rintro c h1 rfl hc w' hb
    unfold JPost joinV
    rw [if_neg (fun h => h h1), if_pos hc]
    exact ⟨rfl, hb⟩
  have HP3 : Hid (chkVa a = 0 → chkVa b = 0 → a.k = 0 → ∀ w', Below w.heap.size w w' → JPost mk a b w (.returned (.tuple #[b.v, .int .i64 0])) w') := by
    rintro h1 h2 h3 w' hb
    unfold JPost joinV
    rw [if_neg (fun h => h h1), if_neg (fun h => h h2), if_pos h3]
    exact ⟨rfl, hb⟩
  have HP4 : Hid (chkVa a = 0 → chkVa b = 0 → a.k ≠ 0 → (a.k ≠ 1 ∨ b.k ≠ 1) → ∀ w', Below w.heap.size w w' → JPost mk a b w (.returned (.tuple #[zeroVa.v, .int .i64 8])) w') := by
    rintro h1 h2 h3 h4 w' hb
    unfold JPost joinV
    rw [if_neg (fun h => h h1), if_neg (fun h => h h2), if_neg h3, if_pos h4]
    exact ⟨rfl, hb⟩
  have HP5 : Hid (chkVa a = 0 → chkVa b = 0 → a.k = 1 → b.k = 1 → ∀ w', Below w.heap.size w w' → JPost mk a b w (.returned (.tuple #[.agg #[.int .i64 1, .float .f64 (mk a.x b.x), .string ⟨#[]⟩], .int .i64 0])) w') := by
    rintro h1 h2 h3 h4 w' hb
    unfold JPost joinV
    rw [if_neg (fun h => h h1), if_neg (fun h => h h2), if_neg (by omega), if_neg (by omega)]
    exact ⟨rfl, hb⟩
  obtain ⟨c1, hc1⟩ : ∃ c, chkVa a = c := ⟨_, rfl⟩
  obtain ⟨c2, hc2⟩ : ∃ c, chkVa b = c := ⟨_, rfl⟩
  obtain ⟨J, hJ⟩ : ∃ J, JPost mk a b w = J := ⟨_, rfl⟩
  obtain ⟨k1, x1, s1⟩ := a
  obtain ⟨k2, x2, s2⟩ := b
  rw [hc1] at HC1 hv1
  rw [hc2] at HC2 hv2
  rw [hJ] at HP1 HP2 HP3 HP4 HP5 ⊢
  rw [hc1] at HP1 HP2 HP3 HP4 HP5
  rw [hc2] at HP2 HP3 HP4 HP5
  obtain ⟨y, hy⟩ : ∃ y, mk x1 x2 = y := ⟨_, rfl⟩
  unfold zeroVa at HP1 HP2 HP4
  unfold Va.v at HP1 HP2 HP3 HP4
  unfold Va.v at HC1 HC2 ⊢
  dsimp only at HP1 HP2 HP3 HP4 HP5 HC1 HC2 HM sa sb ⊢
  rw [hy] at HP5 HM
  have HMk := Lib.hid HM
  have hst := run_store_float
  clear hc1 hc2 hJ hy HM
  obtain ⟨W3, hW3⟩ : ∃ W3, (((w.alloc (.cells #[.int .i64 k1, .float .f64 x1, .string s1] 56)).alloc (.cells #[.int .i64 k2, .float .f64 x2, .string s2] 56)).alloc (.cells #[.int .i64 0, .float .f64 0, .string ⟨#[]⟩] 56)) = W3 := ⟨_, rfl⟩
  have hb3 : Below w.heap.size w W3 := by rw [← hW3]; exact (two_below _ _ _).alloc (by simp <;> omega) _
  have hz3 : W3.heap.size = w.heap.size + 3 := by rw [← hW3]; simp
  have h0 : W3.heap[w.heap.size]? = some (.cells #[.int .i64 k1, .float .f64 x1, .string s1] 56 (0, 0)) := by
    rw [← hW3, Below.heap_alloc _ _ _ (by simp; omega), Below.heap_alloc _ _ _ (by simp)]
    exact heap_alloc_new w _
  have h1 : W3.heap[w.heap.size + 1]? = some (.cells #[.int .i64 k2, .float .f64 x2, .string s2] 56 (0, 0)) := by
    rw [← hW3, Below.heap_alloc _ _ _ (by simp)]
    exact heap_alloc2_new w _ _
  have h2 : W3.heap[w.heap.size + 1 + 1]? = some (.cells #[.int .i64 0, .float .f64 0, .string ⟨#[]⟩] 56 (0, 0)) := by
    rw [← hW3]
    have := heap_alloc_new ((w.alloc (.cells #[.int .i64 k1, .float .f64 x1, .string s1] 56)).alloc (.cells #[.int .i64 k2, .float .f64 x2, .string s2] 56)) (.cells #[.int .i64 0, .float .f64 0, .string ⟨#[]⟩] 56)
    simpa using this
  have Hrow : Hid (∀ w' : World, Below W3.heap.size W3 w' → w'.cell? ⟨w.heap.size, 0, none⟩ = some (.int .i64 k1) ∧ w'.cell? ⟨w.heap.size, 1, none⟩ = some (.float .f64 x1) ∧ w'.cell? ⟨w.heap.size, 2, none⟩ = some (.string s1) ∧
      w'.cell? ⟨w.heap.size + 1, 0, none⟩ = some (.int .i64 k2) ∧ w'.cell? ⟨w.heap.size + 1, 1, none⟩ = some (.float .f64 x2) ∧ w'.cell? ⟨w.heap.size + 1, 2, none⟩ = some (.string s2)) := fun w' hb => by
    have g0 := (hb.block _ (by omega)).trans h0
    have g1 := (hb.block _ (by omega)).trans h1
    exact ⟨cell_of_row _ _ _ _ _ _ g0, cell_of_row _ _ _ _ _ _ g0, cell_of_row _ _ _ _ _ _ g0, cell_of_row _ _ _ _ _ _ g1, cell_of_row _ _ _ _ _ _ g1, cell_of_row _ _ _ _ _ _ g1⟩
  have Hres : Hid (∀ w' : World, Below W3.heap.size W3 w' → w'.heap[w.heap.size + 1 + 1]? = some (.cells #[.int .i64 0, .float .f64 0, .string ⟨#[]⟩] 56 (0, 0))) := fun w' hb => (hb.block _ (by omega)).trans h2
  have HW3 := Lib.hid hW3
  have hbc : Below W3.heap.size W3 W3 := Below.refl _ _
  clear h0 h1 h2 hW3
  rcases hv1 with e1 | e1 | e1 | e1
  case' inl => rcases hv2 with e2 | e2 | e2 | e2
  case' inl.inl =>
    rcases Decidable.em (k1 = 0) with f0 | f0
  case' inl.inl.inr =>
    rcases Decidable.em (k1 = 1) with f1 | f1
  case' inl.inl.inr.inl =>
    rcases Decidable.em (k2 = 1) with f2 | f2
  case' inl.inl.inl =>
    have HQ := Lib.hid (HP3.out e1 e2 f0)
  case' inl.inl.inr.inr =>
    have HQ := Lib.hid (HP4.out e1 e2 f0 (.inl f1))
    have f00 : (k1 == 0) = false := by simpa using f0
    have f11 : (k1 == 1) = false := by simpa using f1
  case' inl.inl.inr.inl.inr =>
    have HQ := Lib.hid (HP4.out e1 e2 f0 (.inr f2))
    have f22 : (k2 == 1) = false := by simpa using f2
  case' inl.inl.inr.inl.inl =>
    have HQ := Lib.hid (HP5.out e1 e2 f1 f2)
  case' inl.inr.inl => have HQ := Lib.hid (HP2.out 8 e1 e2 (by decide))
  case' inl.inr.inr.inl => have HQ := Lib.hid (HP2.out 2 e1 e2 (by decide))
  case' inl.inr.inr.inr => have HQ := Lib.hid (HP2.out 15 e1 e2 (by decide))
  case' inr.inl => have HQ := Lib.hid (HP1.out 8 e1 (by decide))
  case' inr.inr.inl => have HQ := Lib.hid (HP1.out 2 e1 (by decide))
  case' inr.inr.inr => have HQ := Lib.hid (HP1.out 15 e1 (by decide))
  all_goals
    rw [e1] at HC1
    try rw [e2] at HC2
    clear HP1 HP2 HP3 HP4 HP5
    clear e1
    try clear e2
    try subst f0
    try subst f1
    try subst f2
    obtain ⟨z0, z1, z2, z3, z4, z5⟩ := Hrow.out _ hbc
    go_enter Tryd.func100, Tryd.ntmps100
    go_wp2_with fail
    rw [HW3.out]
    go_wp2_with (first
      | (go_at_call 25; (with_reducible refine (HC1.out _).mono ?_); rintro e w5 ⟨rfl, hb5⟩; (have hbn : Below W3.heap.size W3 w5 := hbc.trans (hb5.mono hbc.size)); clear hbc hb5 z0 z1 z2 z3 z4 z5; have hbc := hbn; clear hbn; obtain ⟨z0, z1, z2, z3, z4, z5⟩ := Hrow.out _ hbc)
      | (go_at_call 25; (with_reducible refine (HC2.out _).mono ?_); rintro e w5 ⟨rfl, hb5⟩; (have hbn : Below W3.heap.size W3 w5 := hbc.trans (hb5.mono hbc.size)); clear hbc hb5 z0 z1 z2 z3 z4 z5; have hbc := hbn; clear hbn; obtain ⟨z0, z1, z2, z3, z4, z5⟩ := Hrow.out _ hbc)
      | (go_at_call 116; (with_reducible refine (HMk.out _).mono ?_); rintro e w5 ⟨rfl, hb5⟩; (have hbn : Below W3.heap.size W3 w5 := hbc.trans (hb5.mono hbc.size)); clear hbc hb5 z0 z1 z2 z3 z4 z5; have hbc := hbn; clear hbn; obtain ⟨z0, z1, z2, z3, z4, z5⟩ := Hrow.out _ hbc)
      | (refine wpList_store_row rfl 56 _ _ rfl (w.heap.size + 1 + 1) _ rfl rfl 56 _ (Hres.out _ hbc) size3 rfl (val_one _ _ _) ?_))
    refine bodyPost_ret (results_val Tryd.results100 _ _ (w.heap.size + 1 + 1) _ _ _ _ rfl rfl (setRow_heap _ _ _ _ _ _ (Hres.out _ hbc))) rfl ?_
    exact HQ.out _ (below_setRow (hb3.trans (hbc.mono (by omega))) (by omega) _)
set_option maxHeartbeats 6400000 in
theorem RJoin_MAX (mk : Nat → Nat → Nat) (a b : Va) (w : World) (ha : a.x < 18446744073709551616) (hb : b.x < 18446744073709551616) (sa : a.s.size ≤ maxLen) (sb : b.s.size ≤ maxLen)
    (HM : ∀ w, Calls Tryd.prog 117 #[.float .f64 a.x, .float .f64 b.x] w fun e w' => e = .returned (.float .f64 (mk a.x b.x)) ∧ Below w.heap.size w w') :
    Calls Tryd.prog 100 #[a.v, b.v, .bool false] w (JPost mk a b w) := by
  have HC1 : Hid (∀ w, Calls Tryd.prog 25 #[a.v] w fun e w' => e = .returned (.int .i64 (chkVa a)) ∧ Below w.heap.size w w') := fun w => RCheck_any a w ha sa
  have HC2 : Hid (∀ w, Calls Tryd.prog 25 #[b.v] w fun e w' => e = .returned (.int .i64 (chkVa b)) ∧ Below w.heap.size w w') := fun w => RCheck_any b w hb sb
  have hv1 := chk_vals a
  have hv2 := chk_vals b
  have HP1 : Hid (∀ c, chkVa a = c → c ≠ 0 → ∀ w', Below w.heap.size w w' → JPost mk a b w (.returned (.tuple #[zeroVa.v, .int .i64 c])) w') := by
    rintro c rfl hc w' hb
    unfold JPost joinV
    rw [if_pos hc]
    exact ⟨rfl, hb⟩
  have HP2 : Hid (∀ c, chkVa a = 0 → chkVa b = c → c ≠ 0 → ∀ w', Below w.heap.size w w' → JPost mk a b w (.returned (.tuple #[zeroVa.v, .int .i64 c])) w') := by
    rintro c h1 rfl hc w' hb
    unfold JPost joinV
    rw [if_neg (fun h => h h1), if_pos hc]
    exact ⟨rfl, hb⟩
  have HP3 : Hid (chkVa a = 0 → chkVa b = 0 → a.k = 0 → ∀ w', Below w.heap.size w w' → JPost mk a b w (.returned (.tuple #[b.v, .int .i64 0])) w') := by
    rintro h1 h2 h3 w' hb
    unfold JPost joinV
    rw [if_neg (fun h => h h1), if_neg (fun h => h h2), if_pos h3]
    exact ⟨rfl, hb⟩
  have HP4 : Hid (chkVa a = 0 → chkVa b = 0 → a.k ≠ 0 → (a.k ≠ 1 ∨ b.k ≠ 1) → ∀ w', Below w.heap.size w w' → JPost mk a b w (.returned (.tuple #[zeroVa.v, .int .i64 8])) w') := by
    rintro h1 h2 h3 h4 w' hb
    unfold JPost joinV
    rw [if_neg (fun h => h h1), if_neg (fun h => h h2), if_neg h3, if_pos h4]
    exact ⟨rfl, hb⟩
  have HP5 : Hid (chkVa a = 0 → chkVa b = 0 → a.k = 1 → b.k = 1 → ∀ w', Below w.heap.size w w' → JPost mk a b w (.returned (.tuple #[.agg #[.int .i64 1, .float .f64 (mk a.x b.x), .string ⟨#[]⟩], .int .i64 0])) w') := by
    rintro h1 h2 h3 h4 w' hb
    unfold JPost joinV
    rw [if_neg (fun h => h h1), if_neg (fun h => h h2), if_neg (by omega), if_neg (by omega)]
    exact ⟨rfl, hb⟩
  obtain ⟨c1, hc1⟩ : ∃ c, chkVa a = c := ⟨_, rfl⟩
  obtain ⟨c2, hc2⟩ : ∃ c, chkVa b = c := ⟨_, rfl⟩
  obtain ⟨J, hJ⟩ : ∃ J, JPost mk a b w = J := ⟨_, rfl⟩
  obtain ⟨k1, x1, s1⟩ := a
  obtain ⟨k2, x2, s2⟩ := b
  rw [hc1] at HC1 hv1
  rw [hc2] at HC2 hv2
  rw [hJ] at HP1 HP2 HP3 HP4 HP5 ⊢
  rw [hc1] at HP1 HP2 HP3 HP4 HP5
  rw [hc2] at HP2 HP3 HP4 HP5
  obtain ⟨y, hy⟩ : ∃ y, mk x1 x2 = y := ⟨_, rfl⟩
  unfold zeroVa at HP1 HP2 HP4
  unfold Va.v at HP1 HP2 HP3 HP4
  unfold Va.v at HC1 HC2 ⊢
  dsimp only at HP1 HP2 HP3 HP4 HP5 HC1 HC2 HM sa sb ⊢
  rw [hy] at HP5 HM
  have HMk := Lib.hid HM
  have hst := run_store_float
  clear hc1 hc2 hJ hy HM
  obtain ⟨W3, hW3⟩ : ∃ W3, (((w.alloc (.cells #[.int .i64 k1, .float .f64 x1, .string s1] 56)).alloc (.cells #[.int .i64 k2, .float .f64 x2, .string s2] 56)).alloc (.cells #[.int .i64 0, .float .f64 0, .string ⟨#[]⟩] 56)) = W3 := ⟨_, rfl⟩
  have hb3 : Below w.heap.size w W3 := by rw [← hW3]; exact (two_below _ _ _).alloc (by simp <;> omega) _
  have hz3 : W3.heap.size = w.heap.size + 3 := by rw [← hW3]; simp
  have h0 : W3.heap[w.heap.size]? = some (.cells #[.int .i64 k1, .float .f64 x1, .string s1] 56 (0, 0)) := by
    rw [← hW3, Below.heap_alloc _ _ _ (by simp; omega), Below.heap_alloc _ _ _ (by simp)]
    exact heap_alloc_new w _
  have h1 : W3.heap[w.heap.size + 1]? = some (.cells #[.int .i64 k2, .float .f64 x2, .string s2] 56 (0, 0)) := by
    rw [← hW3, Below.heap_alloc _ _ _ (by simp)]
    exact heap_alloc2_new w _ _
  have h2 : W3.heap[w.heap.size + 1 + 1]? = some (.cells #[.int .i64 0, .float .f64 0, .string ⟨#[]⟩] 56 (0, 0)) := by
    rw [← hW3]
    have := heap_alloc_new ((w.alloc (.cells #[.int .i64 k1, .float .f64 x1, .string s1] 56)).alloc (.cells #[.int .i64 k2, .float .f64 x2, .string s2] 56)) (.cells #[.int .i64 0, .float .f64 0, .string ⟨#[]⟩] 56)
    simpa using this
  have Hrow : Hid (∀ w' : World, Below W3.heap.size W3 w' → w'.cell? ⟨w.heap.size, 0, none⟩ = some (.int .i64 k1) ∧ w'.cell? ⟨w.heap.size, 1, none⟩ = some (.float .f64 x1) ∧ w'.cell? ⟨w.heap.size, 2, none⟩ = some (.string s1) ∧
      w'.cell? ⟨w.heap.size + 1, 0, none⟩ = some (.int .i64 k2) ∧ w'.cell? ⟨w.heap.size + 1, 1, none⟩ = some (.float .f64 x2) ∧ w'.cell? ⟨w.heap.size + 1, 2, none⟩ = some (.string s2)) := fun w' hb => by
    have g0 := (hb.block _ (by omega)).trans h0
    have g1 := (hb.block _ (by omega)).trans h1
    exact ⟨cell_of_row _ _ _ _ _ _ g0, cell_of_row _ _ _ _ _ _ g0, cell_of_row _ _ _ _ _ _ g0, cell_of_row _ _ _ _ _ _ g1, cell_of_row _ _ _ _ _ _ g1, cell_of_row _ _ _ _ _ _ g1⟩
  have Hres : Hid (∀ w' : World, Below W3.heap.size W3 w' → w'.heap[w.heap.size + 1 + 1]? = some (.cells #[.int .i64 0, .float .f64 0, .string ⟨#[]⟩] 56 (0, 0))) := fun w' hb => (hb.block _ (by omega)).trans h2
  have HW3 := Lib.hid hW3
  have hbc : Below W3.heap.size W3 W3 := Below.refl _ _
  clear h0 h1 h2 hW3
  rcases hv1 with e1 | e1 | e1 | e1
  case' inl => rcases hv2 with e2 | e2 | e2 | e2
  case' inl.inl =>
    rcases Decidable.em (k1 = 0) with f0 | f0
  case' inl.inl.inr =>
    rcases Decidable.em (k1 = 1) with f1 | f1
  case' inl.inl.inr.inl =>
    rcases Decidable.em (k2 = 1) with f2 | f2
  case' inl.inl.inl =>
    have HQ := Lib.hid (HP3.out e1 e2 f0)
  case' inl.inl.inr.inr =>
    have HQ := Lib.hid (HP4.out e1 e2 f0 (.inl f1))
    have f00 : (k1 == 0) = false := by simpa using f0
    have f11 : (k1 == 1) = false := by simpa using f1
  case' inl.inl.inr.inl.inr =>
    have HQ := Lib.hid (HP4.out e1 e2 f0 (.inr f2))
    have f22 : (k2 == 1) = false := by simpa using f2
  case' inl.inl.inr.inl.inl =>
    have HQ := Lib.hid (HP5.out e1 e2 f1 f2)
  case' inl.inr.inl => have HQ := Lib.hid (HP2.out 8 e1 e2 (by decide))
  case' inl.inr.inr.inl => have HQ := Lib.hid (HP2.out 2 e1 e2 (by decide))
  case' inl.inr.inr.inr => have HQ := Lib.hid (HP2.out 15 e1 e2 (by decide))
  case' inr.inl => have HQ := Lib.hid (HP1.out 8 e1 (by decide))
  case' inr.inr.inl => have HQ := Lib.hid (HP1.out 2 e1 (by decide))
  case' inr.inr.inr => have HQ := Lib.hid (HP1.out 15 e1 (by decide))
  all_goals
    rw [e1] at HC1
    try rw [e2] at HC2
    clear HP1 HP2 HP3 HP4 HP5
    clear e1
    try clear e2
    try subst f0
    try subst f1
    try subst f2
    obtain ⟨z0, z1, z2, z3, z4, z5⟩ := Hrow.out _ hbc
    go_enter Tryd.func100, Tryd.ntmps100
    go_wp2_with fail
    rw [HW3.out]
    go_wp2_with (first
      | (go_at_call 25; (with_reducible refine (HC1.out _).mono ?_); rintro e w5 ⟨rfl, hb5⟩; (have hbn : Below W3.heap.size W3 w5 := hbc.trans (hb5.mono hbc.size)); clear hbc hb5 z0 z1 z2 z3 z4 z5; have hbc := hbn; clear hbn; obtain ⟨z0, z1, z2, z3, z4, z5⟩ := Hrow.out _ hbc)
      | (go_at_call 25; (with_reducible refine (HC2.out _).mono ?_); rintro e w5 ⟨rfl, hb5⟩; (have hbn : Below W3.heap.size W3 w5 := hbc.trans (hb5.mono hbc.size)); clear hbc hb5 z0 z1 z2 z3 z4 z5; have hbc := hbn; clear hbn; obtain ⟨z0, z1, z2, z3, z4, z5⟩ := Hrow.out _ hbc)
      | (go_at_call 117; (with_reducible refine (HMk.out _).mono ?_); rintro e w5 ⟨rfl, hb5⟩; (have hbn : Below W3.heap.size W3 w5 := hbc.trans (hb5.mono hbc.size)); clear hbc hb5 z0 z1 z2 z3 z4 z5; have hbc := hbn; clear hbn; obtain ⟨z0, z1, z2, z3, z4, z5⟩ := Hrow.out _ hbc)
      | (refine wpList_store_row rfl 56 _ _ rfl (w.heap.size + 1 + 1) _ rfl rfl 56 _ (Hres.out _ hbc) size3 rfl (val_one _ _ _) ?_))
    refine bodyPost_ret (results_val Tryd.results100 _ _ (w.heap.size + 1 + 1) _ _ _ _ rfl rfl (setRow_heap _ _ _ _ _ _ (Hres.out _ hbc))) rfl ?_
    exact HQ.out _ (below_setRow (hb3.trans (hbc.mono (by omega))) (by omega) _)
end Go.Proofs.YtkckncggiicciaaDoor
/-
  A value's text, and the page's.
-/
namespace Go.Proofs.YtkckncggiicciaaDoor
open Go.RowKit
set_option maxRecDepth 100000
def vtextV (a : Va) : ByteArray := if a.k = 1 then ⟨#[110]⟩ ++ textV a.x else if a.k = 2 then ⟨(116 :: hexT a.s.data.toList).toArray⟩ else ⟨#[45]⟩
set_option maxHeartbeats 1600000 in
theorem VText_any (a : Va) (w : World) (ha : a.x < 18446744073709551616) (hs : a.s.size ≤ maxLen) (hT : TzAt w) :
    Calls Tryd.prog 47 #[a.v] w fun e w' => e = .returned (.tuple #[.string (if chkVa a = 0 then vtextV a else ⟨#[]⟩), .int .i64 (chkVa a)]) ∧ Below w.heap.size w w' := by
  have hv := chk_vals a
  have HC : Hid (∀ w, Calls Tryd.prog 58 #[a.v] w fun e w' => e = .returned (.int .i64 (chkVa a)) ∧ Below w.heap.size w w') := fun w => VCheck_any a w ha hs
  rcases hv with e1 | e1 | e1 | e1
  case' inl =>
    rcases Decidable.em (a.k = 2) with h2 | h2
  case' inl.inl =>
    obtain ⟨k, x, s⟩ := a
    dsimp only at h2 hs ha
    subst h2
    rw [if_pos e1]
    have := VText_two x s w hs e1 ha
    rw [e1]
    exact this
  all_goals
    rw [e1] at HC ⊢
    first | rw [if_pos rfl] | rw [if_neg (by decide)]
  case' inl.inr =>
    rcases Decidable.em (a.k = 1) with h1 | h1
  case' inl.inr.inr =>
    have h0 : a.k = 0 := by
      unfold chkVa at e1
      rcases Decidable.em (a.k = 0) with h0 | h0
      · exact h0
      · rw [if_neg h0, if_neg h1, if_neg h2] at e1
        cases e1
  all_goals
    clear e1
    obtain ⟨k, x, s⟩ := a
    unfold Va.v at HC ⊢
    try unfold vtextV
    dsimp only at *
    try rw [if_pos h1]
    try rw [if_neg h1, if_neg h2]
    try subst h1
    try subst h0
    have HT : Hid (∀ w', Below w.heap.size w w' → Calls Tryd.prog 71 #[.float .f64 x] w' fun e w'' => e = .returned (.string (textV x)) ∧ Below w'.heap.size w' w'') := fun w' hb => Text_any x w' ha (hT.below hb)
    obtain ⟨T, hTt⟩ : ∃ T, textV x = T := ⟨_, rfl⟩
    have hTz : T.size ≤ 16 := by rw [← hTt]; unfold textV; show (hexL 16 (canon x)).toArray.size ≤ 16; rw [List.size_toArray, hexL_len]; omega
    rw [hTt] at HT
    try rw [hTt]
    clear hT hTt
    go_enter Tryd.func47, Tryd.ntmps47
    go_wp2_with fail
    refine (HC.out _).mono ?_
    rintro e w1 ⟨rfl, hb1⟩
    have hr1 : w1.heap[w.heap.size]? = some (.cells #[.int .i64 _, .float .f64 x, .string s] 56 (0, 0)) := (hb1.block _ (by simp)).trans (heap_alloc_new w _)
    have c0 := cell_of_row _ _ 0 _ _ _ hr1
    have c1 : w1.cell? ⟨w.heap.size, 1, none⟩ = some (.float .f64 x) := cell_of_row _ _ _ _ _ _ hr1
    have c2 : w1.cell? ⟨w.heap.size, 2, none⟩ = some (.string s) := cell_of_row _ _ _ _ _ _ hr1
    have hz1 : w.heap.size < w1.heap.size := by have := hb1.size; simp at this; omega
    have hbw1 : Below w.heap.size w w1 := (one_below w _).trans (hb1.mono (by simp))
    simp at c0
    clear hr1 hb1
    go_wp2_with (go_at_call 71; refine (HT.out _ hbw1).mono ?_; rintro e w2 ⟨rfl, hb2⟩)
  all_goals go_ret2
  all_goals first
    | exact ⟨rfl, hbw1⟩
    | exact ⟨rfl, hbw1.trans (hb2.mono hbw1.size)⟩
theorem digs16_cut {d : Nat} (hd : d < 16) : (⟨#[48, 49, 50, 51, 52, 53, 54, 55, 56, 57, 97, 98, 99, 100, 101, 102]⟩ : ByteArray).extract d (d + 1) = ⟨#[hexd d]⟩ := by
  have : d = 0 ∨ d = 1 ∨ d = 2 ∨ d = 3 ∨ d = 4 ∨ d = 5 ∨ d = 6 ∨ d = 7 ∨ d = 8 ∨ d = 9 ∨ d = 10 ∨ d = 11 ∨ d = 12 ∨ d = 13 ∨ d = 14 ∨ d = 15 := by omega
  rcases this with rfl | rfl | rfl | rfl | rfl | rfl | rfl | rfl | rfl | rfl | rfl | rfl | rfl | rfl | rfl | rfl <;> rfl
theorem wrap_u8 {d : Nat} (hd : d < 16) : IntKind.u8.wrap ((d : Int) + 1) = (d : Int) + 1 := by
  have : d = 0 ∨ d = 1 ∨ d = 2 ∨ d = 3 ∨ d = 4 ∨ d = 5 ∨ d = 6 ∨ d = 7 ∨ d = 8 ∨ d = 9 ∨ d = 10 ∨ d = 11 ∨ d = 12 ∨ d = 13 ∨ d = 14 ∨ d = 15 := by omega
  rcases this with rfl | rfl | rfl | rfl | rfl | rfl | rfl | rfl | rfl | rfl | rfl | rfl | rfl | rfl | rfl | rfl <;> rfl
set_option maxHeartbeats 1600000 in
theorem RHex_any (s : ByteArray) (w : World) (hs : s.size ≤ 2000) :
    Calls Tryd.prog 48 #[.string s] w fun e w' => e = .returned (.string ⟨(hexT s.data.toList).toArray⟩) ∧ Below w.heap.size w w' := by
  obtain ⟨l, hl⟩ : ∃ l, s.data.toList = l := ⟨_, rfl⟩
  have hlen : l.length = s.size := by rw [← hl]; exact Array.length_toList
  rw [hl]
  go_enter Tryd.func48, Tryd.ntmps48
  go_wp2_with fail
  go_loopg [3, 4] s.size (fun g s3 s4 wr => ∃ (i : Nat) (S : ByteArray), i + g = s.size ∧ s4 = .int .i64 i ∧ s3 = .string S ∧ S = ⟨(hexT (l.take i)).toArray⟩ ∧ ∃ q, wr = w.drewN q)
  case atStart => exact ⟨0, _, by omega, rfl, rfl, rfl, 0, rfl⟩
  case round =>
    obtain ⟨i, S, hig, rfl, rfl, hS, q0, hq0⟩ := hrel
    have Hq := Lib.hid hq0
    clear hq0
    have HS := Lib.hid hS
    have Hig := Lib.hid hig
    have hin : i ≤ s.size := by omega
    have hSz : S.size = 2 * i := by
      rw [hS]
      show (hexT (l.take i)).toArray.size = 2 * i
      rw [List.size_toArray, hexT_len, List.length_take]
      omega
    clear hS hig
    by_cases hlt : i < s.size
    · have hil : i < l.length := by rw [hlen]; exact hlt
      obtain ⟨c, hc⟩ : ∃ c, s[i] = c := ⟨_, rfl⟩
      have hlc : l[i]'hil = c := by
        subst hl
        rw [← hc]
        exact (Array.getElem_toList _)
      have Hst : Hid (l.take (i + 1) = l.take i ++ [c]) := by
        unfold Hid
        rw [← hlc]
        exact List.take_succ_eq_append_getElem hil
      clear hlc
      have hc256 := c.toNat_lt
      obtain ⟨d1, hd1⟩ : ∃ d, c.toNat / 16 = d := ⟨_, rfl⟩
      obtain ⟨d2, hd2⟩ : ∃ d, c.toNat % 16 = d := ⟨_, rfl⟩
      have hq : (c.toNat : Int) / 16 = (d1 : Int) := by omega
      have hand := and_15b c.toNat hc256
      rw [hd2] at hand
      have h1 : d1 < 16 := by omega
      have h2 : d2 < 16 := by omega
      have g1 := digs16_cut h1
      have g2 := digs16_cut h2
      have w1 := wrap_u8 h1
      have w2 := wrap_u8 h2
      have p1 : (0 : Int) ≤ (d1 : Int) + 1 := by omega
      have p2 : (0 : Int) ≤ (d2 : Int) + 1 := by omega
      have p3 : (d1 : Int) ≤ (d1 : Int) + 1 := by omega
      have p4 : (d2 : Int) ≤ (d2 : Int) + 1 := by omega
      have m1 : ¬ 9223372036854775807 < 2 * i + 1 := by omega
      have m2 : ¬ 9223372036854775807 < 2 * i + 1 + 1 := by omega
      have k1 : (d1 : Int) + 1 ≤ 16 := by omega
      have k2 : (d2 : Int) + 1 ≤ 16 := by omega
      have Hd : Hid (c.toNat / 16 = d1 ∧ c.toNat % 16 = d2) := ⟨hd1, hd2⟩
      clear hd1 hd2
      go_wp2_with fail
      refine wp_region_quiet (C := fun w' => ∃ q, w' = wr.drewN q) (by kernel_rfl) (by kernel_rfl) ⟨1, rfl⟩ ?_
      repeat (quiet_step (fail))
      with_reducible refine wpQuiet_nil ?_
      rintro _ ⟨q, rfl⟩
      go_wp2_with fail
      go_roundg (gk - 1)
      case rel => exact ⟨i + 1, _, by have := Hig.out; omega, by go_num, rfl, by
        rw [Hst.out, hexT_snoc, Hd.out.1, Hd.out.2, HS.out]
        show ((⟨_⟩ ++ ⟨[hexd d1].toArray⟩ : ByteArray) ++ ⟨[hexd d2].toArray⟩) = _
        rw [bytes_app, bytes_app, List.append_assoc]
        rfl, q0 + q, by rw [Hq.out, World.drewN_drewN]⟩
      case measure => have := Hig.out; omega
    · go_wp2_with fail
      go_ret
      refine ⟨ret_str ?_, by rw [Hq.out]; exact ⟨rfl, rfl, rfl, Nat.le_refl _, fun _ _ => rfl⟩⟩
      rw [HS.out, List.take_of_length_le (by omega)]
end Go.Proofs.YtkckncggiicciaaDoor
/-
  The walk of report.Pairs.
-/
namespace Go.Proofs.YtkckncggiicciaaDoor
open Go.RowKit
set_option maxRecDepth 100000
/-- A pair: a key, and what it has. -/
def prC (p : ByteArray × Va) : List Value := [.string p.1, .int .i64 p.2.k, .float .f64 p.2.x, .string p.2.s]
theorem size4 : (Tryd.prog.info? 66).map (·.size) = some 4 := by kernel_rfl
/-- A value's word. -/
def valT (v : Va) : List UInt8 := if chkVa v = 0 then (vtextV v).data.toList else [63]
/-- A pair's line. -/
def pairL (p : ByteArray × Va) : List UInt8 := wordsL [107 :: hexT p.1.data.toList, valT p.2]
theorem valT_len (v : Va) : (valT v).length ≤ 100 := by
  unfold valT
  split
  · rename_i h
    have hl : ∀ s : ByteArray, s.data.toList.length = s.size := fun s => Array.length_toList
    rw [hl]
    unfold vtextV
    split
    · unfold textV
      show (⟨[110].toArray⟩ ++ ⟨(hexL 16 (canon v.x)).toArray⟩ : ByteArray).size ≤ 100
      rw [bytes_app]
      show ([110] ++ hexL 16 (canon v.x)).toArray.size ≤ 100
      rw [List.size_toArray, List.length_append, hexL_len]
      simp
    · split
      · rename_i h2
        have h32 : v.s.size ≤ 32 := by
          unfold chkVa at h
          rw [if_neg (by omega), if_neg (by omega), if_pos h2] at h
          by_cases q : 32 < v.s.size
          · rw [if_pos q] at h; cases h
          · omega
        show (116 :: hexT v.s.data.toList).toArray.size ≤ 100
        rw [List.size_toArray, List.length_cons, hexT_len, hl]
        omega
      · decide
  · decide
theorem pairL_len {p : ByteArray × Va} (hk : p.1.size ≤ 2000) : (pairL p).length ≤ 10000 := by
  have h1 := valT_len p.2
  have hl : p.1.data.toList.length = p.1.size := Array.length_toList
  have h2 := hexT_len p.1.data.toList
  unfold pairL wordsL
  rw [Lib.join_cons]
  simp [Lib.joinTail]
  omega
/-- A value that is handed to Text: any. -/
theorem VTextP_any (v : Va) (w : World) (hx : v.x < 18446744073709551616) (hs : v.s.size ≤ maxLen) (hT : TzAt w) :
    Calls Tryd.prog 47 #[v.v] w fun e w' => (∃ t, e = .returned (.tuple #[.string t, .int .i64 (chkVa v)]) ∧ (chkVa v = 0 → t = vtextV v)) ∧ Below w.heap.size w w' :=
  (VText_any v w hx hs hT).mono fun _ _ ⟨h1, h2⟩ => ⟨⟨_, h1, fun h => if_pos h⟩, h2⟩
def p0 : ByteArray × Va := (⟨#[]⟩, ⟨0, 0, ⟨#[]⟩⟩)
def linesP (ps : List (ByteArray × Va)) (n : Nat) : List (List UInt8) := (List.range n).map fun (i : Nat) => pairL (ps.getD i p0)
theorem linesP_succ (ps : List (ByteArray × Va)) (n : Nat) : linesP ps (n + 1) = linesP ps n ++ [pairL (ps.getD n p0)] := by
  unfold linesP
  rw [List.range_succ, List.map_append]
  rfl
theorem linesP_len (ps : List (ByteArray × Va)) (n : Nat) : (linesP ps n).length = n := by simp [linesP]
def PrRows (w : World) (B : Nat) (A : Option Addr) (n c : Nat) (ps : List (ByteArray × Va)) : Prop := Rd w B 4 A n c (ps.map prC).flatten
/-- A pair that may be told: its key is short enough. -/
structure PrOk (p : ByteArray × Va) : Prop where
  key : p.1.size ≤ 2000
  num : p.2.x < 18446744073709551616
  txt : p.2.s.size ≤ maxLen
theorem pr_row {w : World} {B n c : Nat} {A : Option Addr} {ps : List (ByteArray × Va)} (h : PrRows w B A n c ps) (hl : ps.length = n) {k : Nat} (hk : k < n) :
    ∃ b off p, A = some ⟨b, off, none⟩ ∧ b < B ∧ ps.getD k p0 = p ∧ p ∈ ps ∧ w.rangeAt b (off + k * 4) (prC p) := by
  obtain ⟨b, off, x, h1, h2, h3, h4, h5⟩ := rd_row (xss := ps.map prC) h (fun x hx => by
    obtain ⟨e, _, rfl⟩ := List.mem_map.1 hx
    rfl) (by rw [List.length_map]; exact hl) hk
  rw [List.getElem?_map] at h3
  cases hq : ps[k]? with
  | none => rw [hq] at h3; cases h3
  | some e =>
    rw [hq] at h3
    injection h3 with h3
    subst h3
    exact ⟨b, off, e, h1, h2, by simp [List.getD, hq], List.mem_of_getElem? hq, h5⟩
theorem prC_one (p : ByteArray × Va) : ∀ v ∈ prC p, v.oneCell' = true := by
  intro v hv
  have : (prC p).all (·.oneCell') = true := rfl
  exact List.all_eq_true.1 this v hv
def RPairsPost (ps : List (ByteArray × Va)) (w : World) (e : Ending) (w' : World) : Prop := (∃ v, e = .returned v ∧ OwnS w' w.heap.size v (linesP ps ps.length)) ∧ Below w.heap.size w w'
set_option maxHeartbeats 12800000 in
theorem RPairs_any (A : Option Addr) (n c : Nat) (S : Option Addr) (sn sc : Nat) (ps : List (ByteArray × Va)) (w : World) (hy : PrRows w w.heap.size A n c ps) (hl : ps.length = n) (hn : n ≤ 10000) (hok : ∀ p ∈ ps, PrOk p) (hT : TzAt w) :
    Calls Tryd.prog 21 #[.agg #[.slice A n c, .slice S sn sc]] w (RPairsPost ps w) := by
  have hcap : n ≤ c := hy.2.1
  obtain ⟨W1, hW1⟩ : ∃ W1, w.alloc (.cells #[.slice A n c, .slice S sn sc] 44) = W1 := ⟨_, rfl⟩
  have hb1 : Below w.heap.size w W1 := by rw [← hW1]; exact alloc_below w _
  have hz1 : W1.heap.size = w.heap.size + 1 := by rw [← hW1]; simp
  have HP : Hid (∀ w' v, OwnS w' w.heap.size v (linesP ps n) → Below w.heap.size w w' → RPairsPost ps w (.returned v) w') := fun w' v ho hb => by
    unfold RPairsPost
    rw [hl]
    exact ⟨⟨v, rfl, ho⟩, hb⟩
  have HE : Hid (∀ i, i < n → ∃ b off p, A = some ⟨b, off, none⟩ ∧ b < w.heap.size ∧ ps.getD i p0 = p ∧ PrOk p ∧ w.rangeAt b (off + i * 4) (prC p)) := fun i hi => by
    obtain ⟨b, off, p, q1, q2, q3, q4, q5⟩ := pr_row hy hl hi
    exact ⟨b, off, p, q1, q2, q3, hok p q4, q5⟩
  obtain ⟨J, hJ⟩ : ∃ J, RPairsPost ps w = J := ⟨_, rfl⟩
  rw [hJ] at HP ⊢
  have HT := Lib.hid hT
  have HW1 := Lib.hid hW1
  clear hW1 hJ hT hy hl hok
  go_enter Tryd.func21, Tryd.ntmps21
  go_wp2_with fail
  rw [HW1.out]
  go_loopg [3, 5, 6, 8, 9, 10, 14] n (fun g s3 _ _ _ _ _ s14 wr => ∃ i : Nat, i + g = n ∧ s14 = .int .i64 i ∧ OwnS wr W1.heap.size s3 (linesP ps i) ∧ Below W1.heap.size W1 wr)
  case atStart => exact ⟨0, by omega, rfl, ownS_nil _ _, Below.refl _ _⟩
  case round =>
    obtain ⟨i, hig, rfl, ho, hbr⟩ := hrel
    have Hig := Lib.hid hig
    have Ho := Lib.hid ho
    have hin : i ≤ n := by omega
    clear hig ho
    by_cases hlt : i < n
    · obtain ⟨b, off, p, rfl, hb, hge, hpk, hrg⟩ := HE.out i hlt
      have hrg' := range_below hrg (hb1.trans (hbr.mono (by omega))) hb
      have Hrg := Lib.hid hrg'
      have Hls : Hid (linesP ps (i + 1) = linesP ps i ++ [pairL p]) := by
        unfold Hid
        rw [linesP_succ, hge]
      have hpl := pairL_len (p := p) hpk.key
      obtain ⟨key, ⟨vk, vx, vs⟩⟩ := p
      have Hpl := Lib.hid hpl
      have hk2 : key.size ≤ 2000 := hpk.key
      have HTx : Hid (∀ w', Below W1.heap.size W1 w' → Calls Tryd.prog 47 #[.agg #[.int .i64 vk, .float .f64 vx, .string vs]] w' fun e w'' => (∃ t, e = .returned (.tuple #[.string t, .int .i64 (chkVa ⟨vk, vx, vs⟩)]) ∧ (chkVa ⟨vk, vx, vs⟩ = 0 → t = vtextV ⟨vk, vx, vs⟩)) ∧ Below w'.heap.size w' w'') := fun w' h =>
        VTextP_any ⟨vk, vx, vs⟩ w' hpk.num hpk.txt (HT.out.below (hb1.trans (h.mono (by omega))))
      have hcv := fun w => Lib.run_convert_string_bytes (P := Tryd.prog) w 9 26 5 key Tryd.underlying9 Tryd.underlying26 Tryd.underlying5
      clear hrg hrg' hge hpl hpk
      go_wp2_with (first
        | (refine Go.wpList_load_mid rfl 66 (.tmp 16) rfl b (off + i * 4) rfl (prC (key, ⟨vk, vx, vs⟩)) _ Hrg.out Tryd.underlying66 rfl size4 ?_)
        | (refine wpList_store_local rfl 66 (.tmp 5) _ rfl (prC (key, ⟨vk, vx, vs⟩)) rfl rfl size4 rfl (prC_one _) ?_
           intro w5 q5 hb5 hz5
           have HS : Hid (∀ w', Below w5.heap.size w5 w' → w'.cell? ⟨wr.heap.size, 0, none⟩ = some (.string key) ∧ w'.cell? ⟨wr.heap.size, 1, none⟩ = some (.int .i64 vk) ∧ w'.cell? ⟨wr.heap.size, 2, none⟩ = some (.float .f64 vx) ∧ w'.cell? ⟨wr.heap.size, 3, none⟩ = some (.string vs)) := fun w' hb' => by
             have q := (hb'.block wr.heap.size (by omega)).trans q5
             exact ⟨cell_list q 0 _ rfl, cell_list q 1 _ rfl, cell_list q 2 _ rfl, cell_list q 3 _ rfl⟩
           obtain ⟨y0, y1, y2, y3⟩ := HS.out w5 (Below.refl _ _)
           have hnb : wr.heap.size < w5.heap.size := by omega
           clear q5 hz5))
      obtain ⟨gk0, rfl⟩ : ∃ g0, g0 = gk := ⟨_, rfl⟩
      obtain ⟨wo, rfl⟩ : ∃ w0, w0 = wr := ⟨_, rfl⟩
      obtain ⟨l, hl⟩ : ∃ l, key.data.toList = l := ⟨_, rfl⟩
      have hlen : l.length = key.size := by rw [← hl]; exact Array.length_toList
      have hbw5 : Below W1.heap.size W1 w5 := bstep hbr hb5
      obtain ⟨w6, hw6⟩ : ∃ w6, w5.alloc (.cells #[.int .u8 107] 5) = w6 := ⟨_, rfl⟩
      have hz6 : w6.heap.size = w5.heap.size + 1 := by rw [← hw6]; simp
      have hb6 : Below w5.heap.size w5 w6 := by rw [← hw6]; exact alloc_below w5 _
      have ho6 : OwnB w6 w5.heap.size (.slice (some ⟨w5.heap.size, 0, none⟩) 1 1) [107] := by rw [← hw6]; exact own_lit (Nat.le_refl _) 107
      have hrow : ∀ j (hj : j < l.length), (Lib.bytesWorld w6 5 key).cell? ⟨w5.heap.size + 1, j, none⟩ = some (.int .u8 (l[j].toNat : Int)) := by
        subst hl
        intro j hj
        rw [← hz6]
        exact str_cell w6 key j hj
      have hb7 : Below w6.heap.size w6 (Lib.bytesWorld w6 5 key) := str_below w6 key
      have hz7 : (Lib.bytesWorld w6 5 key).heap.size = w5.heap.size + 2 := by rw [Lib.bytesWorld_size, hz6]
      rw [hw6]
      obtain ⟨w7, hw7⟩ : ∃ w7, Lib.bytesWorld w6 5 key = w7 := ⟨_, rfl⟩
      rw [hw7] at hrow hb7 hz7 ⊢
      have ho7 : OwnB w7 w5.heap.size (.slice (some ⟨w5.heap.size, 0, none⟩) 1 1) [107] := ho6.below hb7
      have hbw7 : Below w5.heap.size w5 w7 := bstep hb6 hb7
      obtain ⟨C, hC⟩ : ∃ C, grownCap w6 key.size 0 5 = C := ⟨_, rfl⟩
      rw [hC]
      have Hrow := Lib.hid hrow
      have Hlen := Lib.hid hlen
      have Hl := Lib.hid hl
      clear hw6 hw7 hC y0 y1 y2 y3 hcv hrow hlen hl ho6 hb6 hb7 hz6
      go_loopg [6, 8, 23] key.size (fun g s6 _ s23 wr => ∃ j : Nat, j + g = key.size ∧ s23 = .int .i64 j ∧ OwnB wr w5.heap.size s6 (107 :: hexT (l.take j)) ∧ s6.ownBlock ≠ some (w5.heap.size + 1) ∧ Below w5.heap.size w5 wr ∧ w5.heap.size + 2 ≤ wr.heap.size ∧ wr.heap[w5.heap.size + 1]? = w7.heap[w5.heap.size + 1]?)
      case atStart => exact ⟨0, by omega, rfl, ho7, by simp [Value.ownBlock], hbw7, by omega, rfl⟩
      case round =>
        obtain ⟨j, hjg, rfl, hoq, hneq, hbq, hzq, hkq⟩ := hrel
        have hjn : j ≤ key.size := by omega
        have Hjg := Lib.hid hjg
        have Hoq := Lib.hid hoq
        have Hne := Lib.hid hneq
        have Hk := Lib.hid hkq
        clear hjg hoq hneq hkq
        by_cases hjt : j < key.size
        · have hil : j < l.length := by rw [Hlen.out]; exact hjt
          obtain ⟨ch, hc⟩ : ∃ ch, l[j]'hil = ch := ⟨_, rfl⟩
          have hcell : wr.cell? ⟨w5.heap.size + 1, j, none⟩ = some (.int .u8 (ch.toNat : Int)) := by
            rw [← hc]
            exact (World.cell?_of_block (a := ⟨w5.heap.size + 1, j, none⟩) Hk.out).trans (Hrow.out j hil)
          have Hst : Hid (l.take (j + 1) = l.take j ++ [ch]) := by
            unfold Hid
            rw [← hc]
            exact List.take_succ_eq_append_getElem hil
          clear hc
          have hc256 := ch.toNat_lt
          obtain ⟨d1, hd1⟩ : ∃ d, ch.toNat / 16 = d := ⟨_, rfl⟩
          obtain ⟨d2, hd2⟩ : ∃ d, ch.toNat % 16 = d := ⟨_, rfl⟩
          have hq : (ch.toNat : Int) / 16 = (d1 : Int) := by omega
          have hand := and_15b ch.toNat hc256
          rw [hd2] at hand
          have h1 : d1 < 16 := by omega
          have h2 : d2 < 16 := by omega
          have g1 := fun h => digs16_at h1 h
          have g2 := fun h => digs16_at h2 h
          have Hd : Hid (ch.toNat / 16 = d1 ∧ ch.toNat % 16 = d2) := ⟨hd1, hd2⟩
          clear hd1 hd2
          go_wp2_with fail
          go_region_held3 (fun w' => Below w5.heap.size w5 w') ((first | assumption | exact Below.drew (by assumption) | exact Below.alloc (Below.drew (by assumption)) (Below.size (by assumption)) _)) ((first
            | (refine step_appBAt rfl (.tmp 27) (.tmp 34) rfl w5.heap.size u6 _ rfl (World.ownsRow.alloc Hoq.out _) (wr.heap.size + 1) (some ⟨wr.heap.size, 0, none⟩) 2 2 [hexd d1, hexd d2] rfl (by_two wr (hexd d1) (hexd d2)) (by rw [List.length_cons, hexT_len, List.length_take]; omega) (by simp; have := hbq.size; omega) ?_
               intro v4 w4 ho4 hg4 hw4
               have hb4 : Below w5.heap.size w5 w4 := (Below.alloc (Below.drew hbq) hbq.size _).grown hg4 (by simp; have := hbq.size; omega) (fun k hk => (World.ownsRow.lt Hoq.out k hk).1))))
          all_goals
            have hR : w5.heap.size + 1 < wr.heap.size := by omega
            have hne4 : v4.ownBlock ≠ some (w5.heap.size + 1) := by
              rcases hw4 with h | h
              · rw [h]; exact Hne.out
              · rw [h]
                intro e
                injection e with e
                simp at e
                omega
            have hk4 : w4.heap[w5.heap.size + 1]? = w7.heap[w5.heap.size + 1]? := by
              rw [hg4.block _ (by simp; omega) (fun e => Hne.out e.symm)]
              exact (Below.heap_alloc _ _ _ hR).trans Hk.out
            have hz4 : w5.heap.size + 2 ≤ w4.heap.size := by have := hg4.size; simp at this; omega
            have Hne4 := Lib.hid hne4
            have Hk4 := Lib.hid hk4
            have Ho4 : Hid (OwnB w4 w5.heap.size v4 (107 :: hexT (l.take (j + 1)))) := by
              unfold Hid
              rw [Hst.out, hexT_snoc, Hd.out.1, Hd.out.2]
              exact ho4
            clear hw4 hg4 hne4 hk4 ho4 hcell hq hand g1 g2
            go_wp2_with fail
            go_roundg (gk - 1)
          all_goals first
            | exact ⟨j + 1, by have := Hjg.out; omega, by go_num, Ho4.out, Hne4.out, hb4, hz4, Hk4.out⟩
            | (have := Hjg.out; omega)
        · obtain rfl : j = key.size := by omega
          have hoA := Hoq.out
          rw [List.take_of_length_le (by rw [Hlen.out]; exact Nat.le_refl _)] at hoA
          have HoA := Lib.hid hoA
          have HeK : Hid ((107 :: hexT l) = 107 :: hexT key.data.toList) := by unfold Hid; rw [Hl.out]
          obtain ⟨y0, y1, y2, y3⟩ := HS.out wr hbq
          have hbw := bstep hbw5 hbq
          clear hoA Hoq Hne Hk hzq hjt
          go_wp2_with fail
          refine (HTx.out _ hbw).mono ?_
          rintro e8 w8 ⟨⟨t, rfl, ht⟩, hb8⟩
          have hbq8 := bstep hbq hb8
          have HoB := Lib.hid (OwnB.below HoA.out hb8)
          have Ht := Lib.hid ht
          obtain ⟨A9, C9, rfl, hy9⟩ := own_by HoB.out (n := 1 + 2 * key.size) (by rw [List.length_cons, hexT_len, Hlen.out]; omega)
          have hcv9 := conv_by hy9
          have hcc := chk_vals ⟨vk, vx, vs⟩
          have hbw8 := bstep hbw hb8
          have HZ : Hid (∀ us : List (List UInt8), pairL (key, ⟨vk, vx, vs⟩) = wordsL us → 0 < us.length → us.length ≤ 1000 → ∀ w6 : World, Calls Tryd.prog 30 #[.slice (some ⟨w6.heap.size, 0, none⟩) us.length us.length] (w6.alloc (.cells (us.map sV).toArray 9)) fun e' w' => e' = .returned (.string ⟨(pairL (key, ⟨vk, vx, vs⟩)).toArray⟩) ∧ Below w6.heap.size w6 w') := fun us h1 h2 h3 w6 => by
            have := words_lit us w6 h2 h3 (by rw [← h1]; have := Hpl.out; omega)
            rw [← h1] at this
            exact this
          have Hpe : Hid (pairL (key, ⟨vk, vx, vs⟩) = wordsL [107 :: hexT key.data.toList, valT ⟨vk, vx, vs⟩]) := rfl
          have Hvt : Hid (valT ⟨vk, vx, vs⟩ = if chkVa ⟨vk, vx, vs⟩ = 0 then (vtextV ⟨vk, vx, vs⟩).data.toList else [63]) := rfl
          obtain ⟨cv, hcve⟩ : ∃ cv, chkVa ⟨vk, vx, vs⟩ = cv := ⟨_, rfl⟩
          obtain ⟨tv, htv⟩ : ∃ tv, vtextV ⟨vk, vx, vs⟩ = tv := ⟨_, rfl⟩
          obtain ⟨vt, hvt⟩ : ∃ vt, valT ⟨vk, vx, vs⟩ = vt := ⟨_, rfl⟩
          obtain ⟨pl, hpl⟩ : ∃ pl, pairL (key, ⟨vk, vx, vs⟩) = pl := ⟨_, rfl⟩
          rw [hcve] at hcc Ht Hvt ⊢
          rw [htv] at Ht Hvt
          rw [hvt] at Hvt Hpe
          rw [hpl] at HZ Hpe Hls
          clear hy9 ht hb8 hcve htv hvt hpl HTx y0 y1 y2 y3 hbw hbq hbw7 HoA Hpl
          obtain ⟨KB, hKB⟩ : ∃ KB, (⟨(107 :: hexT l).toArray⟩ : ByteArray) = KB := ⟨_, rfl⟩
          rw [hKB] at hcv9
          obtain ⟨LB, hLB⟩ : ∃ LB, (⟨pl.toArray⟩ : ByteArray) = LB := ⟨_, rfl⟩
          rw [hLB] at HZ
          have HoS : Hid (OwnS w8 W1.heap.size u3 (linesP ps i)) := own_below Ho.out (bstep hb5 hbq8)
          have HRd : Hid (∀ w7 : World, Rd (w7.alloc (.cells #[.string LB] 9)) (w7.heap.size + 1) 1 (some ⟨w7.heap.size, 0, none⟩) 1 1 [sV pl]) := fun w7 => by
            rw [← hLB]
            exact rd_one w7 _ _
          rcases hcc with rfl | hcc
          case' inl =>
            have htt : t = tv := Ht.out rfl
            have HWz : Hid (∀ w6 : World, Calls Tryd.prog 30 #[.slice (some ⟨w6.heap.size, 0, none⟩) 2 2] (w6.alloc (.cells #[.string KB, .string t] 9)) fun e' w' => e' = .returned (.string LB) ∧ Below w6.heap.size w6 w') := fun w6 => by
              have e1 : (⟨(vt).toArray⟩ : ByteArray) = t := by
                rw [Hvt.out, if_pos rfl, htt]
              rw [← hKB, HeK.out, ← e1]
              exact HZ.out [107 :: hexT key.data.toList, vt] Hpe.out (Nat.zero_lt_succ _) (show 2 ≤ 1000 by decide) w6
            clear htt
          case' inr =>
            have hc0 : (cv == 0) = false := by simp; omega
            have hcn : cv ≠ 0 := by omega
            have HWz : Hid (∀ w6 : World, Calls Tryd.prog 30 #[.slice (some ⟨w6.heap.size, 0, none⟩) 2 2] (w6.alloc (.cells #[.string KB, .string ⟨#[63]⟩] 9)) fun e' w' => e' = .returned (.string LB) ∧ Below w6.heap.size w6 w') := fun w6 => by
              have e1 : vt = [63] := by
                rw [Hvt.out, if_neg hcn]
              rw [← hKB, HeK.out]
              have := HZ.out [107 :: hexT key.data.toList, vt] Hpe.out (Nat.zero_lt_succ _) (show 2 ≤ 1000 by decide) w6
              rw [e1] at this
              exact this
            clear hcc hcn
          all_goals
            clear hKB hLB Ht
            go_wp2_with fail
            refine (HWz.out _).mono ?_
            rintro e9 wz ⟨rfl, hbz⟩
            have Hbz := Lib.hid (bstep hbw8 hbz)
            have Hoz : Hid (OwnS wz W1.heap.size u3 (linesP ps i)) := own_below HoS.out hbz
            clear hbz hcv9
            go_wp2_with (at_builtin
                         refine wpList_appS rfl (.tmp 45) (.tmp 51) rfl W1.heap.size u3 _ rfl (World.ownsRow.alloc Hoz.out _) (wz.heap.size + 1) wz.heap.size _ rfl (HRd.out wz) ?c1 ?c2 ?_
                         case c1 => rw [linesP_len]; omega
                         case c2 => simp; have := Hbz.out.size; omega
                         intro v10 w10 ho10 hg10 ha10
                         have hbw10 : Below W1.heap.size W1 w10 := (Hbz.out.alloc Hbz.out.size _).grown hg10 (by simp; have := Hbz.out.size; omega) (fun q hq => (World.ownsRow.lt Hoz.out q hq).1)
                         have Ho10 := Lib.hid ho10
                         clear ho10 hg10 ha10)
            go_roundg (gk0 - 1)
          all_goals first
            | exact ⟨i + 1, by have := Hig.out; omega, by go_num, by rw [Hls.out]; exact Ho10.out, hbw10⟩
            | (have := Hig.out; omega)
    · obtain rfl : i = n := by omega
      go_wp2_with fail
      exact HP.out _ _ (own_base Ho.out (by omega)) (hb1.trans (hbr.mono (by omega)))
end Go.Proofs.YtkckncggiicciaaDoor
/-
  The walk of ref25.say.
-/
namespace Go.Proofs.YtkckncggiicciaaDoor
open Go.RowKit
set_option maxRecDepth 100000
def sayB (s : ByteArray) (cs : List Int) : ByteArray := cs.foldl (fun s c => (s ++ ⟨#[32]⟩) ++ ⟨(Lib.itoa c).toArray⟩) s
theorem sayB_snoc (s : ByteArray) (cs : List Int) (c : Int) : sayB s (cs ++ [c]) = (sayB s cs ++ ⟨#[32]⟩) ++ ⟨(Lib.itoa c).toArray⟩ := by
  unfold sayB
  rw [List.foldl_append]
  rfl
set_option maxHeartbeats 3200000 in
theorem say_any (s : ByteArray) (A : Option Addr) (n c : Nat) (cs : List Int) (w : World) (hy : Rd w w.heap.size 1 A n c (cs.map fun x => .int .i64 x)) (h64 : ∀ c ∈ cs, In64 c) (hn : n ≤ 100) (hs : s.size ≤ 1000000) (hI : ItAt w) :
    Calls Tryd.prog 37 #[.string s, .slice A n c] w fun e w' => e = .returned (.string (sayB s cs)) ∧ Below w.heap.size w w' := by
  have hlen : cs.length = n := by simpa using hy.1
  have hcap : n ≤ c := hy.2.1
  have HC : Hid (∀ i, i < n → ∃ b off x, A = some ⟨b, off, none⟩ ∧ b < w.heap.size ∧ cs[i]? = some x ∧ In64 x ∧ w.cell? ⟨b, off + i, none⟩ = some (.int .i64 x)) := fun i hi => by
    obtain ⟨_, _, _, hr⟩ := hy
    obtain ⟨b, off, rfl, hb, hcell⟩ := hr (by omega)
    have hg : cs[i]? = some cs[i] := List.getElem?_eq_getElem (by omega)
    exact ⟨b, off, _, rfl, hb, hg, h64 _ (List.mem_of_getElem? hg), hcell i _ (by rw [List.getElem?_map, hg]; rfl)⟩
  have HT : Hid (cs.take n = cs) := List.take_of_length_le (by omega)
  have HN : Hid (∀ x w', In64 x → Below w.heap.size w w' → Calls Tryd.prog 40 #[.int .i64 x] w' fun e w'' => e = .returned (.string ⟨(Lib.itoa x).toArray⟩) ∧ Below w'.heap.size w' w'') := fun x w' hx hb => number_any x w' hx (hI.below hb)
  have Hs : Hid (s.size ≤ 1000000) := hs
  clear hy h64 hI hlen hs
  go_enter Tryd.func37, Tryd.ntmps37
  go_wp2_with fail
  go_loopg [0, 5] n (fun g s0 s5 wr => ∃ i : Nat, i + g = n ∧ s5 = .int .i64 i ∧ s0 = .string (sayB s (cs.take i)) ∧ (sayB s (cs.take i)).size ≤ 1000000 + 22 * i ∧ Below w.heap.size w wr)
  case atStart => exact ⟨0, by omega, rfl, rfl, Hs.out, Below.refl _ _⟩
  case round =>
    obtain ⟨i, hig, rfl, rfl, hsz, hbr⟩ := hrel
    have Hig := Lib.hid hig
    have hin : i ≤ n := by omega
    clear hig
    by_cases hlt : i < n
    · obtain ⟨b, off, x, rfl, hb, hg, hx, y0⟩ := HC.out i hlt
      have x0 := (hbr.cell (p := ⟨b, off + i, none⟩) hb).trans y0
      have hq := Lib.itoa_length_le _ hx.1 hx.2
      have hS : sayB s (cs.take (i + 1)) = (sayB s (cs.take i) ++ ⟨#[32]⟩) ++ ⟨(Lib.itoa x).toArray⟩ := by
        rw [List.take_add_one, hg]
        exact sayB_snoc _ _ _
      have HN2 := Lib.hid (HN.out x wr hx hbr)
      obtain ⟨B, hB⟩ : ∃ B, sayB s (cs.take i) = B := ⟨_, rfl⟩
      obtain ⟨T, hT⟩ : ∃ T, (⟨(Lib.itoa x).toArray⟩ : ByteArray) = T := ⟨_, rfl⟩
      have hTz : T.size ≤ 21 := by rw [← hT]; show (Lib.itoa x).toArray.size ≤ 21; rw [List.size_toArray]; exact hq
      rw [hT] at HN2 hS
      rw [hB] at hsz hS ⊢
      have HS := Lib.hid hS
      have m1 : ¬ 9223372036854775807 < B.size + 1 := by omega
      have m2 : ¬ 9223372036854775807 < B.size + 1 + T.size := by omega
      have Hsz2 : Hid (((B ++ ⟨#[32]⟩) ++ T : ByteArray).size ≤ 1000000 + 22 * (i + 1)) := by
        unfold Hid
        rw [ByteArray.size_append, ByteArray.size_append]
        show B.size + 1 + T.size ≤ _
        omega
      clear hB hT hS y0 hg hq HC hx HN
      go_wp2_with fail
      refine HN2.out.mono ?_
      rintro e w2 ⟨rfl, hb2⟩
      have hbr2 := hbr.trans (hb2.mono hbr.size)
      go_wp2_with fail
      go_roundg (gk - 1)
      case rel => exact ⟨i + 1, by have := Hig.out; omega, by go_num, by rw [HS.out], by rw [HS.out]; exact Hsz2.out, hbr2⟩
      case measure => have := Hig.out; omega
    · obtain rfl : i = n := by omega
      rw [HT.out] at hsz ⊢
      clear HC HN
      go_wp2_with fail
      go_ret
      exact ⟨rfl, hbr⟩
end Go.Proofs.YtkckncggiicciaaDoor
/-
  A region that draws its order, by an invariant over what has come up.
-/
namespace Go.Proofs.YtkckncggiicciaaDoor
open Go
theorem count_false_set {l : Array Bool} {i : Nat} (h : l.getD i true = false) : (l.setIfInBounds i true).toList.count false + 1 = l.toList.count false := by
  have hi : i < l.size := by
    by_cases h' : i < l.size
    · exact h'
    · rw [Array.getD_eq_getD_getElem?, Array.getElem?_eq_none (by omega)] at h
      simp at h
  have hv : l.toList[i]'(by simpa using hi) = false := by
    rw [Array.getD_eq_getD_getElem?, Array.getElem?_eq_getElem hi] at h
    simpa using h
  rw [Array.toList_setIfInBounds, List.count_set (by simpa using hi), hv]
  have : 0 < l.toList.count false := List.count_pos_iff.2 (by rw [← hv]; exact List.getElem_mem _)
  have e1 : ((true == false) = true) = False := by simp
  simp only [beq_self_eq_true, e1, if_true, if_false]
  omega
theorem wpAny_inv {P : Program} {md : Region.Mode} {ops : Array Oper} {Q : Exit → Act → World → Prop} (I : Array Bool → Act → World → Prop)
    (hend : ∀ l a w, Region.ready md ops l = [] → I l a w → Q .normal a w)
    (hstep : ∀ l a w i, i ∈ Region.ready md ops l → I l a w → wpOp P ops Q i (I (l.setIfInBounds i true)) a w) :
    ∀ (fuel : Nat) (l : Array Bool) (a : Act) (w : World), l.toList.count false ≤ fuel → I l a w → wpAny P md ops Q fuel l a w
  | 0, l, a, w, hc, hI => by
    have h0 : Region.ready md ops l = [] := by
      cases hr : Region.ready md ops l with
      | nil => rfl
      | cons i r =>
        have hm : i ∈ Region.ready md ops l := by rw [hr]; exact List.mem_cons_self
        have := count_false_set (mem_ready.1 hm).1
        omega
    exact ⟨h0, hend l a w h0 hI⟩
  | fuel + 1, l, a, w, hc, hI => by
    refine ⟨fun h => hend l a w h hI, fun i hi => ?_⟩
    refine wpOp_mono (fun a' w' h => wpAny_inv I hend hstep fuel _ a' w' ?_ h) (hstep l a w i hi hI)
    have := count_false_set (mem_ready.1 hi).1
    omega
end Go.Proofs.YtkckncggiicciaaDoor
/-
  A region that draws its order, told operation by operation: each operation's value by a predicate of its own, in whichever world has come.
-/
namespace Go.Proofs.YtkckncggiicciaaDoor
open Go Go.RowKit
def oneQ (K : Act → World → Prop) (Q : Exit → Act → World → Prop) : Exit → Act → World → Prop
  | .normal, a, w => K a w
  | .outgrown, a, w => Q .outgrown a w
  | .panic c, a, w => Q (.panic c) a w
  | .exit i, a, w => Q (.exit i) a w
  | .goto l, a, w => Q (.goto l) a w
  | .ret, a, w => Q .ret a w
theorem wpOp_one {P : Program} {ops : Array Oper} {Q : Exit → Act → World → Prop} {K : Act → World → Prop} {a : Act} {w : World} {i : Nat} {o : Oper} (ho : ops[i]? = some o)
    (h : wpList P ops (oneQ K Q) [o] a w) : wpOp P ops Q i K a w := by
  unfold wpOp
  rw [ho]
  dsimp only
  unfold wpList at h
  split
  · rename_i hw
    rw [if_pos hw] at h
    refine h.imp (fun h => ?_) id
    unfold Oper.wp at *
    generalize (execOp a.eval o).run P w = r at *
    cases r with
    | ok n w' =>
      cases n <;> simp only [Oper.upon] at h ⊢ <;>
        first
          | exact h
          | exact Calls.mono h (fun e w'' he => by cases e <;> exact he)
    | halt x w' => cases x <;> simp only [Oper.upon] at h ⊢ <;> exact h
  · rename_i hw
    rw [if_neg hw] at h
    exact h
theorem wp_region_typed {P : Program} {id : Nat} {Q : Exit → Act → World → Prop} {a0 : Act} {w0 : World} {l : List Oper} (hm : P.follows .mixedOrders = true)
    (hlex : ∀ (i : Nat) (o : Oper), l[i]? = some o → ∀ e ∈ o.after, Region.binds .any e = true → e.on < i)
    (mk : (Nat → Value) → Act) (f0 : Nat → Value) (h0 : mk f0 = a0)
    (hput : ∀ (i : Nat) (o : Oper), l[i]? = some o → ∀ f v, (mk f).put o.dst v = mk (fun j => if j = i then v else f j))
    (J : World → Prop) (R : World → World → Prop) (T : Nat → Value → World → Prop)
    (hJ : J { w0 with drawn := w0.drawn + 1 })
    (hT : ∀ i v w w', T i v w → R w w' → T i v w')
    (hend : ∀ f w, J w → (∀ i, i < l.length → T i (f i) w) → Q .normal (mk f) w)
    (hstep : ∀ (i : Nat) (o : Oper), l[i]? = some o → ∀ f w, J w → (∀ e ∈ o.after, Region.binds .any e = true → T e.on (f e.on) w) →
      wpList P l.toArray (oneQ (fun a' w' => ∃ v, a' = (mk f).put o.dst v ∧ R w w' ∧ J w' ∧ T i v w') Q) [o] (mk f) w) :
    (Code.region id l.toArray true).wp P Q a0 w0 := by
  refine wp_region_any hm ?_
  refine wpAny_inv (fun L a w => L.size = l.length ∧ ∃ f, a = mk f ∧ J w ∧ ∀ i, i < l.length → L.getD i false = true → T i (f i) w) ?_ ?_ l.toArray.size _ _ _ ?_ ?_
  · rintro L a w hr ⟨hsz, f, rfl, hj, ht⟩
    have hall : ∀ n i, i < n → i < l.length → L.getD i false = true := by
      intro n
      induction n with
      | zero => intro i h; omega
      | succ n ih =>
        intro i hi hl
        cases hc : L.getD i false with
        | true => rfl
        | false =>
          have : i ∈ Region.ready .any l.toArray L := by
            refine mem_ready.2 ⟨?_, l[i], ?_, fun e he hbb => ih e.on ?_ ?_⟩
            · rw [Array.getD_eq_getD_getElem?, Array.getElem?_eq_getElem (by omega)] at hc ⊢
              exact hc
            · rw [List.getElem?_toArray, List.getElem?_eq_getElem hl]
            · have := hlex i _ (List.getElem?_eq_getElem hl) e he hbb; omega
            · have := hlex i _ (List.getElem?_eq_getElem hl) e he hbb; omega
          rw [hr] at this
          cases this
    exact hend f w hj fun i hi => ht i hi (hall (i + 1) i (by omega) hi)
  · rintro L a w i hi ⟨hsz, f, rfl, hj, ht⟩
    obtain ⟨_, o, ho, hd⟩ := mem_ready.1 hi
    have ho' : l[i]? = some o := by rw [List.getElem?_toArray] at ho; exact ho
    have hil : i < l.length := (List.getElem?_eq_some_iff.1 ho').1
    refine wpOp_mono ?_ (wpOp_one ho (hstep i o ho' f w hj fun e he hb => ht e.on ?_ (hd e he hb)))
    · rintro a' w' ⟨v, rfl, hr, hj', hv⟩
      refine ⟨by rw [Array.size_setIfInBounds]; exact hsz, _, hput i o ho' f v, hj', fun j hjl hL => ?_⟩
      by_cases hji : j = i
      · rw [if_pos hji, hji]; exact hv
      · rw [if_neg hji]
        refine hT _ _ _ _ (ht j hjl ?_) hr
        rw [Array.getD_eq_getD_getElem?, Array.getElem?_setIfInBounds_ne (Ne.symm hji), ← Array.getD_eq_getD_getElem?] at hL
        exact hL
    · have := hlex i o ho' e he hb; omega
  · simp
  · refine ⟨by simp, f0, h0.symm, hJ, fun i hi hL => ?_⟩
    rw [Array.getD_eq_getD_getElem?, Array.getElem?_replicate] at hL
    split at hL <;> cases hL
theorem wpList_mono1 {P : Program} {ops : Array Oper} {Q : Exit → Act → World → Prop} {K K' : Act → World → Prop} {a : Act} {w : World} {o : Oper} (hk : ∀ a w, K a w → K' a w)
    (h : wpList P ops (oneQ K Q) [o] a w) : wpList P ops (oneQ K' Q) [o] a w := by
  unfold wpList at *
  split
  · rename_i hw
    rw [if_pos hw] at h
    refine h.imp (fun h => ?_) id
    unfold Oper.wp at *
    generalize (execOp a.eval o).run P w = r at *
    cases r with
    | ok n w' =>
      cases n <;> simp only [Oper.upon] at h ⊢ <;>
        first
          | exact hk _ _ h
          | exact Calls.mono h (fun e w'' he => by cases e <;> first | exact hk _ _ he | exact he)
          | exact Rows.mono h (fun _ _ he => hk _ _ he)
    | halt x w' => cases x <;> simp only [Oper.upon] at h ⊢ <;> exact h
  · rename_i hw
    rw [if_neg hw] at h
    exact hk _ _ h

/-- Something of each operation of a list, with its place. -/
def stepAll (F : Nat → Oper → Prop) : Nat → List Oper → Prop
  | _, [] => True
  | i, o :: r => F i o ∧ stepAll F (i + 1) r
theorem stepAll_at {F : Nat → Oper → Prop} : ∀ {l : List Oper} {k : Nat}, stepAll F k l → ∀ {i : Nat} {o : Oper}, l[i]? = some o → F (k + i) o
  | [], _, _, i, o, h => by simp at h
  | a :: l, k, hs, 0, o, h => by
    simp at h
    subst h
    exact hs.1
  | a :: l, k, hs, i + 1, o, h => by
    have := stepAll_at (k := k + 1) hs.2 (i := i) (o := o) (by simpa using h)
    rw [Nat.add_assoc, Nat.add_comm 1 i] at this
    exact this
/-- What is known of those that an operation waits for. -/
def depAll (F : Nat → Prop) : List Edge → Prop
  | [] => True
  | e :: r => match Region.binds .any e with | true => F e.on ∧ depAll F r | false => depAll F r
theorem depAll_of {F : Nat → Prop} : ∀ {l : List Edge}, (∀ e ∈ l, Region.binds .any e = true → F e.on) → depAll F l
  | [], _ => trivial
  | e :: l, h => by
    unfold depAll
    split
    · rename_i hb
      exact ⟨h e List.mem_cons_self hb, depAll_of fun e' he' => h e' (List.mem_cons_of_mem _ he')⟩
    · exact depAll_of fun e' he' => h e' (List.mem_cons_of_mem _ he')
def lexAll : Nat → List Oper → Bool
  | _, [] => true
  | i, o :: r => (o.after.toList.all fun e => !Region.binds .any e || decide (e.on < i)) && lexAll (i + 1) r
theorem lexAll_at : ∀ {l : List Oper} {k : Nat}, lexAll k l = true → ∀ {i : Nat} {o : Oper}, l[i]? = some o → ∀ e ∈ o.after, Region.binds .any e = true → e.on < k + i
  | [], _, _, i, o, h => by simp at h
  | a :: l, k, hs, 0, o, h => by
    simp at h
    subst h
    unfold lexAll at hs
    rw [Bool.and_eq_true, List.all_eq_true] at hs
    intro e he hb
    have := hs.1 e (by simpa using he)
    rw [hb] at this
    simpa using this
  | a :: l, k, hs, i + 1, o, h => by
    unfold lexAll at hs
    rw [Bool.and_eq_true] at hs
    have := lexAll_at (k := k + 1) hs.2 (i := i) (o := o) (by simpa using h)
    intro e he hb
    have := this e he hb
    omega
/-- What an operation's value is: a value that is known; a slice that holds the values; or nothing is said. -/
inductive Sp where
  | val (u : Value)
  | rd (n : Nat) (us : List Value)
  | any
def Sp.holds : Sp → Value → World → Prop
  | .val u, v, _ => v = u
  | .rd n us, v, w => ∃ A c, v = .slice A n c ∧ Rd w w.heap.size 1 A n c us
  | .any, _, _ => True
theorem Sp.below {s : Sp} {v : Value} {w w' : World} (h : s.holds v w) (hb : Below w.heap.size w w') : s.holds v w' := by
  cases s with
  | val u => exact h
  | rd n us =>
    obtain ⟨A, c, e, hr⟩ := h
    exact ⟨A, c, e, (Rd.below hr hb (Nat.le_refl _)).mono hb.size⟩
  | any => trivial
theorem sp_bool {b c : Bool} {w : World} (h : b = c) : (Sp.val (.bool c)).holds (.bool b) w := congrArg _ h
def putOps (a : Act) : List Oper → (Nat → Value) → Nat → Act
  | [], _, _ => a
  | o :: r, f, i => putOps (a.put o.dst (f i)) r f (i + 1)
theorem wp_region_told {P : Program} {id : Nat} {Q : Exit → Act → World → Prop} {a0 : Act} {w0 : World} {l : List Oper} (hm : P.follows .mixedOrders = true) (hlex : lexAll 0 l = true)
    (S : List Sp) (mk : (Nat → Value) → Act) (_hmk : ∀ f, putOps a0 l f 0 = mk f) (f0 : Nat → Value) (h0 : mk f0 = a0)
    (hput : stepAll (fun i o => ∀ f v, (mk f).put o.dst v = mk (fun j => if j = i then v else f j)) 0 l)
    (hstep : stepAll (fun i o => ∀ f w, Below w0.heap.size w0 w → depAll (fun j => (S.getD j .any).holds (f j) w) o.after.toList →
      wpList P l.toArray (oneQ (fun a' w' => ∃ v, a' = (mk f).put o.dst v ∧ Below w.heap.size w w' ∧ (S.getD i .any).holds v w') Q) [o] (mk f) w) 0 l)
    (hend : ∀ f w, Below w0.heap.size w0 w → (∀ i, i < l.length → (S.getD i .any).holds (f i) w) → Q .normal (mk f) w) :
    (Code.region id l.toArray true).wp P Q a0 w0 := by
  refine wp_region_typed hm (fun i o ho e he hb => by have := lexAll_at hlex ho e he hb; omega) mk f0 h0 (fun i o ho => by have := stepAll_at hput ho; rw [Nat.zero_add] at this; exact this)
    (fun w => Below w0.heap.size w0 w) (fun w w' => Below w.heap.size w w') (fun i v w => (S.getD i .any).holds v w) ⟨rfl, rfl, rfl, Nat.le_refl _, fun _ _ => rfl⟩ (fun i v w w' => Sp.below) hend ?_
  intro i o ho f w hj hd
  have := stepAll_at hstep ho f w hj (depAll_of fun e he hb => by have := hd e (by simpa using he) hb; exact this)
  rw [Nat.zero_add] at this
  refine wpList_mono1 ?_ this
  rintro a' w' ⟨v, h1, h2, h3⟩
  exact ⟨v, h1, h2, hj.trans (h2.mono hj.size), h3⟩
end Go.Proofs.YtkckncggiicciaaDoor
/-
  The walk of ref25.Replica; written by genfrep.py.
-/
namespace Go.Proofs.YtkckncggiicciaaDoor
open Go.RowKit
set_option maxRecDepth 100000
theorem sp_lits (w : World) (us : List Value) (e : TypeId) (hm : us.length ≤ 100000) : (Sp.rd us.length us).holds (.slice (some ⟨w.heap.size, 0, none⟩) us.length us.length) (w.alloc (.cells us.toArray e)) := by
  refine ⟨_, _, rfl, ?_⟩
  have := rd_lits w us e hm
  have e1 : (w.alloc (.cells us.toArray e)).heap.size = w.heap.size + 1 := by simp
  rw [e1]
  exact this
theorem sayB_one (s : ByteArray) (c : Int) (hs : s.size ≤ 10) (hc : In64 c) : (sayB s [c]).size ≤ 40 := by
  have q := Lib.itoa_length_le c hc.1 hc.2
  have e : sayB s [c] = (s ++ ⟨#[32]⟩) ++ ⟨(Lib.itoa c).toArray⟩ := rfl
  rw [e, ByteArray.size_append, ByteArray.size_append]
  have e2 : (⟨(Lib.itoa c).toArray⟩ : ByteArray).size = (Lib.itoa c).length := by show (Lib.itoa c).toArray.size = _; rw [List.size_toArray]
  have e3 : (⟨#[32]⟩ : ByteArray).size = 1 := rfl
  omega
theorem repL_say (id role term lead commit base : Int) :
    (((((sayB ⟨#[110, 111, 100, 101]⟩ [id] ++ sayB ⟨#[32, 114, 111, 108, 101]⟩ [role]) ++ sayB ⟨#[32, 116, 101, 114, 109]⟩ [term]) ++ sayB ⟨#[32, 108, 101, 97, 100]⟩ [lead]) ++ sayB ⟨#[32, 99, 111, 109, 109, 105, 116]⟩ [commit]) ++ sayB ⟨#[32, 98, 97, 115, 101]⟩ [base]) ++ ⟨#[32, 108, 97, 115, 116, 32, 63]⟩ = (⟨(repL id role term lead commit base [63]).toArray⟩ : ByteArray) := by
  refine bytes_ext ?_
  simp only [sayB, List.foldl_cons, List.foldl_nil, ByteArray.data_append, Array.toList_append]
  unfold repL wordsL
  rw [Lib.join_cons]
  simp [Lib.joinTail]
theorem repL_say2 (id role term lead commit base n : Int) :
    sayB ((((((sayB ⟨#[110, 111, 100, 101]⟩ [id] ++ sayB ⟨#[32, 114, 111, 108, 101]⟩ [role]) ++ sayB ⟨#[32, 116, 101, 114, 109]⟩ [term]) ++ sayB ⟨#[32, 108, 101, 97, 100]⟩ [lead]) ++ sayB ⟨#[32, 99, 111, 109, 109, 105, 116]⟩ [commit]) ++ sayB ⟨#[32, 98, 97, 115, 101]⟩ [base]) ++ ⟨#[32, 108, 97, 115, 116]⟩) [n] = (⟨(repL id role term lead commit base (Lib.itoa n)).toArray⟩ : ByteArray) := by
  refine bytes_ext ?_
  simp only [sayB, List.foldl_cons, List.foldl_nil, ByteArray.data_append, Array.toList_append]
  unfold repL wordsL
  rw [Lib.join_cons]
  simp [Lib.joinTail]
set_option maxHeartbeats 6400000 in
theorem RReplica_any (x : List Value) (id term base bt commit role lead : Int) (A : Option Addr) (m c : Nat) (w : World) (hr : RfAt x id term base bt commit role lead (.slice A m c)) (hl : LogAt w A m c)
    (h1 : In64 id) (h2 : In64 role) (h3 : In64 term) (h4 : In64 lead) (h5 : In64 commit) (h6 : In64 base) (hI : ItAt w) :
    Calls Tryd.prog 14 #[.agg x.toArray] w fun e w' => e = .returned (sV (repL id role term lead commit base (lastT base m))) ∧ Below w.heap.size w w' := by
  have hob := alloc_below w (.cells x.toArray 33)
  obtain ⟨B0, hB0⟩ : ∃ B, sayB ⟨#[110, 111, 100, 101]⟩ [id] = B := ⟨_, rfl⟩
  obtain ⟨B1, hB1⟩ : ∃ B, sayB ⟨#[32, 114, 111, 108, 101]⟩ [role] = B := ⟨_, rfl⟩
  obtain ⟨B2, hB2⟩ : ∃ B, sayB ⟨#[32, 116, 101, 114, 109]⟩ [term] = B := ⟨_, rfl⟩
  obtain ⟨B3, hB3⟩ : ∃ B, sayB ⟨#[32, 108, 101, 97, 100]⟩ [lead] = B := ⟨_, rfl⟩
  obtain ⟨B4, hB4⟩ : ∃ B, sayB ⟨#[32, 99, 111, 109, 109, 105, 116]⟩ [commit] = B := ⟨_, rfl⟩
  obtain ⟨B5, hB5⟩ : ∃ B, sayB ⟨#[32, 98, 97, 115, 101]⟩ [base] = B := ⟨_, rfl⟩
  have Hz0 : B0.size ≤ 40 := by rw [← hB0]; exact sayB_one _ _ (by decide) h1
  have Hz1 : B1.size ≤ 40 := by rw [← hB1]; exact sayB_one _ _ (by decide) h2
  have Hz2 : B2.size ≤ 40 := by rw [← hB2]; exact sayB_one _ _ (by decide) h3
  have Hz3 : B3.size ≤ 40 := by rw [← hB3]; exact sayB_one _ _ (by decide) h4
  have Hz4 : B4.size ≤ 40 := by rw [← hB4]; exact sayB_one _ _ (by decide) h5
  have Hz5 : B5.size ≤ 40 := by rw [← hB5]; exact sayB_one _ _ (by decide) h6
  have HS0 : Hid (∀ A c w1, Below (w.alloc (.cells x.toArray 33)).heap.size (w.alloc (.cells x.toArray 33)) w1 → Rd w1 w1.heap.size 1 A 1 c [.int .i64 id] → Calls Tryd.prog 37 #[.string ⟨#[110, 111, 100, 101]⟩, .slice A 1 c] w1 fun e w2 => e = .returned (.string B0) ∧ Below w1.heap.size w1 w2) := fun A c w1 hb1 hrd => by
    rw [← hB0]
    exact say_any _ A 1 c [id] w1 hrd (fun c hc => by simp at hc; subst hc; exact h1) (by decide) (by decide) (hI.below (hob.trans (hb1.mono hob.size)))
  have HS1 : Hid (∀ A c w1, Below (w.alloc (.cells x.toArray 33)).heap.size (w.alloc (.cells x.toArray 33)) w1 → Rd w1 w1.heap.size 1 A 1 c [.int .i64 role] → Calls Tryd.prog 37 #[.string ⟨#[32, 114, 111, 108, 101]⟩, .slice A 1 c] w1 fun e w2 => e = .returned (.string B1) ∧ Below w1.heap.size w1 w2) := fun A c w1 hb1 hrd => by
    rw [← hB1]
    exact say_any _ A 1 c [role] w1 hrd (fun c hc => by simp at hc; subst hc; exact h2) (by decide) (by decide) (hI.below (hob.trans (hb1.mono hob.size)))
  have HS2 : Hid (∀ A c w1, Below (w.alloc (.cells x.toArray 33)).heap.size (w.alloc (.cells x.toArray 33)) w1 → Rd w1 w1.heap.size 1 A 1 c [.int .i64 term] → Calls Tryd.prog 37 #[.string ⟨#[32, 116, 101, 114, 109]⟩, .slice A 1 c] w1 fun e w2 => e = .returned (.string B2) ∧ Below w1.heap.size w1 w2) := fun A c w1 hb1 hrd => by
    rw [← hB2]
    exact say_any _ A 1 c [term] w1 hrd (fun c hc => by simp at hc; subst hc; exact h3) (by decide) (by decide) (hI.below (hob.trans (hb1.mono hob.size)))
  have HS3 : Hid (∀ A c w1, Below (w.alloc (.cells x.toArray 33)).heap.size (w.alloc (.cells x.toArray 33)) w1 → Rd w1 w1.heap.size 1 A 1 c [.int .i64 lead] → Calls Tryd.prog 37 #[.string ⟨#[32, 108, 101, 97, 100]⟩, .slice A 1 c] w1 fun e w2 => e = .returned (.string B3) ∧ Below w1.heap.size w1 w2) := fun A c w1 hb1 hrd => by
    rw [← hB3]
    exact say_any _ A 1 c [lead] w1 hrd (fun c hc => by simp at hc; subst hc; exact h4) (by decide) (by decide) (hI.below (hob.trans (hb1.mono hob.size)))
  have HS4 : Hid (∀ A c w1, Below (w.alloc (.cells x.toArray 33)).heap.size (w.alloc (.cells x.toArray 33)) w1 → Rd w1 w1.heap.size 1 A 1 c [.int .i64 commit] → Calls Tryd.prog 37 #[.string ⟨#[32, 99, 111, 109, 109, 105, 116]⟩, .slice A 1 c] w1 fun e w2 => e = .returned (.string B4) ∧ Below w1.heap.size w1 w2) := fun A c w1 hb1 hrd => by
    rw [← hB4]
    exact say_any _ A 1 c [commit] w1 hrd (fun c hc => by simp at hc; subst hc; exact h5) (by decide) (by decide) (hI.below (hob.trans (hb1.mono hob.size)))
  have HS5 : Hid (∀ A c w1, Below (w.alloc (.cells x.toArray 33)).heap.size (w.alloc (.cells x.toArray 33)) w1 → Rd w1 w1.heap.size 1 A 1 c [.int .i64 base] → Calls Tryd.prog 37 #[.string ⟨#[32, 98, 97, 115, 101]⟩, .slice A 1 c] w1 fun e w2 => e = .returned (.string B5) ∧ Below w1.heap.size w1 w2) := fun A c w1 hb1 hrd => by
    rw [← hB5]
    exact say_any _ A 1 c [base] w1 hrd (fun c hc => by simp at hc; subst hc; exact h6) (by decide) (by decide) (hI.below (hob.trans (hb1.mono hob.size)))
  have hrow : (w.alloc (.cells x.toArray 33)).heap[w.heap.size]? = some (.cells x.toArray 33 (0, 0)) := heap_alloc_new w _
  have Hrow : Hid (∀ w', Below (w.alloc (.cells x.toArray 33)).heap.size (w.alloc (.cells x.toArray 33)) w' → w'.cell? ⟨w.heap.size, 0, none⟩ = some (.int .i64 id) ∧ w'.cell? ⟨w.heap.size, 12, none⟩ = some (.int .i64 role) ∧ w'.cell? ⟨w.heap.size, 1, none⟩ = some (.int .i64 term) ∧
      w'.cell? ⟨w.heap.size, 13, none⟩ = some (.int .i64 lead) ∧ w'.cell? ⟨w.heap.size, 11, none⟩ = some (.int .i64 commit) ∧ w'.cell? ⟨w.heap.size, 3, none⟩ = some (.int .i64 base)) := fun w' hb => by
    have q := (hb.block w.heap.size (by simp)).trans hrow
    exact ⟨cell_list q _ _ hr.id, cell_list q _ _ hr.role, cell_list q _ _ hr.term, cell_list q _ _ hr.lead, cell_list q _ _ hr.commit, cell_list q _ _ hr.base⟩
  have HRg : Hid (∀ w', Below (w.alloc (.cells x.toArray 33)).heap.size (w.alloc (.cells x.toArray 33)) w' → w'.heap[w.heap.size]? = some (.cells x.toArray 33 (0, 0)) ∧ w'.rangeAt w.heap.size 1 (hardC x)) := fun w' hb => by
    have q := (hb.block w.heap.size (by simp)).trans hrow
    refine ⟨q, fun j v hj => ?_⟩
    have hj10 : j < 10 := by
      have := (List.getElem?_eq_some_iff.1 hj).1
      unfold hardC at this
      simp at this
      omega
    rw [hardC_at x j hj10] at hj
    rw [Nat.add_comm 1 j]
    exact cell_list q _ _ hj
  have Hob := Lib.hid hob
  clear hrow hob
  obtain ⟨RB, hRB⟩ : ∃ RB, ((((B0 ++ B1) ++ B2) ++ B3) ++ B4) ++ B5 = RB := ⟨_, rfl⟩
  have hRz : RB.size ≤ 240 := by
    rw [← hRB]
    simp only [ByteArray.size_append]
    omega
  have HF1 : Hid (RB ++ ⟨#[32, 108, 97, 115, 116, 32, 63]⟩ = (⟨(repL id role term lead commit base [63]).toArray⟩ : ByteArray)) := by
    unfold Hid
    rw [← hRB, ← hB0, ← hB1, ← hB2, ← hB3, ← hB4, ← hB5]
    exact repL_say _ _ _ _ _ _
  have HF2 : Hid (∀ n, sayB (RB ++ ⟨#[32, 108, 97, 115, 116]⟩) [n] = (⟨(repL id role term lead commit base (Lib.itoa n)).toArray⟩ : ByteArray)) := fun n => by
    rw [← hRB, ← hB0, ← hB1, ← hB2, ← hB3, ← hB4, ← hB5]
    exact repL_say2 _ _ _ _ _ _ _
  have HLL : Hid (logB base = true → ∀ w', Below (w.alloc (.cells x.toArray 33)).heap.size (w.alloc (.cells x.toArray 33)) w' → Calls Tryd.prog 39 #[.agg (hardC x).toArray] w' (LastPost (base + m) w')) := fun hb w' hbw => by
    have hbb : 0 ≤ base ∧ base ≤ 1099511627776 := by
      unfold logB at hb
      simpa using hb
    exact RefLast_any (hardC x) base bt A m c w' ((hardC_at x 2 (by omega)).trans hr.base) ((hardC_at x 3 (by omega)).trans hr.bt) ((hardC_at x 9 (by omega)).trans hr.log) (hl.below (Hob.out.trans (hbw.mono Hob.out.size))) hbb.1 hbb.2
  have HG : Hid (∀ w', Calls Tryd.prog 38 #[.agg x.toArray] w' fun e w'' => e = .returned (.bool (logB base)) ∧ Below w'.heap.size w' w'') := fun w' => logged_any x base w' hr.base
  have HSL : Hid (logB base = true → ∀ A c w1, Below (w.alloc (.cells x.toArray 33)).heap.size (w.alloc (.cells x.toArray 33)) w1 → Rd w1 w1.heap.size 1 A 1 c [.int .i64 (base + m)] → Calls Tryd.prog 37 #[.string (RB ++ ⟨#[32, 108, 97, 115, 116]⟩), .slice A 1 c] w1 fun e w2 => e = .returned (.string (sayB (RB ++ ⟨#[32, 108, 97, 115, 116]⟩) [base + m])) ∧ Below w1.heap.size w1 w2) := fun hb A c w1 hb1 hrd => by
    have hbb : 0 ≤ base ∧ base ≤ 1099511627776 := by
      unfold logB at hb
      simpa using hb
    have hmz : m ≤ 1000000 := hl.2.1
    exact say_any _ A 1 c [base + m] w1 hrd (fun c hc => by simp at hc; subst hc; unfold In64; omega) (by decide) (by rw [ByteArray.size_append]; show RB.size + 5 ≤ _; omega) (hI.below (Hob.out.trans (hb1.mono Hob.out.size)))
  have Hsz : Hid ((Tryd.prog.info? 33).map (·.size) = some x.toArray.size) := by unfold Hid; rw [List.size_toArray, hr.len]; exact size40
  have Hsz2 : Hid ((Tryd.prog.info? 29).map (·.size) = some (hardC x).length) := by
    unfold Hid
    have : (hardC x).length = 10 := by unfold hardC; rw [List.length_take, List.length_drop, hr.len]; rfl
    rw [this]
    exact size10
  have HLT : Hid (lastT base m = if logB base = true then Lib.itoa (base + m) else [63]) := rfl
  unfold sV
  obtain ⟨mi, hmi⟩ : ∃ mi : Int, base + m = mi := ⟨_, rfl⟩
  obtain ⟨LT, hLT⟩ : ∃ LT, lastT base m = LT := ⟨_, rfl⟩
  rw [hmi] at HLL HLT HSL
  rw [hLT] at HLT ⊢
  go_enter Tryd.func14, Tryd.ntmps14
  go_wp2_with fail
  with_reducible refine wp_region_told (by kernel_rfl) (by kernel_rfl) [.val (.pointer (some ⟨w.heap.size, 0, none⟩)),
      .val (.int .i64 id),
      .rd (1) ([.int .i64 id]),
      .val (.string B0),
      .val (.pointer (some ⟨w.heap.size, 12, none⟩)),
      .val (.int .i64 role),
      .rd (1) ([.int .i64 role]),
      .val (.string B1),
      .val (.string (B0 ++ B1)),
      .val (.pointer (some ⟨w.heap.size, 1, none⟩)),
      .val (.pointer (some ⟨w.heap.size, 1, none⟩)),
      .val (.int .i64 term),
      .rd (1) ([.int .i64 term]),
      .val (.string B2),
      .val (.string ((B0 ++ B1) ++ B2)),
      .val (.pointer (some ⟨w.heap.size, 13, none⟩)),
      .val (.int .i64 lead),
      .rd (1) ([.int .i64 lead]),
      .val (.string B3),
      .val (.string (((B0 ++ B1) ++ B2) ++ B3)),
      .val (.pointer (some ⟨w.heap.size, 11, none⟩)),
      .val (.int .i64 commit),
      .rd (1) ([.int .i64 commit]),
      .val (.string B4),
      .val (.string ((((B0 ++ B1) ++ B2) ++ B3) ++ B4)),
      .val (.pointer (some ⟨w.heap.size, 1, none⟩)),
      .val (.pointer (some ⟨w.heap.size, 3, none⟩)),
      .val (.int .i64 base),
      .rd (1) ([.int .i64 base]),
      .val (.string B5),
      .val (.string (((((B0 ++ B1) ++ B2) ++ B3) ++ B4) ++ B5)),
      .val (.string (((((B0 ++ B1) ++ B2) ++ B3) ++ B4) ++ B5))] ?mk (fun f => ?hmk) ?f0 ?h0 ?hput ?hstep ?hend
  case hmk =>
    simp only [putOps, Act.put, List.setIfInBounds_toArray, List.set_cons_succ, List.set_cons_zero, Nat.zero_add, Nat.reduceAdd]
    rfl
  case f0 => exact fun _ => undef
  case h0 => exact rfl
  case hput =>
    repeat (refine ⟨fun f v => rfl, ?_⟩)
    exact trivial
  case hstep =>
    refine ⟨fun f w1 hb1 hd => ?_, ?_⟩
    · clear hd
      go_wp2_with fail
      exact ⟨_, by first | rfl | simp only [Act.put, List.setIfInBounds_toArray, List.set_cons_succ, List.set_cons_zero], Below.refl _ _, rfl⟩
    refine ⟨fun f w1 hb1 hd => ?_, ?_⟩
    · obtain ⟨d0, -⟩ := hd
      have q0 : f 0 = .pointer (some ⟨w.heap.size, 0, none⟩) := d0
      clear d0
      have y := Hrow.out w1 hb1
      obtain ⟨y0, y1, y2, y3, y4, y5⟩ := y
      go_wp2_with fail
      exact ⟨_, by first | rfl | simp only [q0, Act.put, List.setIfInBounds_toArray, List.set_cons_succ, List.set_cons_zero], Below.refl _ _, rfl⟩
    refine ⟨fun f w1 hb1 hd => ?_, ?_⟩
    · obtain ⟨d0, -⟩ := hd
      have q1 : f 1 = .int .i64 id := d0
      clear d0
      go_wp2_with fail
      exact ⟨_, by first | rfl | simp only [q1, Act.put, List.setIfInBounds_toArray, List.set_cons_succ, List.set_cons_zero], alloc_below _ _, sp_lits w1 [.int .i64 id] 3 (by simp)⟩
    refine ⟨fun f w1 hb1 hd => ?_, ?_⟩
    · obtain ⟨d0, -⟩ := hd
      obtain ⟨A2, c2, q2, r2⟩ := d0
      have HC := HS0.out A2 c2 w1 hb1 r2
      go_wp2_with (with_reducible refine HC.mono ?_; rintro e w2 ⟨rfl, hb2⟩)
      exact ⟨_, by first | rfl | simp only [q2, Act.put, List.setIfInBounds_toArray, List.set_cons_succ, List.set_cons_zero], hb2, rfl⟩
    refine ⟨fun f w1 hb1 hd => ?_, ?_⟩
    · clear hd
      go_wp2_with fail
      exact ⟨_, by first | rfl | simp only [Act.put, List.setIfInBounds_toArray, List.set_cons_succ, List.set_cons_zero], Below.refl _ _, rfl⟩
    refine ⟨fun f w1 hb1 hd => ?_, ?_⟩
    · obtain ⟨d0, -⟩ := hd
      have q4 : f 4 = .pointer (some ⟨w.heap.size, 12, none⟩) := d0
      clear d0
      have y := Hrow.out w1 hb1
      obtain ⟨y0, y1, y2, y3, y4, y5⟩ := y
      go_wp2_with fail
      exact ⟨_, by first | rfl | simp only [q4, Act.put, List.setIfInBounds_toArray, List.set_cons_succ, List.set_cons_zero], Below.refl _ _, rfl⟩
    refine ⟨fun f w1 hb1 hd => ?_, ?_⟩
    · obtain ⟨d0, -⟩ := hd
      have q5 : f 5 = .int .i64 role := d0
      clear d0
      go_wp2_with fail
      exact ⟨_, by first | rfl | simp only [q5, Act.put, List.setIfInBounds_toArray, List.set_cons_succ, List.set_cons_zero], alloc_below _ _, sp_lits w1 [.int .i64 role] 3 (by simp)⟩
    refine ⟨fun f w1 hb1 hd => ?_, ?_⟩
    · obtain ⟨d0, d1, -⟩ := hd
      obtain ⟨A6, c6, q6, r6⟩ := d0
      have q3 : f 3 = .string B0 := d1
      clear d1
      have HC := HS1.out A6 c6 w1 hb1 r6
      go_wp2_with (with_reducible refine HC.mono ?_; rintro e w2 ⟨rfl, hb2⟩)
      exact ⟨_, by first | rfl | simp only [q3, q6, Act.put, List.setIfInBounds_toArray, List.set_cons_succ, List.set_cons_zero], hb2, rfl⟩
    refine ⟨fun f w1 hb1 hd => ?_, ?_⟩
    · obtain ⟨d0, d1, -⟩ := hd
      have q3 : f 3 = .string B0 := d0
      have q7 : f 7 = .string B1 := d1
      clear d0 d1
      go_wp2_with fail
      exact ⟨_, by first | rfl | simp only [q3, q7, Act.put, List.setIfInBounds_toArray, List.set_cons_succ, List.set_cons_zero], Below.refl _ _, rfl⟩
    refine ⟨fun f w1 hb1 hd => ?_, ?_⟩
    · clear hd
      go_wp2_with fail
      exact ⟨_, by first | rfl | simp only [Act.put, List.setIfInBounds_toArray, List.set_cons_succ, List.set_cons_zero], Below.refl _ _, rfl⟩
    refine ⟨fun f w1 hb1 hd => ?_, ?_⟩
    · obtain ⟨d0, -⟩ := hd
      have q9 : f 9 = .pointer (some ⟨w.heap.size, 1, none⟩) := d0
      clear d0
      go_wp2_with fail
      exact ⟨_, by first | rfl | simp only [q9, Act.put, List.setIfInBounds_toArray, List.set_cons_succ, List.set_cons_zero], Below.refl _ _, rfl⟩
    refine ⟨fun f w1 hb1 hd => ?_, ?_⟩
    · obtain ⟨d0, -⟩ := hd
      have q10 : f 10 = .pointer (some ⟨w.heap.size, 1, none⟩) := d0
      clear d0
      have y := Hrow.out w1 hb1
      obtain ⟨y0, y1, y2, y3, y4, y5⟩ := y
      go_wp2_with fail
      exact ⟨_, by first | rfl | simp only [q10, Act.put, List.setIfInBounds_toArray, List.set_cons_succ, List.set_cons_zero], Below.refl _ _, rfl⟩
    refine ⟨fun f w1 hb1 hd => ?_, ?_⟩
    · obtain ⟨d0, -⟩ := hd
      have q11 : f 11 = .int .i64 term := d0
      clear d0
      go_wp2_with fail
      exact ⟨_, by first | rfl | simp only [q11, Act.put, List.setIfInBounds_toArray, List.set_cons_succ, List.set_cons_zero], alloc_below _ _, sp_lits w1 [.int .i64 term] 3 (by simp)⟩
    refine ⟨fun f w1 hb1 hd => ?_, ?_⟩
    · obtain ⟨d0, d1, -⟩ := hd
      obtain ⟨A12, c12, q12, r12⟩ := d0
      have q7 : f 7 = .string B1 := d1
      clear d1
      have HC := HS2.out A12 c12 w1 hb1 r12
      go_wp2_with (with_reducible refine HC.mono ?_; rintro e w2 ⟨rfl, hb2⟩)
      exact ⟨_, by first | rfl | simp only [q7, q12, Act.put, List.setIfInBounds_toArray, List.set_cons_succ, List.set_cons_zero], hb2, rfl⟩
    refine ⟨fun f w1 hb1 hd => ?_, ?_⟩
    · obtain ⟨d0, d1, -⟩ := hd
      have q8 : f 8 = .string (B0 ++ B1) := d0
      have q13 : f 13 = .string B2 := d1
      clear d0 d1
      go_wp2_with fail
      exact ⟨_, by first | rfl | simp only [q8, q13, Act.put, List.setIfInBounds_toArray, List.set_cons_succ, List.set_cons_zero], Below.refl _ _, rfl⟩
    refine ⟨fun f w1 hb1 hd => ?_, ?_⟩
    · clear hd
      go_wp2_with fail
      exact ⟨_, by first | rfl | simp only [Act.put, List.setIfInBounds_toArray, List.set_cons_succ, List.set_cons_zero], Below.refl _ _, rfl⟩
    refine ⟨fun f w1 hb1 hd => ?_, ?_⟩
    · obtain ⟨d0, -⟩ := hd
      have q15 : f 15 = .pointer (some ⟨w.heap.size, 13, none⟩) := d0
      clear d0
      have y := Hrow.out w1 hb1
      obtain ⟨y0, y1, y2, y3, y4, y5⟩ := y
      go_wp2_with fail
      exact ⟨_, by first | rfl | simp only [q15, Act.put, List.setIfInBounds_toArray, List.set_cons_succ, List.set_cons_zero], Below.refl _ _, rfl⟩
    refine ⟨fun f w1 hb1 hd => ?_, ?_⟩
    · obtain ⟨d0, -⟩ := hd
      have q16 : f 16 = .int .i64 lead := d0
      clear d0
      go_wp2_with fail
      exact ⟨_, by first | rfl | simp only [q16, Act.put, List.setIfInBounds_toArray, List.set_cons_succ, List.set_cons_zero], alloc_below _ _, sp_lits w1 [.int .i64 lead] 3 (by simp)⟩
    refine ⟨fun f w1 hb1 hd => ?_, ?_⟩
    · obtain ⟨d0, d1, -⟩ := hd
      obtain ⟨A17, c17, q17, r17⟩ := d0
      have q13 : f 13 = .string B2 := d1
      clear d1
      have HC := HS3.out A17 c17 w1 hb1 r17
      go_wp2_with (with_reducible refine HC.mono ?_; rintro e w2 ⟨rfl, hb2⟩)
      exact ⟨_, by first | rfl | simp only [q13, q17, Act.put, List.setIfInBounds_toArray, List.set_cons_succ, List.set_cons_zero], hb2, rfl⟩
    refine ⟨fun f w1 hb1 hd => ?_, ?_⟩
    · obtain ⟨d0, d1, -⟩ := hd
      have q14 : f 14 = .string ((B0 ++ B1) ++ B2) := d0
      have q18 : f 18 = .string B3 := d1
      clear d0 d1
      go_wp2_with fail
      exact ⟨_, by first | rfl | simp only [q14, q18, Act.put, List.setIfInBounds_toArray, List.set_cons_succ, List.set_cons_zero], Below.refl _ _, rfl⟩
    refine ⟨fun f w1 hb1 hd => ?_, ?_⟩
    · clear hd
      go_wp2_with fail
      exact ⟨_, by first | rfl | simp only [Act.put, List.setIfInBounds_toArray, List.set_cons_succ, List.set_cons_zero], Below.refl _ _, rfl⟩
    refine ⟨fun f w1 hb1 hd => ?_, ?_⟩
    · obtain ⟨d0, -⟩ := hd
      have q20 : f 20 = .pointer (some ⟨w.heap.size, 11, none⟩) := d0
      clear d0
      have y := Hrow.out w1 hb1
      obtain ⟨y0, y1, y2, y3, y4, y5⟩ := y
      go_wp2_with fail
      exact ⟨_, by first | rfl | simp only [q20, Act.put, List.setIfInBounds_toArray, List.set_cons_succ, List.set_cons_zero], Below.refl _ _, rfl⟩
    refine ⟨fun f w1 hb1 hd => ?_, ?_⟩
    · obtain ⟨d0, -⟩ := hd
      have q21 : f 21 = .int .i64 commit := d0
      clear d0
      go_wp2_with fail
      exact ⟨_, by first | rfl | simp only [q21, Act.put, List.setIfInBounds_toArray, List.set_cons_succ, List.set_cons_zero], alloc_below _ _, sp_lits w1 [.int .i64 commit] 3 (by simp)⟩
    refine ⟨fun f w1 hb1 hd => ?_, ?_⟩
    · obtain ⟨d0, d1, -⟩ := hd
      obtain ⟨A22, c22, q22, r22⟩ := d0
      have q18 : f 18 = .string B3 := d1
      clear d1
      have HC := HS4.out A22 c22 w1 hb1 r22
      go_wp2_with (with_reducible refine HC.mono ?_; rintro e w2 ⟨rfl, hb2⟩)
      exact ⟨_, by first | rfl | simp only [q18, q22, Act.put, List.setIfInBounds_toArray, List.set_cons_succ, List.set_cons_zero], hb2, rfl⟩
    refine ⟨fun f w1 hb1 hd => ?_, ?_⟩
    · obtain ⟨d0, d1, -⟩ := hd
      have q19 : f 19 = .string (((B0 ++ B1) ++ B2) ++ B3) := d0
      have q23 : f 23 = .string B4 := d1
      clear d0 d1
      go_wp2_with fail
      exact ⟨_, by first | rfl | simp only [q19, q23, Act.put, List.setIfInBounds_toArray, List.set_cons_succ, List.set_cons_zero], Below.refl _ _, rfl⟩
    refine ⟨fun f w1 hb1 hd => ?_, ?_⟩
    · clear hd
      go_wp2_with fail
      exact ⟨_, by first | rfl | simp only [Act.put, List.setIfInBounds_toArray, List.set_cons_succ, List.set_cons_zero], Below.refl _ _, rfl⟩
    refine ⟨fun f w1 hb1 hd => ?_, ?_⟩
    · obtain ⟨d0, -⟩ := hd
      have q25 : f 25 = .pointer (some ⟨w.heap.size, 1, none⟩) := d0
      clear d0
      go_wp2_with fail
      exact ⟨_, by first | rfl | simp only [q25, Act.put, List.setIfInBounds_toArray, List.set_cons_succ, List.set_cons_zero], Below.refl _ _, rfl⟩
    refine ⟨fun f w1 hb1 hd => ?_, ?_⟩
    · obtain ⟨d0, -⟩ := hd
      have q26 : f 26 = .pointer (some ⟨w.heap.size, 3, none⟩) := d0
      clear d0
      have y := Hrow.out w1 hb1
      obtain ⟨y0, y1, y2, y3, y4, y5⟩ := y
      go_wp2_with fail
      exact ⟨_, by first | rfl | simp only [q26, Act.put, List.setIfInBounds_toArray, List.set_cons_succ, List.set_cons_zero], Below.refl _ _, rfl⟩
    refine ⟨fun f w1 hb1 hd => ?_, ?_⟩
    · obtain ⟨d0, -⟩ := hd
      have q27 : f 27 = .int .i64 base := d0
      clear d0
      go_wp2_with fail
      exact ⟨_, by first | rfl | simp only [q27, Act.put, List.setIfInBounds_toArray, List.set_cons_succ, List.set_cons_zero], alloc_below _ _, sp_lits w1 [.int .i64 base] 3 (by simp)⟩
    refine ⟨fun f w1 hb1 hd => ?_, ?_⟩
    · obtain ⟨d0, d1, -⟩ := hd
      obtain ⟨A28, c28, q28, r28⟩ := d0
      have q23 : f 23 = .string B4 := d1
      clear d1
      have HC := HS5.out A28 c28 w1 hb1 r28
      go_wp2_with (with_reducible refine HC.mono ?_; rintro e w2 ⟨rfl, hb2⟩)
      exact ⟨_, by first | rfl | simp only [q23, q28, Act.put, List.setIfInBounds_toArray, List.set_cons_succ, List.set_cons_zero], hb2, rfl⟩
    refine ⟨fun f w1 hb1 hd => ?_, ?_⟩
    · obtain ⟨d0, d1, -⟩ := hd
      have q24 : f 24 = .string ((((B0 ++ B1) ++ B2) ++ B3) ++ B4) := d0
      have q29 : f 29 = .string B5 := d1
      clear d0 d1
      go_wp2_with fail
      exact ⟨_, by first | rfl | simp only [q24, q29, Act.put, List.setIfInBounds_toArray, List.set_cons_succ, List.set_cons_zero], Below.refl _ _, rfl⟩
    refine ⟨fun f w1 hb1 hd => ?_, ?_⟩
    · obtain ⟨d0, d1, d2, d3, d4, d5, d6, d7, d8, d9, d10, d11, d12, d13, d14, d15, d16, d17, d18, d19, d20, d21, d22, d23, d24, d25, d26, d27, d28, d29, d30, d31, d32, -⟩ := hd
      have q30 : f 30 = .string (((((B0 ++ B1) ++ B2) ++ B3) ++ B4) ++ B5) := d0
      have q29 : f 29 = .string B5 := d1
      have q0 : f 0 = .pointer (some ⟨w.heap.size, 0, none⟩) := d2
      have q1 : f 1 = .int .i64 id := d3
      obtain ⟨A2, c2, q2, r2⟩ := d4
      have q3 : f 3 = .string B0 := d5
      have q4 : f 4 = .pointer (some ⟨w.heap.size, 12, none⟩) := d6
      have q5 : f 5 = .int .i64 role := d7
      obtain ⟨A6, c6, q6, r6⟩ := d8
      have q7 : f 7 = .string B1 := d9
      have q8 : f 8 = .string (B0 ++ B1) := d10
      have q9 : f 9 = .pointer (some ⟨w.heap.size, 1, none⟩) := d11
      have q10 : f 10 = .pointer (some ⟨w.heap.size, 1, none⟩) := d12
      have q11 : f 11 = .int .i64 term := d13
      obtain ⟨A12, c12, q12, r12⟩ := d14
      have q13 : f 13 = .string B2 := d15
      have q14 : f 14 = .string ((B0 ++ B1) ++ B2) := d16
      have q15 : f 15 = .pointer (some ⟨w.heap.size, 13, none⟩) := d17
      have q16 : f 16 = .int .i64 lead := d18
      obtain ⟨A17, c17, q17, r17⟩ := d19
      have q18 : f 18 = .string B3 := d20
      have q19 : f 19 = .string (((B0 ++ B1) ++ B2) ++ B3) := d21
      have q20 : f 20 = .pointer (some ⟨w.heap.size, 11, none⟩) := d22
      have q21 : f 21 = .int .i64 commit := d23
      obtain ⟨A22, c22, q22, r22⟩ := d24
      have q23 : f 23 = .string B4 := d25
      have q24 : f 24 = .string ((((B0 ++ B1) ++ B2) ++ B3) ++ B4) := d26
      have q25 : f 25 = .pointer (some ⟨w.heap.size, 1, none⟩) := d27
      have q26 : f 26 = .pointer (some ⟨w.heap.size, 3, none⟩) := d28
      have q27 : f 27 = .int .i64 base := d29
      obtain ⟨A28, c28, q28, r28⟩ := d30
      clear d0 d1 d2 d3 d5 d6 d7 d9 d10 d11 d12 d13 d15 d16 d17 d18 d20 d21 d22 d23 d25 d26 d27 d28 d29 d31 d32
      go_wp2_with fail
      exact ⟨_, by first | rfl | simp only [q0, q1, q2, q3, q4, q5, q6, q7, q8, q9, q10, q11, q12, q13, q14, q15, q16, q17, q18, q19, q20, q21, q22, q23, q24, q25, q26, q27, q28, q29, q30, Act.put, List.setIfInBounds_toArray, List.set_cons_succ, List.set_cons_zero], Below.refl _ _, rfl⟩
    exact trivial
  case hend =>
    intro f w1 hb1 hd
    have q31 : f 31 = .string (((((B0 ++ B1) ++ B2) ++ B3) ++ B4) ++ B5) := hd 31 (by decide)
    clear hd
    rw [hRB] at q31
    have z1 : ¬ 9223372036854775807 < RB.size + 7 := by omega
    have z2 : ¬ 9223372036854775807 < RB.size + 5 := by omega
    clear hmi hLT hRB hRz hB0 hB1 hB2 hB3 hB4 hB5 HS0 HS1 HS2 HS3 HS4 HS5 Hz0 Hz1 Hz2 Hz3 Hz4 Hz5 hr hl hI h1 h2 h3 h4 h5 h6 Hrow
    go_wp2_with (refine wpList_load_row rfl 33 (.tmp 1) rfl w.heap.size rfl 33 x.toArray (0, 0) _ (HRg.out _ hb1).1 Tryd.underlying33 rfl Hsz.out ?_)
    refine (HG.out _).mono ?_
    rintro e w2 ⟨rfl, hb2⟩
    have hbc2 := bstep hb1 hb2
    clear hb2 hb1 HG
    cases hB : logB base
    · have hLT : LT = [63] := by
        have := HLT.out
        rwa [if_neg (by rw [hB]; decide)] at this
      subst hLT
      clear HLL HSL HLT
      go_wp2_with fail
      go_ret
      exact ⟨by rw [HF1.out]; rfl, Hob.out.trans (hbc2.mono Hob.out.size)⟩
    · have hLT : LT = Lib.itoa mi := by
        have := HLT.out
        rwa [if_pos hB] at this
      subst hLT
      have HL2 := Lib.hid (HLL.out hB)
      have HS2 := Lib.hid (HSL.out hB)
      clear HLL HSL HLT hB
      go_wp2_with (refine Go.wpList_load_mid rfl 29 (.tmp 43) rfl w.heap.size 1 rfl (hardC x) _ (HRg.out _ hbc2).2 Tryd.underlying29 rfl Hsz2.out ?_)
      refine (HL2.out _ hbc2).mono ?_
      rintro e w3 ⟨⟨t, rfl⟩, hb3⟩
      have hbc3 := bstep hbc2 hb3
      clear hb3 hbc2
      go_wp2_with fail
      have hrd := rd_lits w3 [.int .i64 mi] 3 (by simp)
      have hbc4 := hbc3.alloc hbc3.size (.cells #[.int .i64 mi] 3)
      refine (HS2.out _ 1 _ hbc4 (by
        have e1 : (w3.alloc (.cells #[.int .i64 mi] 3)).heap.size = w3.heap.size + 1 := by simp
        rw [e1]
        exact hrd)).mono ?_
      rintro e w5 ⟨rfl, hb5⟩
      have hbc5 := bstep hbc4 hb5
      clear hb5 hbc4 hrd
      go_wp2_with fail
      go_ret
      exact ⟨by rw [HF2.out]; rfl, Hob.out.trans (hbc5.mono Hob.out.size)⟩
end Go.Proofs.YtkckncggiicciaaDoor
/-
  The page's text of a right value; the same value told so.
-/
namespace Go.Proofs.YtkckncggiicciaaDoor
open Go.RowKit
set_option maxRecDepth 100000
set_option maxHeartbeats 1600000 in
theorem RText_any (a : Va) (w : World) (ha : a.x < 18446744073709551616) (hs : a.s.size ≤ 2000) (hT : TzAt w) (hk : a.k = 0 ∨ a.k = 1 ∨ a.k = 2) :
    Calls Tryd.prog 72 #[a.v] w fun e w' => e = .returned (.string (vtextV a)) ∧ Below w.heap.size w w' := by
  obtain ⟨k, x, s⟩ := a
  unfold vtextV Va.v
  dsimp only at *
  have HT : Hid (∀ w', Below w.heap.size w w' → Calls Tryd.prog 95 #[.float .f64 x] w' fun e w'' => e = .returned (.string (textV x)) ∧ Below w'.heap.size w' w'') := fun w' hb => RefText_any x w' ha (hT.below hb)
  have HH : Hid (∀ w', Calls Tryd.prog 48 #[.string s] w' fun e w'' => e = .returned (.string ⟨(hexT s.data.toList).toArray⟩) ∧ Below w'.heap.size w' w'') := fun w' => RHex_any s w' hs
  obtain ⟨T, hTt⟩ : ∃ T, textV x = T := ⟨_, rfl⟩
  have hTz : T.size ≤ 16 := by rw [← hTt]; unfold textV; show (hexL 16 (canon x)).toArray.size ≤ 16; rw [List.size_toArray, hexL_len]; omega
  have HE : Hid ((⟨#[116]⟩ : ByteArray) ++ ⟨(hexT s.data.toList).toArray⟩ = ⟨(116 :: hexT s.data.toList).toArray⟩) := by
    show (⟨[116].toArray⟩ ++ ⟨(hexT s.data.toList).toArray⟩ : ByteArray) = _
    rw [bytes_app]
    rfl
  obtain ⟨U, hU⟩ : ∃ U, (⟨(hexT s.data.toList).toArray⟩ : ByteArray) = U := ⟨_, rfl⟩
  have hUz : U.size ≤ 4000 := by
    rw [← hU]
    show (hexT s.data.toList).toArray.size ≤ 4000
    rw [List.size_toArray, hexT_len]
    have : s.data.toList.length = s.size := Array.length_toList
    omega
  rw [hTt] at HT
  rw [hTt]
  rw [hU] at HH HE
  clear hT hTt hU
  have hob := one_below w (.cells #[.int .i64 k, .float .f64 x, .string s] 56)
  rcases hk with rfl | rfl | rfl
  all_goals
    first | rw [if_pos rfl] | rw [if_neg (by decide)]
    try first | rw [if_pos rfl] | rw [if_neg (by decide)]
    go_enter Tryd.func72, Tryd.ntmps72
    go_wp2_with (first
      | (go_at_call 95; refine (HT.out _ hob).mono ?_; rintro e w2 ⟨rfl, hb2⟩)
      | (go_at_call 48; refine (HH.out _).mono ?_; rintro e w2 ⟨rfl, hb2⟩))
    go_ret
    first
      | exact ⟨rfl, hob⟩
      | exact ⟨rfl, hob.trans (hb2.mono (by simp))⟩
      | exact ⟨ret_str HE.out, hob.trans (hb2.mono (by simp))⟩
end Go.Proofs.YtkckncggiicciaaDoor
/-
  The walk of report.Log.
-/
namespace Go.Proofs.YtkckncggiicciaaDoor
open Go.RowKit
set_option maxRecDepth 100000
def RlogPost (base : Int) (es : List En) (w : World) (e : Ending) (w' : World) : Prop :=
  (if logB base = true then ∃ v, e = .returned v ∧ OwnS w' w.heap.size v (logL base es es.length) else e = .returned (.slice none 0 0)) ∧ Below w.heap.size w w'
set_option maxHeartbeats 12800000 in
theorem RLog_any (x : List Value) (id term base bt commit role lead : Int) (A : Option Addr) (m c : Nat) (es : List En) (w : World) (hr : RfAt x id term base bt commit role lead (.slice A m c)) (hy : EnRows w w.heap.size A m c es) (hl : es.length = m) (hm : m ≤ 1000)
    (hin : ∀ e ∈ es, e.In) (hI : ItAt w) :
    Calls Tryd.prog 16 #[.agg x.toArray] w (RlogPost base es w) := by
  have hcap : m ≤ c := hy.2.1
  obtain ⟨W1, hW1⟩ : ∃ W1, w.alloc (.cells x.toArray 33) = W1 := ⟨_, rfl⟩
  have hb1 : Below w.heap.size w W1 := by rw [← hW1]; exact alloc_below w _
  have hz1 : W1.heap.size = w.heap.size + 1 := by rw [← hW1]; simp
  have hrow : W1.heap[w.heap.size]? = some (.cells x.toArray 33 (0, 0)) := by rw [← hW1]; exact heap_alloc_new w _
  have Hrow : Hid (∀ w', Below W1.heap.size W1 w' → w'.cell? ⟨w.heap.size, 3, none⟩ = some (.int .i64 base) ∧ w'.cell? ⟨w.heap.size, 10, none⟩ = some (.slice A m c)) := fun w' hb => by
    have q := (hb.block w.heap.size (by omega)).trans hrow
    exact ⟨cell_list q _ _ hr.base, cell_list q _ _ hr.log⟩
  have Hsz : Hid ((Tryd.prog.info? 33).map (·.size) = some x.toArray.size) := by unfold Hid; rw [List.size_toArray, hr.len]; exact size40
  have HH : Hid (∀ w', Calls Tryd.prog 35 #[.agg x.toArray] w' fun e w'' => e = .returned (.bool (logB base)) ∧ Below w'.heap.size w' w'') := fun w' => has_any x base w' hr.base
  have HNo : Hid (logB base = false → ∀ w', Below w.heap.size w w' → RlogPost base es w (.returned (.slice none 0 0)) w') := fun h w' hb => by
    unfold RlogPost
    rw [if_neg (by rw [h]; decide)]
    exact ⟨rfl, hb⟩
  have HYes : Hid (logB base = true → ∀ w' v, OwnS w' w.heap.size v (logL base es m) → Below w.heap.size w w' → RlogPost base es w (.returned v) w') := fun h w' v ho hb => by
    unfold RlogPost
    rw [if_pos h, hl]
    exact ⟨⟨v, rfl, ho⟩, hb⟩
  have HE : Hid (∀ i, i < m → ∃ b off e, A = some ⟨b, off, none⟩ ∧ b < w.heap.size ∧ es.getD i e0 = e ∧ e.In ∧ w.rangeAt b (off + i * 16) e.cells) := fun i hi => by
    obtain ⟨b, off, e, q1, q2, q3, q4, q5, q6⟩ := en_row hy hl hi
    exact ⟨b, off, e, q1, q2, q4, hin e q5, q6⟩
  obtain ⟨J, hJ⟩ : ∃ J, RlogPost base es w = J := ⟨_, rfl⟩
  rw [hJ] at HNo HYes ⊢
  have HI := Lib.hid hI
  have HW1 := Lib.hid hW1
  have hbc : Below W1.heap.size W1 W1 := Below.refl _ _
  clear hW1 hrow hJ hI hr hy hl hin
  go_enter Tryd.func16, Tryd.ntmps16
  go_wp2_with ((refine wpList_load_row rfl 33 (.tmp 1) rfl w.heap.size rfl 33 x.toArray (0, 0) _ (heap_alloc_new w _) Tryd.underlying33 rfl Hsz.out ?_; rw [HW1.out]))
  refine (HH.out _).mono ?_
  rintro e w2 ⟨rfl, hb2⟩
  have hbc2 := bstep hbc hb2
  clear hb2 hbc HH
  cases hB : logB base
  · have HF := Lib.hid (HNo.out hB)
    clear hB HNo HYes
    go_wp2_with fail
    exact HF.out _ (hb1.trans (hbc2.mono (by omega)))
  have HF := Lib.hid (HYes.out hB)
  have hbb : 0 ≤ base ∧ base ≤ 1099511627776 := by
    unfold logB at hB
    simpa using hB
  obtain ⟨hbb0, hbb1⟩ := hbb
  clear hB HNo HYes
  obtain ⟨_, y1⟩ := Hrow.out _ hbc2
  go_wp2_with fail
  clear y1
  go_loopg [3, 4, 5, 6, 14] m (fun g s3 _ _ _ s14 wr => ∃ i : Nat, i + g = m ∧ s14 = .int .i64 i ∧ OwnS wr W1.heap.size s3 (logL base es i) ∧ Below W1.heap.size W1 wr)
  case atStart => exact ⟨0, by omega, rfl, ownS_nil _ _, hbc2⟩
  case round =>
    clear hbc2
    obtain ⟨i, hig, rfl, ho, hbr⟩ := hrel
    have Hig := Lib.hid hig
    have Ho := Lib.hid ho
    have hin : i ≤ m := by omega
    clear hig ho
    by_cases hlt : i < m
    · obtain ⟨b, off, e, rfl, hb, hge, hei, hrg⟩ := HE.out i hlt
      have hrg' := range_below hrg (hb1.trans (hbr.mono (by omega))) hb
      have Hrg := Lib.hid hrg'
      have Hls : Hid (logL base es (i + 1) = logL base es i ++ [entL (base + i + 1) e]) := by
        unfold Hid
        rw [logL_succ, hge]
      have hidx : In64 (base + (i : Int) + 1) := by unfold In64; omega
      have hll := entL_len hidx hei
      have hhl := headL_len hidx hei.term
      have hbase0 : w.heap.size < wr.heap.size := by have := hbr.size; omega
      -- the local that the entry is copied into
      have HL : Hid (∀ w5, w5.heap[wr.heap.size]? = some (.cells e.cells.toArray 64 (0, 0)) → Below wr.heap.size wr w5 → w5.heap.size = wr.heap.size + 1 → ∀ w', Below w5.heap.size w5 w' →
          w'.cell? ⟨w.heap.size, 3, none⟩ = some (.int .i64 base) ∧ w'.cell? ⟨wr.heap.size, 0, none⟩ = some (.int .i64 e.term) ∧ w'.cell? ⟨wr.heap.size, 1, none⟩ = some (.int .i64 e.kind) ∧ w'.cell? ⟨wr.heap.size, 2, none⟩ = some (.int .i64 e.client) ∧
          w'.cell? ⟨wr.heap.size, 3, none⟩ = some (.int .i64 e.seq) ∧ w'.cell? ⟨wr.heap.size, 12, none⟩ = some (.int .i64 e.full) ∧ w'.cell? ⟨wr.heap.size, 13, none⟩ = some (.int .i64 e.wit) ∧
          w'.cell? ⟨wr.heap.size, 14, none⟩ = some (.int .i64 e.learn) ∧ w'.cell? ⟨wr.heap.size, 15, none⟩ = some (.int .i64 e.lw)) := fun w5 q5 hb5 hz5 w' hb' => by
        have hbw : Below W1.heap.size W1 w' := bstep (bstep hbr hb5) hb'
        have q := (hb'.block wr.heap.size (by omega)).trans q5
        exact ⟨(Hrow.out _ hbw).1, cell_list q 0 _ rfl, cell_list q 1 _ rfl, cell_list q 2 _ rfl, cell_list q 3 _ rfl, cell_list q 12 _ rfl, cell_list q 13 _ rfl, cell_list q 14 _ rfl, cell_list q 15 _ rfl⟩
      have HN : Hid (∀ v w', In64 v → Below W1.heap.size W1 w' → Calls Tryd.prog 31 #[.int .i64 v] w' fun e w'' => e = .returned (.string ⟨(Lib.itoa v).toArray⟩) ∧ Below w'.heap.size w' w'') := fun v w' hv hb => rn_any v w' hv (HI.out.below (hb1.trans (hb.mono (by omega))))
      have HW2 : Hid (∀ w6 : World, Calls Tryd.prog 30 #[.slice (some ⟨w6.heap.size, 0, none⟩) 2 2] (w6.alloc (.cells #[.string ⟨(Lib.itoa (base + (i : Int) + 1)).toArray⟩, .string ⟨(Lib.itoa e.term).toArray⟩] 9)) fun e' w' => e' = .returned (.string ⟨(headL (base + (i : Int) + 1) e.term).toArray⟩) ∧ Below w6.heap.size w6 w') := fun w6 =>
        words_lit [Lib.itoa (base + (i : Int) + 1), Lib.itoa e.term] w6 (Nat.zero_lt_succ _) (show 2 ≤ 1000 by decide) (by unfold headL at hhl; omega)
      have wr1 : IntKind.i64.wrap (base + (i : Int)) = base + (i : Int) := IntWalk.i64_in _ (by omega)
      have wr2 : IntKind.i64.wrap (base + (i : Int) + 1) = base + (i : Int) + 1 := IntWalk.i64_in _ (by omega)
      have Hwr := Lib.hid (And.intro wr1 wr2)
      have HEi := Lib.hid hei
      have Hidx := Lib.hid hidx
      have Hll := Lib.hid hll
      clear wr1 wr2 hrg hrg' hge hei hidx hll hhl
      go_wp2_with (first
        | (refine Go.wpList_load_mid rfl 64 (.tmp 17) rfl b (off + i * 16) rfl e.cells _ Hrg.out Tryd.underlying64 rfl size16 ?_)
        | (refine wpList_store_local rfl 64 (.tmp 5) _ rfl e.cells rfl rfl size16 rfl e.cells_one ?_
           intro w5 q5 hb5 hz5
           have HS := Lib.hid (HL.out w5 q5 hb5 hz5)
           clear q5))
      have hbw5 : Below W1.heap.size W1 w5 := bstep hbr hb5
      have hb55 : Below w5.heap.size w5 w5 := Below.refl _ _
      have HN5 : Hid (∀ v w', In64 v → Below w5.heap.size w5 w' → Calls Tryd.prog 31 #[.int .i64 v] w' fun e w'' => e = .returned (.string ⟨(Lib.itoa v).toArray⟩) ∧ Below w'.heap.size w' w'') := fun v w' hv hb => HN.out v w' hv (bstep hbw5 hb)
      obtain ⟨wr1, wr2⟩ := Hwr.out
      have hidx := Hidx.out
      have hterm := HEi.out.term
      have hclient := HEi.out.client
      have hseq := HEi.out.seq
      have hfull := HEi.out.full
      have hwit := HEi.out.wit
      have hlearn := HEi.out.learn
      have hlw := HEi.out.lw
      have hll := Hll.out
      have hwe : Hid (entL (base + (i : Int) + 1) e = if e.kind = 0 then wordsL [headL (base + (i : Int) + 1) e.term, [110, 111, 110, 101]]
          else if e.kind = 1 then wordsL [headL (base + (i : Int) + 1) e.term, [99, 97, 108, 108], Lib.itoa e.client, Lib.itoa e.seq]
          else if e.kind = 2 then wordsL [headL (base + (i : Int) + 1) e.term, [99, 111, 110, 102], Lib.itoa e.full, Lib.itoa e.wit, Lib.itoa e.learn, Lib.itoa e.lw]
          else wordsL [headL (base + (i : Int) + 1) e.term, [63]]) := rfl
      obtain ⟨hd, hhd⟩ : ∃ hd, headL (base + (i : Int) + 1) e.term = hd := ⟨_, rfl⟩
      obtain ⟨ln, hln⟩ : ∃ ln, entL (base + (i : Int) + 1) e = ln := ⟨_, rfl⟩
      rw [hhd] at HW2 hwe
      rw [hln] at hwe Hls hll
      obtain ⟨HB, hHB⟩ : ∃ HB, (⟨hd.toArray⟩ : ByteArray) = HB := ⟨_, rfl⟩
      rw [hHB] at HW2
      have HHB := Lib.hid hHB
      have HLn : Hid (ln.length ≤ 1000) := hll
      obtain ⟨y0, y1, y2, y3, y4, y5, y6, y7, y8⟩ := HS.out _ hb55
      clear HEi Hidx Hll HN Hwr HL hhd hln hHB hll
      go_region_held3 (fun w' => w'.cell? ⟨w.heap.size, 3, none⟩ = some (.int .i64 base) ∧ w'.cell? ⟨wr.heap.size, 0, none⟩ = some (.int .i64 e.term))
        ((first | assumption | exact ⟨(HS.out _ (by assumption)).1, (HS.out _ (by assumption)).2.1⟩ | exact ⟨(HS.out _ (Below.drew (by assumption))).1, (HS.out _ (Below.drew (by assumption))).2.1⟩ | exact ⟨(HS.out _ (Below.alloc (by assumption) (Below.size (by assumption)) _)).1, (HS.out _ (Below.alloc (by assumption) (Below.size (by assumption)) _)).2.1⟩))
        ((first
          | (go_at_call 31
             refine (HN5.out _ _ (by assumption) (by first | assumption | exact Below.drew (by assumption))).mono ?_
             rintro e6 w6 ⟨rfl, hb6⟩
             have hbc6 : Below w5.heap.size w5 w6 := Below.trans (by first | assumption | exact Below.drew (by assumption)) (hb6.mono (Below.size (by first | assumption | exact Below.drew (by assumption)))))
          | (go_at_call 30
             refine (HW2.out _).mono ?_
             rintro e9 w9 ⟨rfl, hb9⟩
             have hbc9 : Below w5.heap.size w5 w9 := Below.trans (by first | assumption | exact Below.drew (by assumption)) (hb9.mono (Below.size (by first | assumption | exact Below.drew (by assumption)))))))
      have hxx9 : Below w5.heap.size w5 w9 := hbc9
      clear hbc6 y0 y1 y2 y3 y4 y5 y6 y7 y8 wr1 wr2
      obtain ⟨y0, y1, y2, y3, y4, y5, y6, y7, y8⟩ := HS.out _ hxx9
      clear hbc9 hb55 HW2
      have HZ : Hid (∀ us : List (List UInt8), ln = wordsL us → 0 < us.length → us.length ≤ 1000 → ∀ w6 : World, Calls Tryd.prog 30 #[.slice (some ⟨w6.heap.size, 0, none⟩) us.length us.length] (w6.alloc (.cells (us.map sV).toArray 9)) fun e' w' => e' = .returned (.string ⟨ln.toArray⟩) ∧ Below w6.heap.size w6 w') := fun us h1 h2 h3 w6 => by
        have := words_lit us w6 h2 h3 (by rw [← h1]; have := HLn.out; omega)
        rw [← h1] at this
        exact this
      obtain ⟨LB, hLB⟩ : ∃ LB, (⟨ln.toArray⟩ : ByteArray) = LB := ⟨_, rfl⟩
      rw [hLB] at HZ
      have HLB := Lib.hid hLB
      have hHB2 := HHB.out
      rcases Decidable.em (e.kind = 0) with hk0 | hk0
      case' inl =>
        have HWz : Hid (∀ w6 : World, Calls Tryd.prog 30 #[.slice (some ⟨w6.heap.size, 0, none⟩) 2 2] (w6.alloc (.cells #[.string HB, .string ⟨#[110, 111, 110, 101]⟩] 9)) fun e' w' => e' = .returned (.string LB) ∧ Below w6.heap.size w6 w') := fun w6 => by
          rw [← hHB2]
          exact HZ.out [hd, [110, 111, 110, 101]] (by rw [hwe.out, if_pos hk0]) (Nat.zero_lt_succ _) (show 2 ≤ 1000 by decide) w6
        rw [hk0] at y2
        clear hLB hHB2 hk0 hwe
        go_wp2_with fail
        refine (HWz.out _).mono ?_
        rintro e9 wz ⟨rfl, hbz0⟩
        have hbz : Below w5.heap.size w5 wz := bstep hxx9 hbz0
      case' inr => rcases Decidable.em (e.kind = 1) with hk1 | hk1
      case' inr.inl =>
        have HWz : Hid (∀ w6 : World, Calls Tryd.prog 30 #[.slice (some ⟨w6.heap.size, 0, none⟩) 4 4] (w6.alloc (.cells #[.string HB, .string ⟨#[99, 97, 108, 108]⟩, .string ⟨(Lib.itoa e.client).toArray⟩, .string ⟨(Lib.itoa e.seq).toArray⟩] 9)) fun e' w' => e' = .returned (.string LB) ∧ Below w6.heap.size w6 w') := fun w6 => by
          rw [← hHB2]
          exact HZ.out [hd, [99, 97, 108, 108], Lib.itoa e.client, Lib.itoa e.seq] (by rw [hwe.out, if_neg hk0, if_pos hk1]) (Nat.zero_lt_succ _) (show 4 ≤ 1000 by decide) w6
        rw [hk1] at y2
        clear hLB hHB2 hk0 hk1 hwe
        go_wp2_with fail
        go_region_held3 (fun w' => w'.cell? ⟨wr.heap.size, 2, none⟩ = some (.int .i64 e.client) ∧ w'.cell? ⟨wr.heap.size, 3, none⟩ = some (.int .i64 e.seq))
          ((first | assumption | exact ⟨(HS.out _ (by assumption)).2.2.2.1, (HS.out _ (by assumption)).2.2.2.2.1⟩ | exact ⟨(HS.out _ (Below.drew (by assumption))).2.2.2.1, (HS.out _ (Below.drew (by assumption))).2.2.2.2.1⟩ | exact ⟨(HS.out _ (Below.alloc (by assumption) (Below.size (by assumption)) _)).2.2.2.1, (HS.out _ (Below.alloc (by assumption) (Below.size (by assumption)) _)).2.2.2.2.1⟩))
          ((first
            | (go_at_call 31
               refine (HN5.out _ _ (by assumption) (by first | assumption | exact Below.drew (by assumption))).mono ?_
               rintro e6 w6 ⟨rfl, hb6⟩
               have hbc6 : Below w5.heap.size w5 w6 := Below.trans (by first | assumption | exact Below.drew (by assumption)) (hb6.mono (Below.size (by first | assumption | exact Below.drew (by assumption)))))
            | (go_at_call 30
               refine (HWz.out _).mono ?_
               rintro e9 wz ⟨rfl, hbz0⟩
               have hbz : Below w5.heap.size w5 wz := Below.trans (by first | assumption | exact Below.drew (by assumption)) (hbz0.mono (Below.size (by first | assumption | exact Below.drew (by assumption)))))))
      case' inr.inr => rcases Decidable.em (e.kind = 2) with hk2 | hk2
      case' inr.inr.inl =>
        have HWz : Hid (∀ w6 : World, Calls Tryd.prog 30 #[.slice (some ⟨w6.heap.size, 0, none⟩) 6 6] (w6.alloc (.cells #[.string HB, .string ⟨#[99, 111, 110, 102]⟩, .string ⟨(Lib.itoa e.full).toArray⟩, .string ⟨(Lib.itoa e.wit).toArray⟩, .string ⟨(Lib.itoa e.learn).toArray⟩, .string ⟨(Lib.itoa e.lw).toArray⟩] 9)) fun e' w' => e' = .returned (.string LB) ∧ Below w6.heap.size w6 w') := fun w6 => by
          rw [← hHB2]
          exact HZ.out [hd, [99, 111, 110, 102], Lib.itoa e.full, Lib.itoa e.wit, Lib.itoa e.learn, Lib.itoa e.lw] (by rw [hwe.out, if_neg hk0, if_neg hk1, if_pos hk2]) (Nat.zero_lt_succ _) (show 6 ≤ 1000 by decide) w6
        rw [hk2] at y2
        clear hLB hHB2 hk0 hk1 hk2 hwe
        go_wp2_with fail
        go_region_held3 (fun w' => w'.cell? ⟨wr.heap.size, 12, none⟩ = some (.int .i64 e.full) ∧ w'.cell? ⟨wr.heap.size, 13, none⟩ = some (.int .i64 e.wit) ∧ w'.cell? ⟨wr.heap.size, 14, none⟩ = some (.int .i64 e.learn) ∧ w'.cell? ⟨wr.heap.size, 15, none⟩ = some (.int .i64 e.lw))
          ((first | assumption | exact (HS.out _ (by assumption)).2.2.2.2.2 | exact (HS.out _ (Below.drew (by assumption))).2.2.2.2.2 | exact (HS.out _ (Below.alloc (by assumption) (Below.size (by assumption)) _)).2.2.2.2.2))
          ((first
            | (go_at_call 31
               refine (HN5.out _ _ (by assumption) (by first | assumption | exact Below.drew (by assumption))).mono ?_
               rintro e6 w6 ⟨rfl, hb6⟩
               have hbc6 : Below w5.heap.size w5 w6 := Below.trans (by first | assumption | exact Below.drew (by assumption)) (hb6.mono (Below.size (by first | assumption | exact Below.drew (by assumption)))))
            | (go_at_call 30
               refine (HWz.out _).mono ?_
               rintro e9 wz ⟨rfl, hbz0⟩
               have hbz : Below w5.heap.size w5 wz := Below.trans (by first | assumption | exact Below.drew (by assumption)) (hbz0.mono (Below.size (by first | assumption | exact Below.drew (by assumption)))))))
      case' inr.inr.inr =>
        have HWz : Hid (∀ w6 : World, Calls Tryd.prog 30 #[.slice (some ⟨w6.heap.size, 0, none⟩) 2 2] (w6.alloc (.cells #[.string HB, .string ⟨#[63]⟩] 9)) fun e' w' => e' = .returned (.string LB) ∧ Below w6.heap.size w6 w') := fun w6 => by
          rw [← hHB2]
          exact HZ.out [hd, [63]] (by rw [hwe.out, if_neg hk0, if_neg hk1, if_neg hk2]) (Nat.zero_lt_succ _) (show 2 ≤ 1000 by decide) w6
        have g0 : (e.kind == 0) = false := by simpa using hk0
        have g1 : (e.kind == 1) = false := by simpa using hk1
        have g2 : (e.kind == 2) = false := by simpa using hk2
        clear hLB hHB2 hk0 hk1 hk2 hwe
        go_wp2_with fail
        refine (HWz.out _).mono ?_
        rintro e9 wz ⟨rfl, hbz0⟩
        have hbz : Below w5.heap.size w5 wz := bstep hxx9 hbz0
      all_goals
        have Hbz := Lib.hid (bstep hbw5 hbz)
        have Hoz : Hid (OwnS wz W1.heap.size u3 (logL base es i)) := own_below Ho.out (bstep hb5 hbz)
        have HRd : Hid (∀ w7 : World, Rd (w7.alloc (.cells #[.string LB] 9)) (w7.heap.size + 1) 1 (some ⟨w7.heap.size, 0, none⟩) 1 1 [sV ln]) := fun w7 => by
          rw [← HLB.out]
          exact rd_one w7 _ _
        clear y0 y1 y2 y3 y4 y5 y6 y7 y8 hxx9 hbz hterm hclient hseq hfull hwit hlearn hlw hidx
        go_wp2_with (at_builtin
                     refine wpList_appS rfl (.tmp 75) (.tmp 77) rfl W1.heap.size u3 _ rfl (World.ownsRow.alloc Hoz.out _) (wz.heap.size + 1) wz.heap.size _ rfl (HRd.out wz) ?c1 ?c2 ?_
                     case c1 => rw [logL_len]; omega
                     case c2 => simp; have := Hbz.out.size; omega
                     intro v10 w10 ho10 hg10 ha10
                     have hbw10 : Below W1.heap.size W1 w10 := (Hbz.out.alloc Hbz.out.size _).grown hg10 (by simp; have := Hbz.out.size; omega) (fun q hq => (World.ownsRow.lt Hoz.out q hq).1)
                     have Ho10 := Lib.hid ho10
                     clear ho10 hg10 ha10)
        go_roundg (gk - 1)
      all_goals first
        | exact ⟨i + 1, by have := Hig.out; omega, by go_num, by rw [Hls.out]; exact Ho10.out, hbw10⟩
        | (have := Hig.out; omega)
    · obtain rfl : i = m := by omega
      go_wp2_with fail
      exact HF.out _ _ (own_base Ho.out (by omega)) (hb1.trans (hbr.mono (by omega)))
end Go.Proofs.YtkckncggiicciaaDoor
/-
  Is more handed in than is played? The walks.
-/
namespace Go.Proofs.YtkckncggiicciaaDoor
open Go.RowKit
set_option maxRecDepth 100000
def En.cmd (e : En) : List Value := [.int .i64 e.ck, .string e.key, .int .i64 e.old.k, .float .f64 e.old.x, .string e.old.s, .int .i64 e.val.k, .float .f64 e.val.x, .string e.val.s]
theorem size8 : (Tryd.prog.info? 60).map (·.size) = some 8 := by kernel_rfl
theorem cmd_range {w : World} {b o : Nat} {e : En} (h : w.rangeAt b o e.cells) : w.rangeAt b (o + 4) e.cmd := fun j v hj => by
  rw [Nat.add_assoc]
  refine h (4 + j) v ?_
  rw [← hj]
  have hj8 : j < 8 := (List.getElem?_eq_some_iff.1 hj).1
  have : j = 0 ∨ j = 1 ∨ j = 2 ∨ j = 3 ∨ j = 4 ∨ j = 5 ∨ j = 6 ∨ j = 7 := by omega
  rcases this with rfl | rfl | rfl | rfl | rfl | rfl | rfl | rfl <;> rfl
def cmdH (e : En) : Bool := decide (2000 < e.key.size) || (decide (2000 < e.old.s.size) || decide (2000 < e.val.s.size))
/-- Its strings are no longer than strings may be. -/
structure En.Str (e : En) : Prop where
  key : e.key.size ≤ maxLen
  old : e.old.s.size ≤ maxLen
  val : e.val.s.size ≤ maxLen
set_option maxHeartbeats 1600000 in
theorem HeavyCmd_any (e : En) (w : World) (hs : e.Str) : Calls Tryd.prog 52 #[.agg e.cmd.toArray] w fun e' w' => e' = .returned (.bool (cmdH e)) ∧ Below w.heap.size w w' := by
  obtain ⟨h1, h2, h3⟩ := hs
  have hob := alloc_below w (.cells e.cmd.toArray 60)
  unfold cmdH En.cmd at *
  obtain ⟨_, _, _, _, ck, key, ⟨ok, ox, os⟩, ⟨vk, vx, vs⟩, _, _, _, _⟩ := e
  dsimp only at *
  unfold maxLen at h1 h2 h3
  rcases Decidable.em (2000 < key.size) with g1 | g1
  case' inr => rcases Decidable.em (2000 < os.size) with g2 | g2
  case' inr.inr => rcases Decidable.em (2000 < vs.size) with g3 | g3
  all_goals
    try rw [decide_eq_true g1]
    try rw [decide_eq_false g1]
    try rw [decide_eq_true g2]
    try rw [decide_eq_false g2]
    try rw [decide_eq_true g3]
    try rw [decide_eq_false g3]
    go_enter Tryd.func52, Tryd.ntmps52
    go_wp2_with fail
    go_ret
    exact ⟨ret_bool (by simp <;> omega), hob⟩
def HvPost (m : Nat) (w : World) (e : Ending) (w' : World) : Prop := (∃ hb : Bool, e = .returned (.bool hb) ∧ (hb = false → m ≤ 200)) ∧ Below w.heap.size w w'
set_option maxHeartbeats 1600000 in
theorem HeavyEntries_any (A : Option Addr) (m c : Nat) (es : List En) (w : World) (hy : EnRows w w.heap.size A m c es) (hl : es.length = m) (hst : ∀ e ∈ es, e.Str) :
    Calls Tryd.prog 50 #[.slice A m c] w (HvPost m w) := by
  have hcap : m ≤ c := hy.2.1
  have hmx : c ≤ maxLen := hy.2.2.1
  unfold maxLen at hmx
  rcases Decidable.em (200 < m) with h2 | h2
  · have HP : Hid (HvPost m w (.returned (.bool true)) w) := ⟨⟨true, rfl, fun h => by cases h⟩, Below.refl _ _⟩
    obtain ⟨J, hJ⟩ : ∃ J, HvPost m w = J := ⟨_, rfl⟩
    rw [hJ] at HP ⊢
    clear hJ hy hl hst
    go_enter Tryd.func50, Tryd.ntmps50
    go_wp2_with fail
    exact HP.out
  have HP : Hid (∀ hb w', Below w.heap.size w w' → HvPost m w (.returned (.bool hb)) w') := fun hb w' h => ⟨⟨hb, rfl, fun _ => by omega⟩, h⟩
  have HE : Hid (∀ i, i < m → ∃ b off e, A = some ⟨b, off, none⟩ ∧ b < w.heap.size ∧ e.Str ∧ w.rangeAt b (off + i * 16 + 4) (En.cmd e)) := fun i hi => by
    obtain ⟨b, off, e, q1, q2, q3, q4, q5, q6⟩ := en_row hy hl hi
    exact ⟨b, off, e, q1, q2, hst e q5, cmd_range q6⟩
  obtain ⟨J, hJ⟩ : ∃ J, HvPost m w = J := ⟨_, rfl⟩
  rw [hJ] at HP ⊢
  clear hJ hy hl hst
  go_enter Tryd.func50, Tryd.ntmps50
  go_wp2_with fail
  go_loopg [3] m (fun g s3 wr => ∃ i : Nat, i + g = m ∧ s3 = .int .i64 i ∧ Below w.heap.size w wr)
  case atStart => exact ⟨0, by omega, rfl, Below.refl _ _⟩
  case round =>
    obtain ⟨i, hig, rfl, hbr⟩ := hrel
    have Hig := Lib.hid hig
    have hin : i ≤ m := by omega
    clear hig
    by_cases hlt : i < m
    · obtain ⟨b, off, e, rfl, hb, hs, hrg⟩ := HE.out i hlt
      have hrg' := range_below hrg hbr hb
      have Hrg := Lib.hid hrg'
      have HC : Hid (∀ w', Calls Tryd.prog 52 #[.agg e.cmd.toArray] w' fun e' w'' => e' = .returned (.bool (cmdH e)) ∧ Below w'.heap.size w' w'') := fun w' => HeavyCmd_any e w' hs
      have hsz : (Tryd.prog.info? 60).map (·.size) = some e.cmd.length := size8
      have Hsz := Lib.hid hsz
      obtain ⟨hv, hhv⟩ : ∃ hv, cmdH e = hv := ⟨_, rfl⟩
      rw [hhv] at HC
      obtain ⟨cl, hcl⟩ : ∃ cl, e.cmd = cl := ⟨_, rfl⟩
      rw [hcl] at HC Hrg Hsz
      clear hrg hrg' hsz hhv hcl
      cases hv
      all_goals
        go_wp2_with (first
          | (refine Go.wpList_load_mid rfl 60 (.tmp 17) rfl b (off + i * 16 + 4) rfl cl _ Hrg.out Tryd.underlying60 rfl Hsz.out ?_)
          | (go_at_call 52
             refine (HC.out _).mono ?_
             rintro e' w2 ⟨rfl, hb2⟩))
      · have hbn := bstep hbr hb2
        clear hb2
        go_roundg (gk - 1)
        case rel => exact ⟨i + 1, by have := Hig.out; omega, by go_num, hbn⟩
        case measure => have := Hig.out; omega
      · exact HP.out _ _ (bstep hbr hb2)
    · go_wp2_with fail
      exact HP.out _ _ hbr
/-- A log that is kept, as it is handed in: its cells. -/
structure HdAt (x : List Value) (base bt : Int) (A : Option Addr) (m c : Nat) (S : Option Addr) (sn sc : Nat) : Prop where
  len : x.length = 10
  one : ∀ v ∈ x, v.oneCell' = true
  base : x[2]? = some (.int .i64 base)
  bt : x[3]? = some (.int .i64 bt)
  snap : x[8]? = some (.slice S sn sc)
  log : x[9]? = some (.slice A m c)
set_option maxHeartbeats 1600000 in
theorem Heavy_any (x : List Value) (base bt : Int) (A : Option Addr) (m c : Nat) (S : Option Addr) (sn sc : Nat) (es : List En) (w : World) (hx : HdAt x base bt A m c S sn sc) (hy : EnRows w w.heap.size A m c es) (hl : es.length = m) (hst : ∀ e ∈ es, e.Str) :
    Calls Tryd.prog 23 #[.agg x.toArray] w (HvPost m w) := by
  have hob := alloc_below w (.cells x.toArray 29)
  obtain ⟨W1, hW1⟩ : ∃ W1, w.alloc (.cells x.toArray 29) = W1 := ⟨_, rfl⟩
  rw [hW1] at hob
  have hrow : W1.heap[w.heap.size]? = some (.cells x.toArray 29 (0, 0)) := by rw [← hW1]; exact heap_alloc_new w _
  have hz1 : W1.heap.size = w.heap.size + 1 := by rw [← hW1]; simp
  have HH : Hid (Calls Tryd.prog 50 #[.slice A m c] W1 (HvPost m W1)) := HeavyEntries_any A m c es W1 ((Rd.below hy hob (Nat.le_refl _)).mono hob.size) hl hst
  have HP : Hid (∀ hb w', (hb = false → m ≤ 200) → Below w.heap.size w w' → HvPost m w (.returned (.bool hb)) w') := fun hb w' h1 h => ⟨⟨hb, rfl, h1⟩, h⟩
  have Hc : Hid (∀ w', Below W1.heap.size W1 w' → w'.cell? ⟨w.heap.size, 8, none⟩ = some (.slice S sn sc) ∧ w'.cell? ⟨w.heap.size, 9, none⟩ = some (.slice A m c)) := fun w' hb => by
    have q := (hb.block w.heap.size (by omega)).trans hrow
    exact ⟨cell_list q _ _ hx.snap, cell_list q _ _ hx.log⟩
  obtain ⟨J, hJ⟩ : ∃ J, HvPost m w = J := ⟨_, rfl⟩
  rw [hJ] at HP ⊢
  obtain ⟨y0, y1⟩ := Hc.out W1 (Below.refl _ _)
  have hx9 := hx.log
  have HW1 := Lib.hid hW1
  clear hW1 hJ hy hl hst hx hrow
  go_enter Tryd.func23, Tryd.ntmps23
  go_wp2_with fail
  rw [HW1.out]
  refine HH.out.mono ?_
  rintro e w2 ⟨⟨hb, rfl, hm⟩, hb2⟩
  obtain ⟨z0, z1⟩ := Hc.out w2 hb2
  have hbw := hob.trans (hb2.mono (by omega))
  have Hm := Lib.hid hm
  clear y0 y1 hb2 hx9 hm
  cases hb
  all_goals
    rcases Decidable.em (32768 < sn) with hbig | hbig
    all_goals
      go_wp2_with fail
      first
        | exact HP.out _ _ (fun _ => Hm.out (by trivial)) hbw
        | exact HP.out _ _ (fun _ => Hm.out) hbw
        | exact HP.out _ _ (fun h => by cases h) hbw
end Go.Proofs.YtkckncggiicciaaDoor
/-
  A line, cut at each blank: the page's Words.
-/
namespace Go.Proofs.YtkckncggiicciaaDoor
open Go.RowKit
set_option maxRecDepth 100000
/-- Cut at each blank. -/
def cutW : List UInt8 → List UInt8 → List (List UInt8)
  | cur, [] => [cur]
  | cur, c :: r => if c = 32 then cur :: cutW [] r else cutW (cur ++ [c]) r
def splitL (l : List UInt8) : List (List UInt8) := cutW [] l
theorem cutW_pos (r : List UInt8) : ∀ cur, 0 < (cutW cur r).length := by
  induction r with
  | nil => intro cur; exact Nat.zero_lt_succ _
  | cons c r ih =>
    intro cur
    unfold cutW
    split
    · simp
    · exact ih _
theorem cutW_word (a r : List UInt8) (h : ∀ c ∈ a, c ≠ 32) : ∀ cur, cutW cur (a ++ 32 :: r) = (cur ++ a) :: cutW [] r := by
  induction a with
  | nil => intro cur; simp [cutW]
  | cons c a ih =>
    intro cur
    rw [List.cons_append, cutW, if_neg (h c (by simp)), ih (fun d hd => h d (by simp [hd])), List.append_assoc]
    rfl
theorem cutW_last (a : List UInt8) (h : ∀ c ∈ a, c ≠ 32) : ∀ cur, cutW cur a = [cur ++ a] := by
  induction a with
  | nil => intro cur; simp [cutW]
  | cons c a ih =>
    intro cur
    rw [cutW, if_neg (h c (by simp)), ih (fun d hd => h d (by simp [hd])), List.append_assoc]
    rfl
theorem dec_digit (u : Nat) : ∀ c ∈ Lib.decDigits u, c ≠ 32 := by
  induction u using Nat.strongRecOn with
  | _ u ih =>
    intro c hc
    rw [Lib.decDigits] at hc
    have hd : ∀ d : Nat, d < 10 → UInt8.ofNat (48 + d) ≠ 32 := by decide
    split at hc
    · rename_i h
      rw [List.mem_singleton] at hc
      rw [hc]
      exact hd u h
    · rename_i h
      rw [List.mem_append] at hc
      rcases hc with hc | hc
      · exact ih (u / 10) (by omega) c hc
      · rw [List.mem_singleton] at hc
        rw [hc]
        exact hd (u % 10) (Nat.mod_lt _ (by decide))
theorem itoa_digit (n : Int) : ∀ c ∈ Lib.itoa n, c ≠ 32 := by
  intro c hc
  unfold Lib.itoa at hc
  split at hc
  · rcases List.mem_cons.1 hc with h | h
    · rw [h]; decide
    · exact dec_digit _ c h
  · exact dec_digit _ c hc
/-- A part of a string. -/
theorem cut_list (s : ByteArray) (a b : Nat) : (s.extract a b) = ⟨((s.data.toList.take b).drop a).toArray⟩ := bytes_ext (by rw [ext_list])
def WordsPost (l : List UInt8) (w : World) (e : Ending) (w' : World) : Prop := (∃ v, e = .returned v ∧ OwnS w' w.heap.size v (splitL l)) ∧ Below w.heap.size w w'
set_option maxHeartbeats 3200000 in
theorem Words_any (s : ByteArray) (w : World) (hs : s.size ≤ 4000) : Calls Tryd.prog 24 #[.string s] w (WordsPost s.data.toList w) := by
  obtain ⟨l, hl⟩ : ∃ l, s.data.toList = l := ⟨_, rfl⟩
  have hlen : l.length = s.size := by rw [← hl]; exact Array.length_toList
  rw [hl]
  have HP : Hid (∀ w' v, OwnS w' w.heap.size v (splitL l) → Below w.heap.size w w' → WordsPost l w (.returned v) w') := fun w' v ho hb => ⟨⟨v, rfl, ho⟩, hb⟩
  obtain ⟨J, hJ⟩ : ∃ J, WordsPost l w = J := ⟨_, rfl⟩
  rw [hJ] at HP ⊢
  have Hlen := Lib.hid hlen
  have Hl := Lib.hid hl
  clear hJ hlen hl
  go_enter Tryd.func24, Tryd.ntmps24
  go_wp2_with fail
  go_loopg [3, 4, 5] (s.size + 1) (fun g s3 s4 s5 wr => ∃ (i fr : Nat) (done : List (List UInt8)), i + g = s.size + 1 ∧ s5 = .int .i64 i ∧ s4 = .int .i64 fr ∧ fr ≤ i ∧ done.length ≤ i ∧ OwnS wr w.heap.size s3 done ∧ (i ≤ s.size → splitL l = done ++ cutW ((l.take i).drop fr) (l.drop i)) ∧ (s.size < i → splitL l = done) ∧ Below w.heap.size w wr)
  case atStart => exact ⟨0, 0, [], by omega, rfl, rfl, Nat.le_refl _, Nat.le_refl _, ownS_nil _ _, fun _ => rfl, fun h => by omega, Below.refl _ _⟩
  case round =>
    obtain ⟨i, fr, done, hig, rfl, rfl, hfr, hdl, ho, h1, h2, hb⟩ := hrel
    have Hig := Lib.hid hig
    have Ho := Lib.hid ho
    have H1 := Lib.hid h1
    have H2 := Lib.hid h2
    have hin : i ≤ s.size + 1 := by omega
    clear hig ho h1 h2
    by_cases hlt : i ≤ s.size
    · have hspl := H1.out hlt
      rcases Decidable.em (i = s.size) with he | he
      · subst he
        have hq : ((s.size : Int) == (s.size : Int)) = true := by simp
        have hdrop : l.drop s.size = [] := List.drop_of_length_le (by rw [Hlen.out]; exact Nat.le_refl _)
        have hs2 : splitL l = done ++ [(l.take s.size).drop fr] := by rw [hspl, hdrop]; rfl
        have hex : s.extract fr s.size = ⟨((l.take s.size).drop fr).toArray⟩ := by rw [← Hl.out]; exact cut_list s fr s.size
        obtain ⟨pc, hpc⟩ : ∃ pc, (l.take s.size).drop fr = pc := ⟨_, rfl⟩
        rw [hpc] at hs2 hex
        have HRd : Hid (∀ w7 : World, Rd (w7.alloc (.cells #[.string (s.extract fr s.size)] 9)) (w7.heap.size + 1) 1 (some ⟨w7.heap.size, 0, none⟩) 1 1 [sV pc]) := fun w7 => by
          rw [hex]
          exact rd_one w7 _ _
        have Hs2 := Lib.hid hs2
        have hfr0 : (0 : Int) ≤ (fr : Int) := by omega
        have hfr1 : (fr : Int) ≤ (s.size : Int) := by omega
        clear hspl hdrop hs2 hex hpc
        go_wp2_with (at_builtin
                     refine wpList_appS rfl (.tmp 22) (.tmp 27) rfl w.heap.size u3 _ rfl (World.ownsRow.alloc Ho.out _) (wr.heap.size + 1) wr.heap.size _ rfl (HRd.out wr) ?c1 ?c2 ?_
                     case c1 => omega
                     case c2 => simp; have := hb.size; omega
                     intro v10 w10 ho10 hg10 ha10
                     have hbw10 : Below w.heap.size w w10 := (hb.alloc hb.size _).grown hg10 (by simp; have := hb.size; omega) (fun q hq => (World.ownsRow.lt Ho.out q hq).1)
                     have Ho10 := Lib.hid ho10
                     clear ho10 hg10 ha10)
        go_roundg (gk - 1)
        case rel => exact ⟨s.size + 1, s.size + 1, done ++ [pc], by have := Hig.out; omega, by go_num, by go_num, Nat.le_refl _, by rw [List.length_append]; simp; omega, Ho10.out, fun h => by omega, fun _ => Hs2.out, hbw10⟩
        case measure => have := Hig.out; omega
      · have hlt2 : i < s.size := by omega
        have hil : i < l.length := by rw [Hlen.out]; exact hlt2
        have hq : ((i : Int) == (s.size : Int)) = false := by simp; omega
        obtain ⟨c, hc⟩ : ∃ c, s[i] = c := ⟨_, rfl⟩
        have hlc : l[i]'hil = c := by
          have := Hl.out
          subst this
          rw [← hc]
          exact (Array.getElem_toList _)
        have hdr : l.drop i = c :: l.drop (i + 1) := by rw [List.drop_eq_getElem_cons hil, hlc]
        have htk : (l.take (i + 1)).drop fr = (l.take i).drop fr ++ [c] := by
          rw [List.take_succ_eq_append_getElem hil, hlc, List.drop_append_of_le_length (by rw [List.length_take]; omega)]
        rcases Decidable.em (c.toNat = 32) with h32 | h32
        · have hc32 : c = 32 := UInt8.toNat_inj.1 h32
          have hs2 : splitL l = (done ++ [(l.take i).drop fr]) ++ cutW [] (l.drop (i + 1)) := by
            rw [hspl, hdr, hc32, cutW, if_pos rfl, List.append_assoc]
            rfl
          have hex : s.extract fr i = ⟨((l.take i).drop fr).toArray⟩ := by rw [← Hl.out]; exact cut_list s fr i
          have hnx : ((l.take (i + 1)).drop (i + 1)) = [] := List.drop_of_length_le (by rw [List.length_take]; omega)
          obtain ⟨pc, hpc⟩ : ∃ pc, (l.take i).drop fr = pc := ⟨_, rfl⟩
          rw [hpc] at hs2 hex
          have HRd : Hid (∀ w7 : World, Rd (w7.alloc (.cells #[.string (s.extract fr i)] 9)) (w7.heap.size + 1) 1 (some ⟨w7.heap.size, 0, none⟩) 1 1 [sV pc]) := fun w7 => by
            rw [hex]
            exact rd_one w7 _ _
          have Hs2 : Hid (splitL l = (done ++ [pc]) ++ cutW ((l.take (i + 1)).drop (i + 1)) (l.drop (i + 1))) := by unfold Hid; rw [hnx]; exact hs2
          have hc' : (c.toNat : Int) = 32 := by omega
          have hfr0 : (0 : Int) ≤ (fr : Int) := by omega
          have hfr1 : (fr : Int) ≤ (i : Int) := by omega
          have hfr2 : (i : Int) ≤ (s.size : Int) := by omega
          clear hspl hdr htk hs2 hex hnx hpc hlc h32 hc32
          go_wp2_with (at_builtin
                       refine wpList_appS rfl (.tmp 22) (.tmp 27) rfl w.heap.size u3 _ rfl (World.ownsRow.alloc Ho.out _) (wr.heap.size + 1) wr.heap.size _ rfl (HRd.out wr) ?c1 ?c2 ?_
                       case c1 => omega
                       case c2 => simp; have := hb.size; omega
                       intro v10 w10 ho10 hg10 ha10
                       have hbw10 : Below w.heap.size w w10 := (hb.alloc hb.size _).grown hg10 (by simp; have := hb.size; omega) (fun q hq => (World.ownsRow.lt Ho.out q hq).1)
                       have Ho10 := Lib.hid ho10
                       clear ho10 hg10 ha10)
          go_roundg (gk - 1)
          case rel => exact ⟨i + 1, i + 1, done ++ [pc], by have := Hig.out; omega, by go_num, by go_num, Nat.le_refl _, by rw [List.length_append]; simp; omega, Ho10.out, fun _ => Hs2.out, fun h => by omega, hbw10⟩
          case measure => have := Hig.out; omega
        · have hne : c ≠ 32 := fun e => h32 (by rw [e]; rfl)
          have Hs2 : Hid (splitL l = done ++ cutW ((l.take (i + 1)).drop fr) (l.drop (i + 1))) := by
            unfold Hid
            rw [hspl, hdr, cutW, if_neg hne, htk]
          have hc' : ((c.toNat : Int) == 32) = false := by simp; omega
          clear hspl hdr htk hlc h32 hne
          go_wp2_with fail
          go_roundg (gk - 1)
          case rel => exact ⟨i + 1, fr, done, by have := Hig.out; omega, by go_num, rfl, by omega, by omega, Ho.out, fun _ => Hs2.out, fun h => by omega, hb⟩
          case measure => have := Hig.out; omega
    · have hsd := H2.out (by omega)
      have Hfin : Hid (OwnS wr w.heap.size u3 (splitL l)) := by unfold Hid; rw [hsd]; exact Ho.out
      clear hsd
      go_wp2_with fail
      exact HP.out _ _ Hfin.out hb
end Go.Proofs.YtkckncggiicciaaDoor
/-
  The walk of skerrylaw28.wakes.
-/
namespace Go.Proofs.YtkckncggiicciaaDoor
open Go.RowKit
set_option maxRecDepth 100000
/-- A struct's load behind a guard that says yes. -/
theorem wpList_load_rowG {P : Program} {ops : Array Oper} {rest : List Oper} {o : Oper} {a : Act} {w : World} {Q : Exit → Act → World → Prop} (hw : Region.wanted o (yielded ops a.tmps) = true) (ty : TypeId) (x : Operand) (ho : o.op = .load ty x)
    (g : Nat) (hx : a.eval x = .pointer (some ⟨g, 0, none⟩)) (t : TypeId) (cs : Array Value) (fr : Nat × Nat) (d : TypeDesc) (hg : w.heap[g]? = some (.cells cs t fr))
    (hu : P.underlying ty = some d) (hd : (match d with | .struct _ | .array _ _ => true | _ => false) = true) (hi : (P.info? ty).map (·.size) = some cs.size)
    (h : wpList P ops Q rest (a.put o.dst (.agg cs)) w) : wpList P ops Q (o :: rest) a w :=
  wpList_step fun K hK => by
    rw [if_pos hw]
    exact wp_load_row ty x ho g hx t cs fr d hg hu hd hi (hK _ _ h)
theorem itoa_0 : Lib.itoa 0 = [48] := by simp [Lib.itoa, Lib.decDigits]
theorem itoa_3 : Lib.itoa 3 = [51] := by simp [Lib.itoa, Lib.decDigits]
/-- A replica of number 3, all else nought. -/
def raft3 : List Value := [.int .i64 3, .int .i64 0, .int .i64 0, .int .i64 0, .int .i64 0, .int .i64 0, .int .i64 0, .int .i64 0, .int .i64 0, .slice none 0 0, .slice none 0 0, .int .i64 0, .int .i64 0, .int .i64 0, .int .i64 0, .int .i64 0, .int .i64 0, .int .i64 0,
  .int .i64 0, .int .i64 0, .int .i64 0, .int .i64 0, .int .i64 0, .int .i64 0, .int .i64 0, .int .i64 0, .int .i64 0, .int .i64 0, .int .i64 0, .int .i64 0, .int .i64 0, .int .i64 0, .int .i64 0, .int .i64 0, .int .i64 0, .int .i64 0, .int .i64 0, .int .i64 0, .int .i64 0, .slice none 0 0]
theorem raft3_len : raft3.length = 40 := rfl
theorem raft3_one : ∀ v ∈ raft3, v.oneCell' = true := by
  intro v hv
  have : raft3.all (·.oneCell') = true := rfl
  exact List.all_eq_true.1 this v hv
theorem raft3_at : RfAt raft3 3 0 0 0 0 0 0 (.slice none 0 0) := ⟨rfl, raft3_one, rfl, rfl, rfl, rfl, rfl, rfl, rfl, rfl⟩
def line3 : ByteArray := ⟨#[110, 111, 100, 101, 32, 51, 32, 114, 111, 108, 101, 32, 48, 32, 116, 101, 114, 109, 32, 48, 32, 108, 101, 97, 100, 32, 48, 32, 99, 111, 109, 109, 105, 116, 32, 48, 32, 98, 97, 115, 101, 32, 48, 32, 108, 97, 115, 116, 32, 48]⟩
theorem repL_3 : sV (repL 3 0 0 0 0 0 (lastT 0 0)) = .string line3 := by
  have e : lastT 0 0 = [48] := by
    unfold lastT
    rw [if_pos (by decide)]
    exact itoa_0
  rw [e]
  unfold repL
  rw [itoa_0, itoa_3]
  rfl
theorem meanV_nil : meanV [] = 9221120237041090561 := rfl
set_option maxHeartbeats 3200000 in
theorem rwakes_any (w : World) (hI : ItAt w) : Calls Tryd.prog 9 #[] w fun e w' => e = .returned (.bool true) ∧ Below w.heap.size w w' := by
  have HL : Hid (Calls Tryd.prog 7 #[.slice none 0 0] w fun e w' => (∃ A c, e = .returned (.tuple #[.slice A 0 c, .float .f64 9221120237041090561])) ∧ Below w.heap.size w w') := by
    have := RLags_any none 0 0 [] [] [] [] w (Rd.nil _ _ _) rfl rfl rfl rfl (fun i x h => by simp at h) (fun _ h => by cases h) (fun _ h => by cases h) (fun _ i c h => by simp at h) (by omega) hI
    refine this.mono ?_
    intro e w' h
    unfold LagsPost at h
    rw [if_pos (show okC [] = true from rfl)] at h
    obtain ⟨⟨v, he, ho⟩, hb⟩ := h
    obtain ⟨A, c, hv, _⟩ := ownS_rd ho (n := 0) rfl
    rw [hv] at he
    exact ⟨⟨A, c, he⟩, hb⟩
  have HR : Hid (∀ w', Below w.heap.size w w' → Calls Tryd.prog 13 #[.agg raft3.toArray] w' fun e w'' => e = .returned (.string line3) ∧ Below w'.heap.size w' w'') := fun w' hb => by
    have := Replica_any raft3 3 0 0 0 0 0 0 none 0 0 w' raft3_at ⟨by omega, by omega, fun h => by omega⟩ (by unfold In64; omega) (by unfold In64; omega) (by unfold In64; omega) (by unfold In64; omega) (by unfold In64; omega) (by unfold In64; omega) (hI.below hb)
    rw [repL_3] at this
    exact this
  have hnn : isNan 9221120237041090561 = true := by decide
  have hne := cmp_ne_self 9221120237041090561
  rw [hnn] at hne
  have Hsz : Hid ((Tryd.prog.info? 33).map (·.size) = some raft3.length) := size40
  have Hsz2 : Hid ((Tryd.prog.info? 33).map (·.size) = some raft3.toArray.size) := size40
  clear hI hnn
  go_enter Tryd.func9, Tryd.ntmps9
  go_wp2_with fail
  refine HL.out.mono ?_
  rintro e w1 ⟨⟨A, c, rfl⟩, hb1⟩
  go_wp2_with (first
    | (refine wpList_store_local rfl 33 (.tmp 3) _ rfl raft3 rfl rfl Hsz.out rfl raft3_one ?_
       intro w5 q5 hb5 hz5
       have Hq5 := Lib.hid q5
       have hbn : Below w.heap.size w w5 := hb1.trans (hb5.mono hb1.size)
       clear q5 hz5)
    | (refine wpList_load_rowG rfl 33 (.tmp 3) rfl w1.heap.size rfl 33 raft3.toArray (0, 0) _ Hq5.out Tryd.underlying33 rfl Hsz2.out ?_)
    | (go_at_call 13
       refine (HR.out _ hbn).mono ?_
       rintro e w6 ⟨rfl, hb6⟩))
  go_ret
  exact ⟨ret_bool (by rw [ByteArray.toList_eq]; rfl), hbn.trans (hb6.mono hbn.size)⟩
end Go.Proofs.YtkckncggiicciaaDoor
/-
  The walk of ReportLogs.
-/
namespace Go.Proofs.YtkckncggiicciaaDoor
open Go.RowKit
set_option maxRecDepth 100000
/-- A log that is kept. -/
structure Hd where
  term : Int
  vote : Int
  base : Int
  bt : Int
  full : Int
  wit : Int
  learn : Int
  lw : Int
def Hd.cells (h : Hd) (S : Option Addr) (sn sc : Nat) (A : Option Addr) (m c : Nat) : List Value :=
  [.int .i64 h.term, .int .i64 h.vote, .int .i64 h.base, .int .i64 h.bt, .int .i64 h.full, .int .i64 h.wit, .int .i64 h.learn, .int .i64 h.lw, .slice S sn sc, .slice A m c]
theorem Hd.at (h : Hd) (S : Option Addr) (sn sc : Nat) (A : Option Addr) (m c : Nat) : HdAt (h.cells S sn sc A m c) h.base h.bt A m c S sn sc :=
  ⟨rfl, fun v hv => by
    have : (h.cells S sn sc A m c).all (·.oneCell') = true := rfl
    exact List.all_eq_true.1 this v hv, rfl, rfl, rfl, rfl⟩
/-- The replica that has it, all else nought. -/
def Hd.raft (h : Hd) (S : Option Addr) (sn sc : Nat) (A : Option Addr) (m c : Nat) : List Value :=
  [.int .i64 0, .int .i64 h.term, .int .i64 h.vote, .int .i64 h.base, .int .i64 h.bt, .int .i64 h.full, .int .i64 h.wit, .int .i64 h.learn, .int .i64 h.lw, .slice S sn sc, .slice A m c, .int .i64 0, .int .i64 0, .int .i64 0, .int .i64 0, .int .i64 0, .int .i64 0, .int .i64 0,
  .int .i64 0, .int .i64 0, .int .i64 0, .int .i64 0, .int .i64 0, .int .i64 0, .int .i64 0, .int .i64 0, .int .i64 0, .int .i64 0, .int .i64 0, .int .i64 0, .int .i64 0, .int .i64 0, .int .i64 0, .int .i64 0, .int .i64 0, .int .i64 0, .int .i64 0, .int .i64 0, .int .i64 0, .slice none 0 0]
theorem Hd.raft_at (h : Hd) (S : Option Addr) (sn sc : Nat) (A : Option Addr) (m c : Nat) : RfAt (h.raft S sn sc A m c) 0 h.term h.base h.bt 0 0 0 (.slice A m c) :=
  ⟨rfl, fun v hv => by
    have : (h.raft S sn sc A m c).all (·.oneCell') = true := rfl
    exact List.all_eq_true.1 this v hv, rfl, rfl, rfl, rfl, rfl, rfl, rfl, rfl⟩
/-! ### Plain -/
theorem head_split (idx term : Int) : headL idx term = Lib.itoa idx ++ 32 :: Lib.itoa term := by
  unfold headL wordsL
  rw [Lib.join_cons]
  simp [Lib.joinTail]
theorem ent_split (idx : Int) (e : En) : ∃ r : List UInt8, entL idx e = Lib.itoa idx ++ 32 :: (Lib.itoa e.term ++ 32 :: r) := by
  have key : ∀ (a : List UInt8) (xs : List (List UInt8)), ∃ r, wordsL (headL idx e.term :: a :: xs) = Lib.itoa idx ++ 32 :: (Lib.itoa e.term ++ 32 :: r) := fun a xs => by
    unfold wordsL
    rw [Lib.join_cons, head_split]
    simp [Lib.joinTail]
  unfold entL
  repeat' split
  all_goals exact key _ _
theorem ent_words (idx : Int) (e : En) : ∃ r : List UInt8, splitL (entL idx e) = Lib.itoa idx :: Lib.itoa e.term :: cutW [] r := by
  obtain ⟨r, hr⟩ := ent_split idx e
  refine ⟨r, ?_⟩
  rw [hr]
  unfold splitL
  rw [cutW_word _ _ (itoa_digit idx), cutW_word _ _ (itoa_digit e.term)]
  rfl
theorem pair_a (v : Va) : pairL (⟨#[97]⟩, v) = [107, 54, 49, 32] ++ valT v := by
  have e : hexT [97] = [54, 49] := by decide
  unfold pairL wordsL
  show Lib.join [107 :: hexT [97], valT v] [32] = _
  rw [e, Lib.join_cons]
  simp [Lib.joinTail]
theorem app_head (c : UInt8) (B : ByteArray) : (⟨#[c]⟩ ++ B : ByteArray).data.toList = c :: B.data.toList := by rw [ByteArray.data_append]; simp
theorem head_ne {c : UInt8} {l : List UInt8} (h : c ≠ 63) : (c :: l == [63]) = false := by
  rw [beq_eq_false_iff_ne]
  intro e
  injection e with e _
  exact h e
theorem val_q (v : Va) : (valT v == [63]) = !decide (chkVa v = 0) := by
  unfold valT
  by_cases h : chkVa v = 0
  · rw [if_pos h, decide_eq_true h]
    unfold vtextV
    split
    · rw [app_head]
      exact head_ne (by decide)
    · split
      · obtain ⟨t, ht⟩ : ∃ t, hexT v.s.data.toList = t := ⟨_, rfl⟩
        rw [ht]
        exact head_ne (c := 116) (by decide)
      · rfl
  · rw [if_neg h, decide_eq_false h]
    rfl
theorem pair_q (v : Va) : ((⟨(pairL (⟨#[97]⟩, v)).toArray⟩ : ByteArray).toList == [107, 54, 49, 32, 63]) = (chkVa v != 0) := by
  rw [ByteArray.toList_eq]
  show (pairL (⟨#[97]⟩, v) == [107, 54, 49, 32, 63]) = _
  rw [pair_a]
  have e : ([107, 54, 49, 32] ++ valT v == [107, 54, 49, 32, 63]) = (valT v == [63]) := by
    rw [Bool.eq_iff_iff, beq_iff_eq, beq_iff_eq]
    constructor
    · intro h
      exact List.append_cancel_left (show [107, 54, 49, 32] ++ valT v = [107, 54, 49, 32] ++ [63] from h)
    · intro h
      rw [h]
      rfl
  rw [e, val_q]
  rw [Bool.eq_iff_iff]
  simp
end Go.Proofs.YtkckncggiicciaaDoor
/-
  What skerrykeep says of two things that are alike: an entry and what it holds; lists of texts.
-/
namespace Go.Proofs.YtkckncggiicciaaDoor
open Go.RowKit
set_option maxRecDepth 100000
set_option maxHeartbeats 400000 in
theorem kF_self (x : Nat) (w : World) : Calls Tryd.prog 20 #[.float .f64 x, .float .f64 x] w fun e w' => e = .returned (.bool true) ∧ w = w' := by
  have hb := call_bits x
  have hne := cmp_ne_self x
  cases h : isNan x
  all_goals
    rw [h] at hne
    clear h
    go_enter Tryd.func20, Tryd.ntmps20
    go_wp2_with fail
    go_ret
    exact ⟨rfl, rfl⟩
set_option maxHeartbeats 400000 in
theorem kV_self (k : Int) (x : Nat) (s : ByteArray) (w : World) : Calls Tryd.prog 28 #[.agg #[.int .i64 k, .float .f64 x, .string s], .agg #[.int .i64 k, .float .f64 x, .string s]] w fun e w' => e = .returned (.bool true) ∧ Below w.heap.size w w' := by
  go_enter Tryd.func28, Tryd.ntmps28
  go_wp2_with (refine (kF_self _ _).mono ?_; rintro e w1 ⟨rfl, rfl⟩)
  go_ret
  exact ⟨ret_bool (by simp), two_below _ _ _⟩
set_option maxHeartbeats 800000 in
theorem kConf_self (a b c d : Int) (w : World) : Calls Tryd.prog 65 #[.agg #[.int .i64 a, .int .i64 b, .int .i64 c, .int .i64 d], .agg #[.int .i64 a, .int .i64 b, .int .i64 c, .int .i64 d]] w fun e w' => e = .returned (.bool true) ∧ Below w.heap.size w w' := by
  go_enter Tryd.func65, Tryd.ntmps65
  go_wp2_with fail
  go_ret
  exact ⟨ret_bool (by simp), two_below _ _ _⟩
set_option maxHeartbeats 1600000 in
theorem kCmd_self (k : Int) (y : ByteArray) (ok : Int) (ox : Nat) (os : ByteArray) (vk : Int) (vx : Nat) (vs : ByteArray) (w : World) :
    Calls Tryd.prog 92 #[.agg #[.int .i64 k, .string y, .int .i64 ok, .float .f64 ox, .string os, .int .i64 vk, .float .f64 vx, .string vs], .agg #[.int .i64 k, .string y, .int .i64 ok, .float .f64 ox, .string os, .int .i64 vk, .float .f64 vx, .string vs]] w fun e w' => e = .returned (.bool true) ∧ Below w.heap.size w w' := by
  obtain ⟨W2, hW2⟩ : ∃ W2, (w.alloc (.cells #[.int .i64 k, .string y, .int .i64 ok, .float .f64 ox, .string os, .int .i64 vk, .float .f64 vx, .string vs] 60)).alloc (.cells #[.int .i64 k, .string y, .int .i64 ok, .float .f64 ox, .string os, .int .i64 vk, .float .f64 vx, .string vs] 60) = W2 := ⟨_, rfl⟩
  have hb2 : Below w.heap.size w W2 := by rw [← hW2]; exact two_below _ _ _
  have hz2 : W2.heap.size = w.heap.size + 2 := by rw [← hW2]; simp
  have hr0 : W2.heap[w.heap.size]? = some (.cells #[.int .i64 k, .string y, .int .i64 ok, .float .f64 ox, .string os, .int .i64 vk, .float .f64 vx, .string vs] 60 (0, 0)) := by
    rw [← hW2, Below.heap_alloc _ _ _ (by simp)]
    exact heap_alloc_new w _
  have hr1 : W2.heap[w.heap.size + 1]? = some (.cells #[.int .i64 k, .string y, .int .i64 ok, .float .f64 ox, .string os, .int .i64 vk, .float .f64 vx, .string vs] 60 (0, 0)) := by
    rw [← hW2]
    exact heap_alloc2_new w _ _
  have Hrow : Hid (∀ w', Below W2.heap.size W2 w' → (w'.cell? ⟨w.heap.size, 5, none⟩ = some (.int .i64 vk) ∧ w'.cell? ⟨w.heap.size, 6, none⟩ = some (.float .f64 vx) ∧ w'.cell? ⟨w.heap.size, 7, none⟩ = some (.string vs)) ∧ w'.cell? ⟨w.heap.size + 1, 5, none⟩ = some (.int .i64 vk) ∧ w'.cell? ⟨w.heap.size + 1, 6, none⟩ = some (.float .f64 vx) ∧ w'.cell? ⟨w.heap.size + 1, 7, none⟩ = some (.string vs)) := fun w' hb => by
    have q0 := (hb.block w.heap.size (by omega)).trans hr0
    have q1 := (hb.block (w.heap.size + 1) (by omega)).trans hr1
    exact ⟨⟨cell_of_row _ _ _ _ _ _ q0, cell_of_row _ _ _ _ _ _ q0, cell_of_row _ _ _ _ _ _ q0⟩, cell_of_row _ _ _ _ _ _ q1, cell_of_row _ _ _ _ _ _ q1, cell_of_row _ _ _ _ _ _ q1⟩
  have HW2 := Lib.hid hW2
  have hbq : Below W2.heap.size W2 W2 := Below.refl _ _
  clear hW2 hr0 hr1
  have Hz2 := Lib.hid hz2
  clear hz2
  go_enter Tryd.func92, Tryd.ntmps92
  go_wp2_with fail
  rw [HW2.out]
  refine (kV_self _ _ _ _).mono ?_
  rintro e w3 ⟨rfl, hb3⟩
  have hbq3 := bstep hbq hb3
  obtain ⟨⟨y0, y1, y2⟩, y3, y4, y5⟩ := Hrow.out _ hbq3
  clear hb3 hbq
  go_wp2_with fail
  refine (kV_self _ _ _ _).mono ?_
  rintro e w4 ⟨rfl, hb4⟩
  have hbq4 := bstep hbq3 hb4
  clear y0 y1 y2 y3 y4 y5 hb4
  go_wp2_with fail
  go_ret
  exact ⟨ret_bool (by simp), hb2.trans (hbq4.mono (by have := Hz2.out; omega))⟩
set_option maxHeartbeats 1600000 in
theorem kCall_self (cl sq k : Int) (y : ByteArray) (ok : Int) (ox : Nat) (os : ByteArray) (vk : Int) (vx : Nat) (vs : ByteArray) (w : World) :
    Calls Tryd.prog 68 #[.agg #[.int .i64 cl, .int .i64 sq, .int .i64 k, .string y, .int .i64 ok, .float .f64 ox, .string os, .int .i64 vk, .float .f64 vx, .string vs], .agg #[.int .i64 cl, .int .i64 sq, .int .i64 k, .string y, .int .i64 ok, .float .f64 ox, .string os, .int .i64 vk, .float .f64 vx, .string vs]] w fun e w' => e = .returned (.bool true) ∧ Below w.heap.size w w' := by
  go_enter Tryd.func68, Tryd.ntmps68
  go_wp2_with fail
  refine (kCmd_self _ _ _ _ _ _ _ _ _).mono ?_
  rintro e w3 ⟨rfl, hb3⟩
  go_wp2_with fail
  go_ret
  exact ⟨ret_bool (by simp), (two_below _ _ _).trans (hb3.mono (by simp <;> omega))⟩
set_option maxHeartbeats 3200000 in
theorem Texts_self (A A' : Option Addr) (n c c' : Nat) (l : List (List UInt8)) (w : World) (h1 : Rd w w.heap.size 1 A n c (l.map sV)) (h2 : Rd w w.heap.size 1 A' n c' (l.map sV)) :
    Calls Tryd.prog 15 #[.slice A n c, .slice A' n c'] w fun e w' => e = .returned (.bool true) ∧ Below w.heap.size w w' := by
  have hc1 : n ≤ c := h1.2.1
  have hc2 : n ≤ c' := h2.2.1
  have hmx : c ≤ maxLen := h1.2.2.1
  unfold maxLen at hmx
  have HE : Hid (∀ i, i < n → ∃ b off b' off' B, A = some ⟨b, off, none⟩ ∧ A' = some ⟨b', off', none⟩ ∧ b < w.heap.size ∧ b' < w.heap.size ∧ w.cell? ⟨b, off + i, none⟩ = some (.string B) ∧ w.cell? ⟨b', off' + i, none⟩ = some (.string B)) := fun i hi => by
    have hl : l.length = n := by simpa using h1.1
    obtain ⟨_, _, _, r1⟩ := h1
    obtain ⟨_, _, _, r2⟩ := h2
    obtain ⟨b, off, rfl, hb, hcell⟩ := r1 (by omega)
    obtain ⟨b', off', rfl, hb', hcell'⟩ := r2 (by omega)
    have hg : (l.map sV)[i]? = some (sV l[i]) := by rw [List.getElem?_map, List.getElem?_eq_getElem (by omega)]; rfl
    exact ⟨b, off, b', off', _, rfl, rfl, hb, hb', hcell _ _ hg, hcell' _ _ hg⟩
  have hd : ((n : Int) != (n : Int)) = false := by simp
  clear h1 h2
  go_enter Tryd.func15, Tryd.ntmps15
  go_wp2_with fail
  go_loopg [5] n (fun g s5 wr => ∃ i : Nat, i + g = n ∧ s5 = .int .i64 i ∧ Below w.heap.size w wr)
  case atStart => exact ⟨0, by omega, rfl, Below.refl _ _⟩
  case round =>
    obtain ⟨i, hig, rfl, hbr⟩ := hrel
    have Hig := Lib.hid hig
    have hin : i ≤ n := by omega
    clear hig
    by_cases hlt : i < n
    · obtain ⟨b, off, b', off', B, rfl, rfl, hb, hb', y0, y1⟩ := HE.out i hlt
      have x0 := (hbr.cell (p := ⟨b, off + i, none⟩) hb).trans y0
      have x1 := (hbr.cell (p := ⟨b', off' + i, none⟩) hb').trans y1
      have e1 : (B.toList == B.toList) = true := by simp
      clear y0 y1 HE
      go_wp2_with fail
      go_quiet (fail)
      go_wp2_with fail
      go_roundg (gk - 1)
      case rel => exact ⟨i + 1, by have := Hig.out; omega, by go_num, (by first | exact hbr | exact below_drewN hbr _)⟩
      case measure => have := Hig.out; omega
    · obtain rfl : i = n := by omega
      clear HE
      go_wp2_with fail
      go_ret
      exact ⟨rfl, hbr⟩
end Go.Proofs.YtkckncggiicciaaDoor
/-
  What skerrykeep says of two logs that are alike.
-/
namespace Go.Proofs.YtkckncggiicciaaDoor
open Go.RowKit
set_option maxRecDepth 100000
/-- A struct's load out of a row, in a region that draws its order. -/
theorem quiet_load_mid {ops : Array Oper} {op : Oper} {a : Act} {K : Act → Prop} {w : World} {E : Prop} (hgd : op.guard = none) (ty : TypeId) (x : Operand) (ho : op.op = .load ty x)
    (b o : Nat) (hx : a.eval x = .pointer (some ⟨b, o, none⟩)) (cs : List Value) (d : TypeDesc) (hc : w.rangeAt b o cs) (hb : b < w.heap.size)
    (hu : Tryd.prog.underlying ty = some d) (hd : d.isRow = true) (hi : (Tryd.prog.info? ty).map (·.size) = some cs.length) (h : K (a.put op.dst (.agg cs.toArray))) :
    if Region.wanted op (yielded ops a.tmps) = true then op.quiet Tryd.prog a (fun w' => ∃ p : Regrown, w' = Go.Sort.grow (redrawn w p.d) p.os) K else E := by
  have hw : Region.wanted op (yielded ops a.tmps) = true := by simp [Region.wanted, hgd]
  rw [if_pos hw]
  refine ⟨_, fun w' hw' => ?_, h⟩
  obtain ⟨p, rfl⟩ := hw'
  have hc' := range_below hc (below_regrown w p.d p.os) hb
  unfold Oper.quietAt execOp
  simp only [ho, hx, Instr.loadAt, Instr.sureAddr, Sem.run_bind, Sem.run_pure, Result.andThen_ok, run_loadVar_mid _ b o ty cs d hc' hu hd hi]
  exact ⟨rfl, rfl⟩
set_option maxHeartbeats 1600000 in
theorem kEntry_self (e : En) (w : World) : Calls Tryd.prog 91 #[.agg e.cells.toArray, .agg e.cells.toArray] w fun e' w' => e' = .returned (.bool true) ∧ Below w.heap.size w w' := by
  obtain ⟨term, kind, cl, sq, ck, y, ⟨ok, ox, os⟩, ⟨vk, vx, vs⟩, ga, gb, gc, gd⟩ := e
  unfold En.cells
  dsimp only
  obtain ⟨W2, hW2⟩ : ∃ W2, (w.alloc (.cells #[.int .i64 term, .int .i64 kind, .int .i64 cl, .int .i64 sq, .int .i64 ck, .string y, .int .i64 ok, .float .f64 ox, .string os, .int .i64 vk, .float .f64 vx, .string vs, .int .i64 ga, .int .i64 gb, .int .i64 gc, .int .i64 gd] 64)).alloc (.cells #[.int .i64 term, .int .i64 kind, .int .i64 cl, .int .i64 sq, .int .i64 ck, .string y, .int .i64 ok, .float .f64 ox, .string os, .int .i64 vk, .float .f64 vx, .string vs, .int .i64 ga, .int .i64 gb, .int .i64 gc, .int .i64 gd] 64) = W2 := ⟨_, rfl⟩
  have hb2 : Below w.heap.size w W2 := by rw [← hW2]; exact two_below _ _ _
  have hz2 : W2.heap.size = w.heap.size + 2 := by rw [← hW2]; simp
  have hr0 : W2.heap[w.heap.size]? = some (.cells #[.int .i64 term, .int .i64 kind, .int .i64 cl, .int .i64 sq, .int .i64 ck, .string y, .int .i64 ok, .float .f64 ox, .string os, .int .i64 vk, .float .f64 vx, .string vs, .int .i64 ga, .int .i64 gb, .int .i64 gc, .int .i64 gd] 64 (0, 0)) := by
    rw [← hW2, Below.heap_alloc _ _ _ (by simp)]
    exact heap_alloc_new w _
  have hr1 : W2.heap[w.heap.size + 1]? = some (.cells #[.int .i64 term, .int .i64 kind, .int .i64 cl, .int .i64 sq, .int .i64 ck, .string y, .int .i64 ok, .float .f64 ox, .string os, .int .i64 vk, .float .f64 vx, .string vs, .int .i64 ga, .int .i64 gb, .int .i64 gc, .int .i64 gd] 64 (0, 0)) := by
    rw [← hW2]
    exact heap_alloc2_new w _ _
  have Hrow : Hid (∀ w', Below W2.heap.size W2 w' → (w'.cell? ⟨w.heap.size, 12, none⟩ = some (.int .i64 ga) ∧ w'.cell? ⟨w.heap.size, 13, none⟩ = some (.int .i64 gb) ∧ w'.cell? ⟨w.heap.size, 14, none⟩ = some (.int .i64 gc) ∧ w'.cell? ⟨w.heap.size, 15, none⟩ = some (.int .i64 gd)) ∧ w'.cell? ⟨w.heap.size + 1, 12, none⟩ = some (.int .i64 ga) ∧ w'.cell? ⟨w.heap.size + 1, 13, none⟩ = some (.int .i64 gb) ∧ w'.cell? ⟨w.heap.size + 1, 14, none⟩ = some (.int .i64 gc) ∧ w'.cell? ⟨w.heap.size + 1, 15, none⟩ = some (.int .i64 gd)) := fun w' hb => by
    have q0 := (hb.block w.heap.size (by omega)).trans hr0
    have q1 := (hb.block (w.heap.size + 1) (by omega)).trans hr1
    exact ⟨⟨cell_of_row _ _ _ _ _ _ q0, cell_of_row _ _ _ _ _ _ q0, cell_of_row _ _ _ _ _ _ q0, cell_of_row _ _ _ _ _ _ q0⟩, cell_of_row _ _ _ _ _ _ q1, cell_of_row _ _ _ _ _ _ q1, cell_of_row _ _ _ _ _ _ q1, cell_of_row _ _ _ _ _ _ q1⟩
  have HW2 := Lib.hid hW2
  have hbq : Below W2.heap.size W2 W2 := Below.refl _ _
  clear hW2 hr0 hr1
  have Hz2 := Lib.hid hz2
  clear hz2
  go_enter Tryd.func91, Tryd.ntmps91
  go_wp2_with fail
  rw [HW2.out]
  refine (kCall_self _ _ _ _ _ _ _ _ _ _ _).mono ?_
  rintro e w3 ⟨rfl, hb3⟩
  have hbq3 := bstep hbq hb3
  obtain ⟨⟨y0, y1, y2, y3⟩, y4, y5, y6, y7⟩ := Hrow.out _ hbq3
  clear hb3 hbq
  go_wp2_with fail
  refine (kConf_self _ _ _ _ _).mono ?_
  rintro e w4 ⟨rfl, hb4⟩
  have hbq4 := bstep hbq3 hb4
  clear y0 y1 y2 y3 y4 y5 y6 y7 hb4
  go_wp2_with fail
  go_ret
  exact ⟨ret_bool (by simp), hb2.trans (hbq4.mono (by have := Hz2.out; omega))⟩
set_option maxHeartbeats 3200000 in
theorem kEntries_self (A A' : Option Addr) (m c c' : Nat) (es : List En) (w : World) (h1 : EnRows w w.heap.size A m c es) (h2 : EnRows w w.heap.size A' m c' es) (hl : es.length = m) :
    Calls Tryd.prog 67 #[.slice A m c, .slice A' m c'] w fun e w' => e = .returned (.bool true) ∧ Below w.heap.size w w' := by
  have hc1 : m ≤ c := h1.2.1
  have hc2 : m ≤ c' := h2.2.1
  have hmx : c ≤ maxLen := h1.2.2.1
  unfold maxLen at hmx
  have HE : Hid (∀ i, i < m → ∃ b off b' off', ∃ e : En, A = some ⟨b, off, none⟩ ∧ A' = some ⟨b', off', none⟩ ∧ b < w.heap.size ∧ b' < w.heap.size ∧ w.rangeAt b (off + i * 16) e.cells ∧ w.rangeAt b' (off' + i * 16) e.cells) := fun i hi => by
    obtain ⟨b, off, e, q1, q2, q3, q4, q5, q6⟩ := en_row h1 hl hi
    obtain ⟨b', off', e', p1, p2, p3, p4, p5, p6⟩ := en_row h2 hl hi
    rw [q4] at p4
    subst p4
    exact ⟨b, off, b', off', e, q1, p1, q2, p2, q6, p6⟩
  have hd : ((m : Int) != (m : Int)) = false := by simp
  clear h1 h2 hl
  go_enter Tryd.func67, Tryd.ntmps67
  go_wp2_with fail
  go_loopg [5] m (fun g s5 wr => ∃ i : Nat, i + g = m ∧ s5 = .int .i64 i ∧ Below w.heap.size w wr)
  case atStart => exact ⟨0, by omega, rfl, Below.refl _ _⟩
  case round =>
    obtain ⟨i, hig, rfl, hbr⟩ := hrel
    have Hig := Lib.hid hig
    have hin : i ≤ m := by omega
    clear hig
    by_cases hlt : i < m
    · obtain ⟨b, off, b', off', e, rfl, rfl, hb, hb', y0, y1⟩ := HE.out i hlt
      have x0 := Lib.hid (range_below y0 hbr hb)
      have x1 := Lib.hid (range_below y1 hbr hb')
      have z0 : b < wr.heap.size := Nat.lt_of_lt_of_le hb hbr.size
      have z1 : b' < wr.heap.size := Nat.lt_of_lt_of_le hb' hbr.size
      have HC : Hid (∀ w', Calls Tryd.prog 91 #[.agg e.cells.toArray, .agg e.cells.toArray] w' fun e' w'' => e' = .returned (.bool true) ∧ Below w'.heap.size w' w'') := fun w' => kEntry_self e w'
      clear y0 y1 HE
      go_wp2_with fail
      with_reducible refine wp_region_quiet_below (by kernel_rfl) (by kernel_rfl) ?_
      iterate 3 (with_reducible refine wpQuiet_step ?_; intro K hK; go_simp; with_reducible refine hK _ ?_; clear hK K)
      with_reducible refine wpQuiet_step ?_
      intro K hK
      refine quiet_load_mid rfl 64 (.tmp 19) rfl b (off + i * 16) rfl e.cells _ x0.out z0 Tryd.underlying64 rfl size16 (hK _ ?_)
      clear hK
      iterate 3 (with_reducible refine wpQuiet_step ?_; intro K hK; go_simp; with_reducible refine hK _ ?_; clear hK K)
      with_reducible refine wpQuiet_step ?_
      intro K hK
      refine quiet_load_mid rfl 64 (.tmp 23) rfl b' (off' + i * 16) rfl e.cells _ x1.out z1 Tryd.underlying64 rfl size16 (hK _ ?_)
      clear hK
      with_reducible refine wpQuiet_step ?_
      intro K hK
      go_simp
      apply Exists.intro
      with_reducible refine ⟨fun _ => ?_, hK _ ?_⟩
      with_reducible exact Calls.regrown_of (HC.out _)
      clear hK
      iterate 1 (with_reducible refine wpQuiet_step ?_; intro K hK; go_simp; with_reducible refine hK _ ?_; clear hK K)
      with_reducible refine wpQuiet_nil ?_
      intro w9 hw9
      have hbn : Below w.heap.size w w9 := hbr.trans (by
        obtain ⟨⟨dq, osq⟩, hw''⟩ := hw9
        rw [hw'']
        exact (below_regrown _ _ _).mono hbr.size)
      clear hw9
      go_wp2_with fail
      go_roundg (gk - 1)
      case rel => exact ⟨i + 1, by have := Hig.out; omega, by go_num, hbn⟩
      case measure => have := Hig.out; omega
    · obtain rfl : i = m := by omega
      clear HE
      go_wp2_with fail
      go_ret
      exact ⟨rfl, hbr⟩
end Go.Proofs.YtkckncggiicciaaDoor
/-
  The walks of ref25.valued and ref25.Pairs.
-/
namespace Go.Proofs.YtkckncggiicciaaDoor
open Go.RowKit
set_option maxRecDepth 100000
theorem chk_sz {v : Va} (h : chkVa v = 0) : (v.k = 0 ∨ v.k = 1 ∨ v.k = 2) ∧ v.s.size ≤ 2000 := by
  unfold chkVa at h
  by_cases h0 : v.k = 0
  · rw [if_pos h0] at h
    refine ⟨.inl h0, ?_⟩
    split at h
    · rename_i hq
      rw [Bool.and_eq_true] at hq
      have e := hq.2
      unfold eqS at e
      have e2 : v.s.data.toList = [] := by simpa [ByteArray.toList_eq] using e
      have : v.s.data.toList.length = v.s.size := Array.length_toList
      rw [e2] at this
      rw [← this]
      decide
    · cases h
  · rw [if_neg h0] at h
    by_cases h1 : v.k = 1
    · rw [if_pos h1] at h
      refine ⟨.inr (.inl h1), ?_⟩
      split at h
      · rename_i hq
        rw [Bool.and_eq_true] at hq
        have e := hq.2
        unfold eqS at e
        have e2 : v.s.data.toList = [] := by simpa [ByteArray.toList_eq] using e
        have : v.s.data.toList.length = v.s.size := Array.length_toList
        rw [e2] at this
        rw [← this]
        decide
      · cases h
    · rw [if_neg h1] at h
      by_cases h2 : v.k = 2
      · rw [if_pos h2] at h
        refine ⟨.inr (.inr h2), ?_⟩
        by_cases q : 32 < v.s.size
        · rw [if_pos q] at h; cases h
        · omega
      · rw [if_neg h2] at h
        cases h
set_option maxHeartbeats 3200000 in
theorem valued_any (v : Va) (w : World) (hx : v.x < 18446744073709551616) (hs : v.s.size ≤ maxLen) (hT : TzAt w) :
    Calls Tryd.prog 49 #[v.v] w fun e w' => e = .returned (.string ⟨(valT v).toArray⟩) ∧ Below w.heap.size w w' := by
  have hob := one_below w (.cells #[.int .i64 v.k, .float .f64 v.x, .string v.s] 56)
  obtain ⟨W1, hW1⟩ : ∃ W1, w.alloc (.cells #[.int .i64 v.k, .float .f64 v.x, .string v.s] 56) = W1 := ⟨_, rfl⟩
  rw [hW1] at hob
  have hz1 : W1.heap.size = w.heap.size + 1 := by rw [← hW1]; simp
  have hrow : W1.heap[w.heap.size]? = some (.cells #[.int .i64 v.k, .float .f64 v.x, .string v.s] 56 (0, 0)) := by rw [← hW1]; exact heap_alloc_new w _
  have Hc : Hid (∀ w', Below W1.heap.size W1 w' → w'.cell? ⟨w.heap.size, 0, none⟩ = some (.int .i64 v.k) ∧ w'.cell? ⟨w.heap.size, 1, none⟩ = some (.float .f64 v.x) ∧ w'.cell? ⟨w.heap.size, 2, none⟩ = some (.string v.s)) := fun w' hb => by
    have q := (hb.block w.heap.size (by omega)).trans hrow
    exact ⟨cell_of_row _ _ _ _ _ _ q, cell_of_row _ _ _ _ _ _ q, cell_of_row _ _ _ _ _ _ q⟩
  have HC : Hid (Calls Tryd.prog 25 #[v.v] W1 fun e w' => e = .returned (.int .i64 (chkVa v)) ∧ Below W1.heap.size W1 w') := RCheck_any v W1 hx hs
  have HT : Hid (chkVa v = 0 → ∀ w', Below W1.heap.size W1 w' → Calls Tryd.prog 72 #[v.v] w' fun e w'' => e = .returned (.string (vtextV v)) ∧ Below w'.heap.size w' w'') := fun h w' hb =>
    RText_any v w' hx (chk_sz h).2 (hT.below (hob.trans (hb.mono hob.size))) (chk_sz h).1
  have Hv : Hid (valT v = if chkVa v = 0 then (vtextV v).data.toList else [63]) := rfl
  have HcV : Hid (chkVa v = 0 ∨ chkVa v = 8 ∨ chkVa v = 2 ∨ chkVa v = 15) := chk_vals v
  have HW1 := Lib.hid hW1
  have Hz1 := Lib.hid hz1
  obtain ⟨vt, hvt⟩ : ∃ vt, valT v = vt := ⟨_, rfl⟩
  obtain ⟨tv, htv⟩ : ∃ tv, vtextV v = tv := ⟨_, rfl⟩
  obtain ⟨cv, hcv⟩ : ∃ cv, chkVa v = cv := ⟨_, rfl⟩
  rw [hvt] at Hv ⊢
  rw [htv] at Hv HT
  rw [hcv] at Hv HT HC HcV
  obtain ⟨k, x, s⟩ := v
  unfold Va.v at HC HT ⊢
  dsimp only at *
  clear hvt htv hcv hx hs hT hrow hW1 hz1
  go_enter Tryd.func49, Tryd.ntmps49
  go_wp2_with fail
  rw [HW1.out]
  refine HC.out.mono ?_
  rintro e w2 ⟨rfl, hb2⟩
  obtain ⟨y0, y1, y2⟩ := Hc.out w2 hb2
  rcases HcV.out with rfl | h
  · have HT2 := Lib.hid (HT.out rfl w2 hb2)
    have HF : Hid (tv = (⟨vt.toArray⟩ : ByteArray)) := by
      unfold Hid
      rw [Hv.out, if_pos rfl]
    clear HcV HT Hv HC
    go_wp2_with fail
    refine HT2.out.mono ?_
    rintro e w3 ⟨rfl, hb3⟩
    go_wp2_with fail
    go_ret
    exact ⟨by rw [HF.out]; rfl, hob.trans ((bstep hb2 hb3).mono hob.size)⟩
  · have hne : (cv != 0) = true := by simp; omega
    have HF : Hid ((⟨#[63]⟩ : ByteArray) = ⟨vt.toArray⟩) := by
      unfold Hid
      rw [Hv.out, if_neg (by omega)]
    clear HcV HT Hv HC h
    go_wp2_with fail
    go_ret
    exact ⟨by rw [← HF.out]; rfl, hob.trans (hb2.mono hob.size)⟩
end Go.Proofs.YtkckncggiicciaaDoor
/-
  The walks of skerrykeep's copies.
-/
namespace Go.Proofs.YtkckncggiicciaaDoor
open Go.RowKit
set_option maxRecDepth 100000
def zeroE : Value := .agg e0.cells.toArray
theorem info_ent : (Tryd.prog.info? 64).map (fun i => (i.zero, i.size, i.bytes)) = some (some zeroE, 16, 152) := by kernel_rfl
def OwnE (w : World) (base : Nat) (v : Value) (es : List En) : Prop := w.ownsRow base 64 16 v es.length (es.map En.cells).flatten
theorem ownE_rows {w : World} {base : Nat} {v : Value} {es : List En} (h : OwnE w base v es) {n : Nat} (hn : es.length = n) : ∃ A c, v = .slice A n c ∧ EnRows w w.heap.size A n c es := by
  subst hn
  exact Rd.of_own h
theorem ents_one (es : List En) : ∀ u ∈ (es.map En.cells).flatten, u.oneCell' = true := by
  intro u hu
  obtain ⟨x, hx, hux⟩ := List.mem_flatten.1 hu
  obtain ⟨e, _, rfl⟩ := List.mem_map.1 hx
  exact e.cells_one u hux
theorem wpList_appE {w : World} {ops : Array Oper} {rest : List Oper} {o : Oper} {a : Act} {Q : Exit → Act → World → Prop} (hgd : o.guard = none) (s x : Operand)
    (ho : o.op = .call { callee := .builtin .append, args := #[s, x], argTypes := #[27, 27] })
    (base : Nat) (hs : a.eval s = .slice none 0 0) (A : Option Addr) (m c : Nat) (es : List En) (hl : es.length = m) (hx : a.eval x = .slice A m c) (hr : EnRows w w.heap.size A m c es) (hm : m ≤ 1000) (hbase : base ≤ w.heap.size)
    (h : ∀ v' w', OwnE w' base v' es → w.grownBy w' none → wpList Tryd.prog ops Q rest (a.put o.dst v') w') : wpList Tryd.prog ops Q (o :: rest) a w := by
  obtain ⟨i0, hi, hz0, hz1, hz2⟩ := info_parts info_ent
  refine wpList_plain hgd fun _ hK => wp_appAt s x _ ho base 64 i0 zeroE 16 152 Tryd.underlying27 hi hz0 hz1 hz2 rfl (by omega) (.slice none 0 0) 0 [] hs (World.ownsRow_nil _ _ _ _) w.heap.size A m c _ hx hr (ents_one es) (by simp only [maxLen]; omega) (by omega) hbase ?_
  intro v' w' q1 q2 _ _
  refine hK _ _ (h v' w' ?_ q2)
  unfold OwnE
  rw [hl]
  simpa using q1
def TwinEPost (es : List En) (w : World) (e : Ending) (w' : World) : Prop := (∃ v, e = .returned v ∧ OwnE w' w.heap.size v es) ∧ Below w.heap.size w w'
set_option maxHeartbeats 800000 in
theorem TwinEntries_any (A : Option Addr) (m c : Nat) (es : List En) (w : World) (hy : EnRows w w.heap.size A m c es) (hl : es.length = m) (hm : m ≤ 1000) :
    Calls Tryd.prog 64 #[.slice A m c] w (TwinEPost es w) := by
  have Hl := Lib.hid hl
  clear hl
  go_enter Tryd.func64, Tryd.ntmps64
  go_wp2_with (
    (at_builtin
     refine wpList_appE rfl (.tmp 4) (.tmp 5) rfl w.heap.size rfl A m c es Hl.out rfl hy hm (Nat.le_refl _) ?_
     intro v' w' ho hg))
  go_ret
  exact ⟨⟨v', rfl, ho⟩, (Below.refl _ _).grown hg (Nat.le_refl _) (by intro k hk; cases hk)⟩
end Go.Proofs.YtkckncggiicciaaDoor
/-
  Heavy, with what it says of the snapshot; law 28's own heavy.
-/
namespace Go.Proofs.YtkckncggiicciaaDoor
open Go.RowKit
set_option maxRecDepth 100000
def HvPost2 (m sn : Nat) (w : World) (e : Ending) (w' : World) : Prop := (∃ hb : Bool, e = .returned (.bool hb) ∧ (hb = false → m ≤ 200 ∧ sn ≤ 32768)) ∧ Below w.heap.size w w'
set_option maxHeartbeats 1600000 in
theorem Heavy2_any (x : List Value) (base bt : Int) (A : Option Addr) (m c : Nat) (S : Option Addr) (sn sc : Nat) (es : List En) (w : World) (hx : HdAt x base bt A m c S sn sc) (hy : EnRows w w.heap.size A m c es) (hl : es.length = m) (hst : ∀ e ∈ es, e.Str) :
    Calls Tryd.prog 23 #[.agg x.toArray] w (HvPost2 m sn w) := by
  have hob := alloc_below w (.cells x.toArray 29)
  obtain ⟨W1, hW1⟩ : ∃ W1, w.alloc (.cells x.toArray 29) = W1 := ⟨_, rfl⟩
  rw [hW1] at hob
  have hrow : W1.heap[w.heap.size]? = some (.cells x.toArray 29 (0, 0)) := by rw [← hW1]; exact heap_alloc_new w _
  have hz1 : W1.heap.size = w.heap.size + 1 := by rw [← hW1]; simp
  have HH : Hid (Calls Tryd.prog 50 #[.slice A m c] W1 (HvPost m W1)) := HeavyEntries_any A m c es W1 ((Rd.below hy hob (Nat.le_refl _)).mono hob.size) hl hst
  have HP : Hid (∀ hb w', (hb = false → m ≤ 200 ∧ sn ≤ 32768) → Below w.heap.size w w' → HvPost2 m sn w (.returned (.bool hb)) w') := fun hb w' h1 h => ⟨⟨hb, rfl, h1⟩, h⟩
  have Hc : Hid (∀ w', Below W1.heap.size W1 w' → w'.cell? ⟨w.heap.size, 8, none⟩ = some (.slice S sn sc) ∧ w'.cell? ⟨w.heap.size, 9, none⟩ = some (.slice A m c)) := fun w' hb => by
    have q := (hb.block w.heap.size (by omega)).trans hrow
    exact ⟨cell_list q _ _ hx.snap, cell_list q _ _ hx.log⟩
  obtain ⟨J, hJ⟩ : ∃ J, HvPost2 m sn w = J := ⟨_, rfl⟩
  rw [hJ] at HP ⊢
  obtain ⟨y0, y1⟩ := Hc.out W1 (Below.refl _ _)
  have hx9 := hx.log
  have HW1 := Lib.hid hW1
  clear hW1 hJ hy hl hst hx hrow
  go_enter Tryd.func23, Tryd.ntmps23
  go_wp2_with fail
  rw [HW1.out]
  refine HH.out.mono ?_
  rintro e w2 ⟨⟨hb, rfl, hm⟩, hb2⟩
  obtain ⟨z0, z1⟩ := Hc.out w2 hb2
  have hbw := hob.trans (hb2.mono (by omega))
  have Hm := Lib.hid hm
  clear y0 y1 hb2 hx9 hm
  cases hb
  all_goals
    rcases Decidable.em (32768 < sn) with hbig | hbig
    all_goals
      go_wp2_with fail
      first
        | exact HP.out _ _ (fun h => by cases h) hbw
        | exact HP.out _ _ (fun h => by simp at h; omega) hbw
        | exact HP.out _ _ (fun _ => ⟨Hm.out (by trivial), by omega⟩) hbw
        | exact HP.out _ _ (fun _ => ⟨Hm.out, by omega⟩) hbw
end Go.Proofs.YtkckncggiicciaaDoor
/-
  Replicas that came in: law 28's heavy.
-/
namespace Go.Proofs.YtkckncggiicciaaDoor
open Go.RowKit
set_option maxRecDepth 100000
/-- A replica, and what it leads to. -/
structure RfW where
  x : List Value
  id : Int
  term : Int
  base : Int
  bt : Int
  commit : Int
  role : Int
  lead : Int
  S : Option Addr
  sn : Nat
  sc : Nat
  A : Option Addr
  m : Nat
  c : Nat
  es : List En
/-- .. in a world. -/
structure RfW.Ok (r : RfW) (w : World) (B : Nat) : Prop where
  at' : RfAt r.x r.id r.term r.base r.bt r.commit r.role r.lead (.slice r.A r.m r.c)
  snap : r.x[9]? = some (.slice r.S r.sn r.sc)
  rows : EnRows w B r.A r.m r.c r.es
  len : r.es.length = r.m
  ins : ∀ e ∈ r.es, e.In
  strs : ∀ e ∈ r.es, e.Str
theorem RfW.Ok.below {r : RfW} {w w' : World} {B B' : Nat} (h : r.Ok w B) (hb : Below B w w') (hB : B ≤ B') : r.Ok w' B' :=
  ⟨h.at', h.snap, (Rd.below h.rows hb (Nat.le_refl _)).mono hB, h.len, h.ins, h.strs⟩
theorem RfW.Ok.hd {r : RfW} {w : World} {B : Nat} (h : r.Ok w B) : HdAt (hardC r.x) r.base r.bt r.A r.m r.c r.S r.sn r.sc := by
  refine ⟨?_, fun v hv => h.at'.one v (List.mem_of_mem_drop (List.mem_of_mem_take hv)), ?_, ?_, ?_, ?_⟩
  · unfold hardC
    rw [List.length_take, List.length_drop, h.at'.len]
    rfl
  all_goals rw [hardC_at _ _ (by omega)]
  · exact h.at'.base
  · exact h.at'.bt
  · exact h.snap
  · exact h.at'.log
theorem hard_range {w : World} {b o : Nat} {x : List Value} (h : w.rangeAt b o x) : w.rangeAt b (o + 1) (hardC x) := fun j v hj => by
  have hj10 : j < 10 := by
    have := (List.getElem?_eq_some_iff.1 hj).1
    unfold hardC at this
    simp at this
    omega
  rw [hardC_at x j hj10] at hj
  rw [Nat.add_assoc, Nat.add_comm 1 j]
  exact h _ _ hj
def RfRows (w : World) (B : Nat) (A : Option Addr) (n c : Nat) (rs : List RfW) : Prop := Rd w B 40 A n c (rs.map RfW.x).flatten
theorem rf_row {w : World} {B n c : Nat} {A : Option Addr} {rs : List RfW} (h : RfRows w B A n c rs) (hl : rs.length = n) (h40 : ∀ r ∈ rs, r.x.length = 40) {k : Nat} (hk : k < n) :
    ∃ b off r, A = some ⟨b, off, none⟩ ∧ b < B ∧ rs[k]? = some r ∧ r ∈ rs ∧ w.rangeAt b (off + k * 40) r.x := by
  obtain ⟨b, off, x, h1, h2, h3, h4, h5⟩ := rd_row (xss := rs.map RfW.x) h (fun x hx => by
    obtain ⟨e, he, rfl⟩ := List.mem_map.1 hx
    exact h40 e he) (by rw [List.length_map]; exact hl) hk
  rw [List.getElem?_map] at h3
  cases hq : rs[k]? with
  | none => rw [hq] at h3; cases h3
  | some e =>
    rw [hq] at h3
    injection h3 with h3
    subst h3
    exact ⟨b, off, e, h1, h2, rfl, List.mem_of_getElem? hq, h5⟩
def LightR (rs : List RfW) (n : Nat) : Prop := n ≤ 40 ∧ ∀ r ∈ rs, r.m ≤ 200 ∧ r.sn ≤ 32768
def HvPost3 (rs : List RfW) (n : Nat) (w : World) (e : Ending) (w' : World) : Prop := (∃ hb : Bool, e = .returned (.bool hb) ∧ (hb = false → LightR rs n)) ∧ Below w.heap.size w w'
set_option maxHeartbeats 3200000 in
theorem heavy_any (A : Option Addr) (n c : Nat) (rs : List RfW) (w : World) (hy : RfRows w w.heap.size A n c rs) (hl : rs.length = n) (hok : ∀ r ∈ rs, r.Ok w w.heap.size) :
    Calls Tryd.prog 10 #[.slice A n c] w (HvPost3 rs n w) := by
  have hcap : n ≤ c := hy.2.1
  rcases Decidable.em (40 < n) with h40 | h40
  · have HP : Hid (HvPost3 rs n w (.returned (.bool true)) w) := ⟨⟨true, rfl, fun h => by cases h⟩, Below.refl _ _⟩
    obtain ⟨J, hJ⟩ : ∃ J, HvPost3 rs n w = J := ⟨_, rfl⟩
    rw [hJ] at HP ⊢
    clear hJ hy hl hok
    go_enter Tryd.func10, Tryd.ntmps10
    go_wp2_with fail
    exact HP.out
  have HP : Hid (∀ w', Below w.heap.size w w' → HvPost3 rs n w (.returned (.bool true)) w') := fun w' hb => ⟨⟨true, rfl, fun h => by cases h⟩, hb⟩
  have HF : Hid ((∀ r ∈ rs, r.m ≤ 200 ∧ r.sn ≤ 32768) → ∀ w', Below w.heap.size w w' → HvPost3 rs n w (.returned (.bool false)) w') := fun h w' hb => ⟨⟨false, rfl, fun _ => ⟨by omega, h⟩⟩, hb⟩
  obtain ⟨J, hJ⟩ : ∃ J, HvPost3 rs n w = J := ⟨_, rfl⟩
  rw [hJ] at HP HF ⊢
  have HE : Hid (∀ i, i < n → ∃ b off, ∃ r : RfW, A = some ⟨b, off, none⟩ ∧ b < w.heap.size ∧ rs[i]? = some r ∧ r.Ok w w.heap.size ∧ w.rangeAt b (off + i * 40 + 1) (hardC r.x)) := fun i hi => by
    obtain ⟨b, off, r, q1, q2, q3, q4, q5⟩ := rf_row hy hl (fun r hr => (hok r hr).at'.len) hi
    exact ⟨b, off, r, q1, q2, q3, hok r q4, hard_range q5⟩
  have HT : Hid (rs.take n = rs) := List.take_of_length_le (by omega)
  clear hJ hy hl hok
  go_enter Tryd.func10, Tryd.ntmps10
  go_wp2_with fail
  go_loopg [3] n (fun g s3 wr => ∃ i : Nat, i + g = n ∧ s3 = .int .i64 i ∧ (∀ r ∈ rs.take i, r.m ≤ 200 ∧ r.sn ≤ 32768) ∧ Below w.heap.size w wr)
  case atStart => exact ⟨0, by omega, rfl, fun r h => by simp at h, Below.refl _ _⟩
  case round =>
    obtain ⟨i, hig, rfl, hall, hbr⟩ := hrel
    have Hig := Lib.hid hig
    have Hall := Lib.hid hall
    have hin : i ≤ n := by omega
    clear hig hall
    by_cases hlt : i < n
    · obtain ⟨b, off, r, rfl, hb, hq, hrok, hrg⟩ := HE.out i hlt
      have hrg' := Lib.hid (range_below hrg hbr hb)
      have hok' := hrok.below hbr hbr.size
      have HHv : Hid (Calls Tryd.prog 23 #[.agg (hardC r.x).toArray] wr (HvPost2 r.m r.sn wr)) := Heavy2_any (hardC r.x) r.base r.bt r.A r.m r.c r.S r.sn r.sc r.es wr hok'.hd hok'.rows hok'.len hok'.strs
      have Hsz : Hid ((Tryd.prog.info? 29).map (·.size) = some (hardC r.x).length) := by
        unfold Hid
        rw [hok'.hd.len]
        exact size10
      have Htk : Hid (rs.take (i + 1) = rs.take i ++ [r]) := by
        unfold Hid
        rw [List.take_add_one, hq]
        rfl
      obtain ⟨hc, hhc⟩ : ∃ hc, hardC r.x = hc := ⟨_, rfl⟩
      rw [hhc] at hrg' HHv Hsz
      clear hrok hok' hrg hq HE hhc
      go_wp2_with (refine Go.wpList_load_mid rfl 29 (.tmp 16) rfl b (off + i * 40 + 1) rfl hc _ hrg'.out Tryd.underlying29 rfl Hsz.out ?_)
      refine HHv.out.mono ?_
      rintro e w2 ⟨⟨hv, rfl, hf⟩, hb2⟩
      have hbr2 := hbr.trans (hb2.mono hbr.size)
      have Hf := Lib.hid hf
      clear hf
      cases hv
      case' true =>
        go_wp2_with fail
        exact HP.out _ hbr2
      have hf2 : Hid (r.m ≤ 200 ∧ r.sn ≤ 32768) := Hf.out rfl
      have Hall2 : Hid (∀ q ∈ rs.take (i + 1), q.m ≤ 200 ∧ q.sn ≤ 32768) := fun q h => by
        rw [Htk.out, List.mem_append] at h
        rcases h with h | h
        · exact Hall.out q h
        · simp at h; subst h; exact hf2.out
      clear Hf
      go_wp2_with fail
      go_roundg (gk - 1)
      case rel => exact ⟨i + 1, by have := Hig.out; omega, by go_num, Hall2.out, hbr2⟩
      case measure => have := Hig.out; omega
    · obtain rfl : i = n := by omega
      have h := Hall.out
      rw [HT.out] at h
      have HF2 := Lib.hid (HF.out h _ hbr)
      clear HE h HF
      go_wp2_with fail
      exact HF2.out
end Go.Proofs.YtkckncggiicciaaDoor
/-
  The walk of law 6's HeavyPairs.
-/
namespace Go.Proofs.YtkckncggiicciaaDoor
open Go.RowKit
set_option maxRecDepth 100000
def LightP (ps : List (ByteArray × Va)) : Prop := ∀ p ∈ ps, p.1.size ≤ 2000 ∧ p.2.s.size ≤ 2000
def HpPost (ps : List (ByteArray × Va)) (n : Nat) (w : World) (e : Ending) (w' : World) : Prop := (∃ hb : Bool, e = .returned (.bool hb) ∧ (hb = false → n ≤ 200 ∧ LightP ps)) ∧ Below w.heap.size w w'
set_option maxHeartbeats 3200000 in
theorem HeavyPairs_any (A : Option Addr) (n c : Nat) (ps : List (ByteArray × Va)) (w : World) (hy : PrRows w w.heap.size A n c ps) (hl : ps.length = n) (hok : ∀ p ∈ ps, p.1.size ≤ maxLen ∧ p.2.s.size ≤ maxLen) :
    Calls Tryd.prog 33 #[.slice A n c] w (HpPost ps n w) := by
  have hcap : n ≤ c := hy.2.1
  have hcm : c ≤ maxLen := hy.2.2.1
  unfold maxLen at hcm
  rcases Decidable.em (200 < n) with h200 | h200
  · have HP : Hid (HpPost ps n w (.returned (.bool true)) w) := ⟨⟨true, rfl, fun h => by cases h⟩, Below.refl _ _⟩
    obtain ⟨J, hJ⟩ : ∃ J, HpPost ps n w = J := ⟨_, rfl⟩
    rw [hJ] at HP ⊢
    clear hJ hy hl hok
    go_enter Tryd.func33, Tryd.ntmps33
    go_wp2_with fail
    exact HP.out
  have HP : Hid (∀ w', Below w.heap.size w w' → HpPost ps n w (.returned (.bool true)) w') := fun w' hb => ⟨⟨true, rfl, fun h => by cases h⟩, hb⟩
  have HF : Hid (LightP ps → ∀ w', Below w.heap.size w w' → HpPost ps n w (.returned (.bool false)) w') := fun h w' hb => ⟨⟨false, rfl, fun _ => ⟨by omega, h⟩⟩, hb⟩
  obtain ⟨J, hJ⟩ : ∃ J, HpPost ps n w = J := ⟨_, rfl⟩
  rw [hJ] at HP HF ⊢
  have HE : Hid (∀ i, i < n → ∃ b off, ∃ p : ByteArray × Va, A = some ⟨b, off, none⟩ ∧ b < w.heap.size ∧ ps.take (i + 1) = ps.take i ++ [p] ∧ p.1.size ≤ maxLen ∧ p.2.s.size ≤ maxLen ∧ w.cell? ⟨b, off + i * 4, none⟩ = some (.string p.1) ∧ w.cell? ⟨b, off + i * 4 + 3, none⟩ = some (.string p.2.s)) := fun i hi => by
    obtain ⟨b, off, p, q1, q2, q3, q4, q5⟩ := pr_row hy hl hi
    have h0 := q5 0 _ (show (prC p)[0]? = some (.string p.1) from rfl)
    rw [Nat.add_zero] at h0
    refine ⟨b, off, p, q1, q2, ?_, (hok p q4).1, (hok p q4).2, h0, q5 3 _ rfl⟩
    rw [List.take_add_one, List.getElem?_eq_getElem (by omega)]
    rw [← q3, List.getD_eq_getElem?_getD, List.getElem?_eq_getElem (by omega)]
    rfl
  have HT : Hid (ps.take n = ps) := List.take_of_length_le (by omega)
  clear hJ hy hl hok
  go_enter Tryd.func33, Tryd.ntmps33
  go_wp2_with fail
  go_loopg [3] n (fun g s3 wr => ∃ i : Nat, i + g = n ∧ s3 = .int .i64 i ∧ LightP (ps.take i) ∧ Below w.heap.size w wr)
  case atStart => exact ⟨0, by omega, rfl, fun r h => by simp at h, Below.refl _ _⟩
  case round =>
    obtain ⟨i, hig, rfl, hall, hbr⟩ := hrel
    have Hig := Lib.hid hig
    have Hall := Lib.hid hall
    have hin : i ≤ n := by omega
    clear hig hall
    by_cases hlt : i < n
    · obtain ⟨b, off, ⟨key, v⟩, rfl, hb, htk, hz1, hz2, y0, y1⟩ := HE.out i hlt
      have x0 := (hbr.cell (p := ⟨b, off + i * 4, none⟩) hb).trans y0
      have x1 := (hbr.cell (p := ⟨b, off + i * 4 + 3, none⟩) hb).trans y1
      have Htk := Lib.hid htk
      dsimp only at hz1 hz2 x0 x1
      unfold maxLen at hz1 hz2
      clear y0 y1 htk HE
      rcases Decidable.em (2000 < key.size) with g1 | g1
      case' inr => rcases Decidable.em (2000 < v.s.size) with g2 | g2
      case' inr.inr =>
        have Hall2 : Hid (LightP (ps.take (i + 1))) := fun q h => by
          rw [Htk.out, List.mem_append] at h
          rcases h with h | h
          · exact Hall.out q h
          · simp at h
            subst h
            exact ⟨by show key.size ≤ 2000; omega, by show v.s.size ≤ 2000; omega⟩
      all_goals
        go_wp2_with fail
        first
          | exact HP.out _ hbr
          | go_roundg (gk - 1)
      case rel => exact ⟨i + 1, by have := Hig.out; omega, by go_num, Hall2.out, hbr⟩
      case measure => have := Hig.out; omega
    · obtain rfl : i = n := by omega
      have h := Hall.out
      rw [HT.out] at h
      have HF2 := Lib.hid (HF.out h _ hbr)
      clear HE h HF
      go_wp2_with fail
      exact HF2.out
end Go.Proofs.YtkckncggiicciaaDoor
/-
  The walk of law 7's Heavy.
-/
namespace Go.Proofs.YtkckncggiicciaaDoor
open Go.RowKit
set_option maxRecDepth 100000
/-- What a client was told last. -/
structure Se where
  cl : Int
  sq : Int
  code : Int
  v : Va
def Se.cells (s : Se) : List Value := [.int .i64 s.cl, .int .i64 s.sq, .int .i64 s.code, .int .i64 s.v.k, .float .f64 s.v.x, .string s.v.s]
def se0 : Se := ⟨0, 0, 0, ⟨0, 0, ⟨#[]⟩⟩⟩
theorem size6s : (Tryd.prog.info? 83).map (·.size) = some 6 := by kernel_rfl
def SeRows (w : World) (B : Nat) (A : Option Addr) (n c : Nat) (ss : List Se) : Prop := Rd w B 6 A n c (ss.map Se.cells).flatten
theorem se_row {w : World} {B n c : Nat} {A : Option Addr} {ss : List Se} (h : SeRows w B A n c ss) (hl : ss.length = n) {k : Nat} (hk : k < n) :
    ∃ b off p, A = some ⟨b, off, none⟩ ∧ b < B ∧ ss.getD k se0 = p ∧ p ∈ ss ∧ w.rangeAt b (off + k * 6) p.cells := by
  obtain ⟨b, off, x, h1, h2, h3, h4, h5⟩ := rd_row (xss := ss.map Se.cells) h (fun x hx => by
    obtain ⟨e, _, rfl⟩ := List.mem_map.1 hx
    rfl) (by rw [List.length_map]; exact hl) hk
  rw [List.getElem?_map] at h3
  cases hq : ss[k]? with
  | none => rw [hq] at h3; cases h3
  | some e =>
    rw [hq] at h3
    injection h3 with h3
    subst h3
    exact ⟨b, off, e, h1, h2, by simp [List.getD, hq], List.mem_of_getElem? hq, h5⟩
def HmPost (ps : List (ByteArray × Va)) (n : Nat) (w : World) (e : Ending) (w' : World) : Prop := (∃ hb : Bool, e = .returned (.bool hb) ∧ (hb = false → n ≤ 200 ∧ LightP ps)) ∧ Below w.heap.size w w'
set_option maxHeartbeats 3200000 in
theorem HeavyM_any (A : Option Addr) (n c : Nat) (B : Option Addr) (k d : Nat) (ps : List (ByteArray × Va)) (ss : List Se) (w : World) (hy : PrRows w w.heap.size A n c ps) (hl : ps.length = n) (hok : ∀ p ∈ ps, p.1.size ≤ maxLen ∧ p.2.s.size ≤ maxLen)
    (hz : SeRows w w.heap.size B k d ss) (hsl : ss.length = k) (hso : ∀ s ∈ ss, s.v.s.size ≤ maxLen) :
    Calls Tryd.prog 11 #[.agg #[.slice A n c, .slice B k d]] w (HmPost ps n w) := by
  have hkd : k ≤ d := hz.2.1
  have hdm : d ≤ maxLen := hz.2.2.1
  unfold maxLen at hdm
  obtain ⟨W1, hW1⟩ : ∃ W1, w.alloc (.cells #[.slice A n c, .slice B k d] 44) = W1 := ⟨_, rfl⟩
  have hob : Below w.heap.size w W1 := by rw [← hW1]; exact alloc_below w _
  have hz1 : W1.heap.size = w.heap.size + 1 := by rw [← hW1]; simp
  have hrow : W1.heap[w.heap.size]? = some (.cells #[.slice A n c, .slice B k d] 44 (0, 0)) := by rw [← hW1]; exact heap_alloc_new w _
  have HH : Hid (Calls Tryd.prog 33 #[.slice A n c] W1 (HpPost ps n W1)) := HeavyPairs_any A n c ps W1 ((Rd.below hy hob (Nat.le_refl _)).mono hob.size) hl hok
  have HP : Hid (∀ w', Below w.heap.size w w' → HmPost ps n w (.returned (.bool true)) w') := fun w' hb => ⟨⟨true, rfl, fun h => by cases h⟩, hb⟩
  have HF : Hid ((n ≤ 200 ∧ LightP ps) → ∀ w', Below w.heap.size w w' → HmPost ps n w (.returned (.bool false)) w') := fun h w' hb => ⟨⟨false, rfl, fun _ => h⟩, hb⟩
  have Hc : Hid (∀ w', Below W1.heap.size W1 w' → w'.cell? ⟨w.heap.size, 0, none⟩ = some (.slice A n c) ∧ w'.cell? ⟨w.heap.size, 1, none⟩ = some (.slice B k d)) := fun w' hb => by
    have q := (hb.block w.heap.size (by omega)).trans hrow
    exact ⟨cell_of_row _ _ _ _ _ _ q, cell_of_row _ _ _ _ _ _ q⟩
  have HE : Hid (∀ i, i < k → ∃ b off, ∃ s : ByteArray, B = some ⟨b, off, none⟩ ∧ b < w.heap.size ∧ s.size ≤ maxLen ∧ w.cell? ⟨b, off + i * 6 + 5, none⟩ = some (.string s)) := fun i hi => by
    obtain ⟨b, off, p, q1, q2, q3, q4, q5⟩ := se_row hz hsl hi
    exact ⟨b, off, p.v.s, q1, q2, hso p q4, q5 5 _ rfl⟩
  obtain ⟨J, hJ⟩ : ∃ J, HmPost ps n w = J := ⟨_, rfl⟩
  rw [hJ] at HP HF ⊢
  obtain ⟨y0, y1⟩ := Hc.out W1 (Below.refl _ _)
  have HW1 := Lib.hid hW1
  have Hup : Hid (∀ w', Below W1.heap.size W1 w' → Below w.heap.size w w') := fun w' hb => hob.trans (hb.mono (by omega))
  clear hW1 hJ hy hl hok hz hsl hso hrow hob
  go_enter Tryd.func11, Tryd.ntmps11
  go_wp2_with fail
  rw [HW1.out]
  refine HH.out.mono ?_
  rintro e w2 ⟨⟨hv, rfl, hf⟩, hb2⟩
  obtain ⟨z0, z1⟩ := Hc.out w2 hb2
  have Hf := Lib.hid hf
  have hbw := Hup.out _ hb2
  clear y0 y1 hf
  cases hv
  case' true =>
    go_wp2_with fail
    exact HP.out _ hbw
  rcases Decidable.em (200 < k) with hbig | hbig
  · go_wp2_with fail
    exact HP.out _ hbw
  have Hf2 := Lib.hid (HF.out (Hf.out rfl))
  clear Hf HF
  go_wp2_with fail
  go_loopg [3] k (fun g s3 wr => ∃ i : Nat, i + g = k ∧ s3 = .int .i64 i ∧ Below W1.heap.size W1 wr)
  case atStart => exact ⟨0, by omega, rfl, hb2⟩
  case round =>
    obtain ⟨i, hig, rfl, hbr⟩ := hrel
    have Hig := Lib.hid hig
    have hin : i ≤ k := by omega
    obtain ⟨x0, x1⟩ := Hc.out _ hbr
    have hbr' := Hup.out _ hbr
    clear hig z0 z1
    by_cases hlt : i < k
    · obtain ⟨b, off, s, rfl, hb, hsz, q0⟩ := HE.out i hlt
      have q1 := (hbr'.cell (p := ⟨b, off + i * 6 + 5, none⟩) hb).trans q0
      unfold maxLen at hsz
      clear q0 HE
      rcases Decidable.em (2000 < s.size) with g1 | g1
      all_goals
        go_wp2_with fail
        first
          | exact HP.out _ hbr'
          | go_roundg (gk - 1)
      case rel => exact ⟨i + 1, by have := Hig.out; omega, by go_num, hbr⟩
      case measure => have := Hig.out; omega
    · obtain rfl : i = k := by omega
      clear HE
      go_wp2_with fail
      exact Hf2.out _ hbr'
end Go.Proofs.YtkckncggiicciaaDoor
