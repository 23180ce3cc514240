/-
  strconv.ParseUint in base 16: the inner walk.
-/
import Derived.Test.YtpndhfnoppkmgaaDoorText
import Derived.Deep.LoopGhost
import Derived.Lib.ConvBytes
namespace Go.Proofs.YtpndhfnoppkmgaaDoor
open Go.RowKit
set_option maxRecDepth 100000
/-- The letter made small. -/
def lw (c : Nat) : Nat := if c / 32 % 2 = 1 then c else c + 32
theorem or_32 : ∀ c : Nat, c < 256 → bits .or .u8 (c : Int) 32 = ((lw c : Nat) : Int) := by decide +kernel
theorem lw_lt : ∀ c : Nat, c < 256 → lw c < 256 := by decide +kernel
theorem wrap_u64 {n : Int} (h0 : 0 ≤ n) (h1 : n < 18446744073709551616) : IntKind.u64.wrap n = n := by
  rw [IntKind.wrap_u64]
  omega
theorem wrap_u8b {n : Int} (h0 : 0 ≤ n) (h1 : n < 256) : IntKind.u8.wrap n = n := by
  rw [IntKind.wrap_u8]
  omega
/-- A digit's worth; 99: none. -/
def dgV (c : Nat) : Nat := if 48 ≤ c ∧ c ≤ 57 then c - 48 else if 97 ≤ lw c ∧ lw c ≤ 122 then lw c - 87 else 99
def pStep (o : Option Nat) (c : UInt8) : Option Nat := match o with
  | none => none
  | some n => if 16 ≤ dgV c.toNat then none else if 1152921504606846976 ≤ n then none else some (n * 16 + dgV c.toNat)
def pF (l : List UInt8) : Option Nat := l.foldl pStep (some 0)
theorem pF_snoc (l : List UInt8) (c : UInt8) : pF (l ++ [c]) = pStep (pF l) c := by unfold pF; rw [List.foldl_append]; rfl
theorem pF_none {l : List UInt8} {k : Nat} (h : pF (l.take k) = none) : pF l = none := by
  have : ∀ (r : List UInt8), r.foldl pStep none = none := by
    intro r
    induction r with
    | nil => rfl
    | cons c r ih => exact ih
  rw [← List.take_append_drop k l]
  unfold pF at *
  rw [List.foldl_append, h]
  exact this _
/-- The bytes of a string, in a world that came of that in which they were copied. -/
theorem str_cellp (w : World) (s : ByteArray) (j : Nat) (hj : j < s.data.toList.length) : (Lib.bytesWorld w 5 s).cell? ⟨w.heap.size, j, none⟩ = some (.int .u8 (s.data.toList[j].toNat : Int)) := by
  rw [Lib.bytesWorld_cell w 5 s j (by simpa using hj)]
  simp [List.getD, List.getElem?_eq_getElem hj]
theorem str_belowp (w : World) (s : ByteArray) : Below w.heap.size w (Lib.bytesWorld w 5 s) :=
  ⟨by simp [Lib.bytesWorld, World.freeze, World.alloc, World.drew, -World.alloc_eq, -World.drew_eq], by simp [Lib.bytesWorld, World.freeze, World.alloc, World.drew, -World.alloc_eq, -World.drew_eq], by simp [Lib.bytesWorld, World.freeze, World.alloc, World.drew, -World.alloc_eq, -World.drew_eq], by rw [Lib.bytesWorld_size]; omega, fun k hk => Lib.bytesWorld_at_old w _ s k hk⟩
set_option maxHeartbeats 400000 in
theorem lower_any (c : Nat) (w : World) (hc : c < 256) : Calls Tryd.prog 78 #[.int .u8 (c : Int)] w fun e w' => e = .returned (.int .u8 ((lw c : Nat) : Int)) ∧ w = w' := by
  have h := or_32 c hc
  go_enter Tryd.func78, Tryd.ntmps78
  go_wp2_with fail
  go_ret
  exact ⟨rfl, rfl⟩
/-- What a step's numbers are. -/
def MulF (cut mx n d : Nat) : Prop := ¬ (cut : Int) ≤ (n : Int) ∧ IntKind.u64.wrap ((n : Int) * 16) = (n : Int) * 16 ∧ IntKind.u64.wrap ((n : Int) * 16 + (d : Int)) = (n : Int) * 16 + (d : Int) ∧
  ¬ ((n : Int) * 16 + (d : Int) < (n : Int) * 16) ∧ ¬ ((mx : Int) < (n : Int) * 16 + (d : Int))
theorem MulF.make {cut mx n d : Nat} (hc : 1152921504606846976 = cut) (hm : 18446744073709551615 = mx) (hn : ¬ cut ≤ n) (hd : d < 16) : MulF cut mx n d :=
  ⟨by omega, wrap_u64 (by omega) (by omega), wrap_u64 (by omega) (by omega), by omega, by omega⟩
def PintPost (l : List UInt8) (w : World) (e : Ending) (w' : World) : Prop :=
  (∃ v err, e = .returned (.tuple #[.int .u64 (v : Nat), err]) ∧ v < 18446744073709551616 ∧ (pF l = some v ∧ err = .nilIface ∨ pF l = none ∧ ∃ k : Int, (k = 1 ∨ k = 2) ∧ err = .iface 94 (.int .i64 k))) ∧ Below w.heap.size w w'
set_option maxHeartbeats 3200000 in
theorem pint_any (s : ByteArray) (w : World) (hs : s.size ≤ 4000) (h0 : s.size ≠ 0) :
    Calls Tryd.prog 67 #[.string s, .int .i64 16, .int .i64 64] w (PintPost s.data.toList w) := by
  have hcv := fun w => Lib.run_convert_string_bytes (P := Tryd.prog) w 9 49 5 s Tryd.underlying9 Tryd.underlying49 Tryd.underlying5
  have h1 : (s.toList == ([] : List UInt8)) = false := by
    rw [ByteArray.toList_eq]
    cases h : (s.data.toList == ([] : List UInt8))
    · rfl
    · exfalso
      have := eq_of_beq h
      have h2 : s.data.toList.length = 0 := by rw [this]; rfl
      exact h0 (by rw [← h2]; exact (Array.length_toList).symm)
  have hmx : IntKind.u64.wrap (IntKind.u64.wrap 18446744073709551616 - 1) = 18446744073709551615 := by decide
  have HP : Hid (∀ w' v k, pF s.data.toList = none → v < 18446744073709551616 → (k = 1 ∨ k = 2) → Below w.heap.size w w' → PintPost s.data.toList w (.returned (.tuple #[.int .u64 (v : Nat), .iface 94 (.int .i64 k)])) w') := fun w' v k h1 h2 h3 h4 => ⟨⟨v, _, rfl, h2, .inr ⟨h1, k, h3, rfl⟩⟩, h4⟩
  have HQ : Hid (∀ w' v, pF s.data.toList = some v → v < 18446744073709551616 → Below w.heap.size w w' → PintPost s.data.toList w (.returned (.tuple #[.int .u64 (v : Nat), .nilIface])) w') := fun w' v h1 h2 h4 => ⟨⟨v, _, rfl, h2, .inl ⟨h1, rfl⟩⟩, h4⟩
  obtain ⟨J, hJ⟩ : ∃ J, PintPost s.data.toList w = J := ⟨_, rfl⟩
  rw [hJ] at HP HQ ⊢
  clear hJ
  go_enter Tryd.func67, Tryd.ntmps67
  go_wp2_with fail
  obtain ⟨l, hl⟩ : ∃ l, s.data.toList = l := ⟨_, rfl⟩
  have hlen : l.length = s.size := by rw [← hl]; exact Array.length_toList
  have hrow : ∀ j (hj : j < l.length), (Lib.bytesWorld w 5 s).cell? ⟨w.heap.size, j, none⟩ = some (.int .u8 (l[j].toNat : Int)) := by
    subst hl
    exact fun j hj => str_cellp w s j hj
  have hb3 : Below w.heap.size w (Lib.bytesWorld w 5 s) := str_belowp w s
  rw [hl] at HP HQ
  obtain ⟨w3, hw3⟩ : ∃ w3, Lib.bytesWorld w 5 s = w3 := ⟨_, rfl⟩
  rw [hw3] at hrow hb3 ⊢
  obtain ⟨C, hC⟩ : ∃ C, grownCap w s.size 0 5 = C := ⟨_, rfl⟩
  rw [hC]
  have Hrow := Lib.hid hrow
  have Hlen := Lib.hid hlen
  clear hw3 hC hcv hrow hlen hl h1 hmx
  obtain ⟨cut, hcE⟩ : ∃ cut : Nat, 1152921504606846976 = cut := ⟨_, rfl⟩
  obtain ⟨mx, hmE⟩ : ∃ mx : Nat, 18446744073709551615 = mx := ⟨_, rfl⟩
  rw [show (1152921504606846976 : Int) = (cut : Int) by omega, show (18446744073709551615 : Int) = (mx : Int) by omega]
  have HcE := Lib.hid hcE
  have HmE := Lib.hid hmE
  clear hcE hmE
  go_loopg [12, 13, 15, 16, 17, 101] s.size (fun g s12 s13 _ _ _ s101 wr => ∃ i n : Nat, i + g = s.size ∧ s101 = .int .i64 i ∧ s12 = .bool false ∧ s13 = .int .u64 n ∧ n < 18446744073709551616 ∧ pF (l.take i) = some n ∧ ∃ q, wr = w3.drewN q)
  case atStart => exact ⟨0, 0, by omega, rfl, rfl, rfl, by omega, rfl, 0, rfl⟩
  case round =>
    obtain ⟨i, n, hig, rfl, rfl, rfl, hn, hF, q0, hq0⟩ := hrel
    have Hq := Lib.hid hq0
    have hbr : Below w.heap.size w wr := by rw [hq0]; exact hb3.trans ⟨rfl, rfl, rfl, Nat.le_refl _, fun _ _ => rfl⟩
    clear hq0
    have hin : i ≤ s.size := by omega
    have Hig := Lib.hid hig
    have HF := Lib.hid hF
    clear hig hF
    by_cases hlt : i < s.size
    · have hil : i < l.length := by rw [Hlen.out]; exact hlt
      obtain ⟨c, hc⟩ : ∃ c, l[i]'hil = c := ⟨_, rfl⟩
      have hcell : wr.cell? ⟨w.heap.size, i, none⟩ = some (.int .u8 (c.toNat : Int)) := by
        rw [← hc, Hq.out]
        exact Hrow.out i hil
      have Hst : Hid (pF (l.take (i + 1)) = pStep (some n) c) := by
        unfold Hid
        rw [List.take_succ_eq_append_getElem hil, pF_snoc, HF.out, hc]
      clear hc
      have hc256 := c.toNat_lt
      obtain ⟨x, hx⟩ : ∃ x, c.toNat = x := ⟨_, rfl⟩
      rw [hx] at hcell hc256
      have HL : Hid (∀ w, Calls Tryd.prog 78 #[.int .u8 (x : Int)] w fun e w' => e = .returned (.int .u8 ((lw x : Nat) : Int)) ∧ w = w') := fun w => lower_any x w hc256
      have Hx := Lib.hid hx
      clear hx
      rcases Decidable.em (48 ≤ x ∧ x ≤ 57) with xa | xa
      · obtain ⟨xa, xb⟩ := xa
        obtain ⟨d, hd⟩ : ∃ d, x - 48 = d := ⟨_, rfl⟩
        have Hdg : Hid (dgV x = d) := by unfold Hid dgV; rw [if_pos ⟨xa, xb⟩, hd]
        have hsub : IntKind.u8.wrap ((x : Int) - 48) = (d : Int) := by rw [wrap_u8b (by omega) (by omega)]; omega
        have hd16 : ¬ 16 ≤ d := by omega
        clear hd
        rcases Decidable.em (cut ≤ n) with hcut | hcut
        · have HN : Hid (pF l = none) := by
            refine pF_none (k := i + 1) ?_
            rw [Hst.out]
            unfold pStep
            dsimp only
            rw [Hx.out, if_neg (by have := Hdg.out; omega), if_pos (by rw [HcE.out]; exact hcut)]
          have hcut' : (cut : Int) ≤ (n : Int) := by omega
          clear hn hcut
          go_wp2_with (go_at_call 78; refine (HL.out _).mono ?_; rintro e w1 ⟨rfl, rfl⟩)
          exact HP.out _ mx 1 HN.out (by have := HmE.out; omega) (.inl rfl) hbr
        · have HM : MulF cut mx n d := MulF.make HcE.out HmE.out hcut (by omega)
          obtain ⟨hcut', hmul, hadd, hl1, hl2⟩ := HM
          have HS : Hid (pF (l.take (i + 1)) = some (n * 16 + d)) := by
            unfold Hid
            rw [Hst.out]
            unfold pStep
            dsimp only
            rw [Hx.out, if_neg (by have := Hdg.out; omega), if_neg (by rw [HcE.out]; exact hcut), Hdg.out]
          have Hlt : Hid (n * 16 + d < 18446744073709551616) := by unfold Hid; have := HcE.out; omega
          clear hn hcut
          go_wp2_with (go_at_call 78; refine (HL.out _).mono ?_; rintro e w1 ⟨rfl, rfl⟩)
          go_roundg (gk - 1)
          case rel => exact ⟨i + 1, n * 16 + d, by have := Hig.out; omega, by go_num, rfl, by go_num, Hlt.out, HS.out, q0, Hq.out⟩
          case measure => have := Hig.out; omega

      have hlw := lw_lt x hc256
      rcases Decidable.em (97 ≤ lw x ∧ lw x ≤ 122) with xb | xb
      · have Hdg0 : Hid (dgV x = lw x - 87) := by unfold Hid dgV; rw [if_neg xa, if_pos xb]
        have hx95 : ¬ x = 95 := by rintro rfl; revert xb; decide
        obtain ⟨y, hy⟩ : ∃ y, lw x = y := ⟨_, rfl⟩
        rw [hy] at HL xb Hdg0 hlw
        clear hy
        obtain ⟨xb, xc⟩ := xb
        obtain ⟨d, hd⟩ : ∃ d, y - 87 = d := ⟨_, rfl⟩
        have Hdg : Hid (dgV x = d) := by unfold Hid; rw [Hdg0.out, hd]
        have hs1 : IntKind.u8.wrap ((y : Int) - 97) = (y : Int) - 97 := wrap_u8b (by omega) (by omega)
        have hs2 : IntKind.u8.wrap ((y : Int) - 97 + 10) = (d : Int) := by rw [wrap_u8b (by omega) (by omega)]; omega
        clear hd Hdg0
        rcases Decidable.em (x < 48) with xd | xd
        case' inr => have xe : 57 < x := by omega
        all_goals
          clear xa
          rcases Decidable.em (16 ≤ d) with hd16 | hd16
          · have HN : Hid (pF l = none) := by
              refine pF_none (k := i + 1) ?_
              rw [Hst.out]
              unfold pStep
              dsimp only
              rw [Hx.out, if_pos (by have := Hdg.out; omega)]
            clear hn
            go_wp2_with (go_at_call 78; refine (HL.out _).mono ?_; rintro e w1 ⟨rfl, rfl⟩)
            exact HP.out _ 0 2 HN.out (by omega) (.inr rfl) hbr
          rcases Decidable.em (cut ≤ n) with hcut | hcut
          · have HN : Hid (pF l = none) := by
              refine pF_none (k := i + 1) ?_
              rw [Hst.out]
              unfold pStep
              dsimp only
              rw [Hx.out, if_neg (by have := Hdg.out; omega), if_pos (by rw [HcE.out]; exact hcut)]
            have hcut' : (cut : Int) ≤ (n : Int) := by omega
            clear hn hcut
            go_wp2_with (go_at_call 78; refine (HL.out _).mono ?_; rintro e w1 ⟨rfl, rfl⟩)
            exact HP.out _ mx 1 HN.out (by have := HmE.out; omega) (.inl rfl) hbr
          · have HM : MulF cut mx n d := MulF.make HcE.out HmE.out hcut (by omega)
            obtain ⟨hcut', hmul, hadd, hl1, hl2⟩ := HM
            have HS : Hid (pF (l.take (i + 1)) = some (n * 16 + d)) := by
              unfold Hid
              rw [Hst.out]
              unfold pStep
              dsimp only
              rw [Hx.out, if_neg (by have := Hdg.out; omega), if_neg (by rw [HcE.out]; exact hcut), Hdg.out]
            have Hlt : Hid (n * 16 + d < 18446744073709551616) := by unfold Hid; have := HcE.out; omega
            clear hn hcut
            go_wp2_with (go_at_call 78; refine (HL.out _).mono ?_; rintro e w1 ⟨rfl, rfl⟩)
            go_roundg (gk - 1)
            case rel => exact ⟨i + 1, n * 16 + d, by have := Hig.out; omega, by go_num, rfl, by go_num, Hlt.out, HS.out, q0, Hq.out⟩
            case measure => have := Hig.out; omega

      · have Hdg : Hid (dgV x = 99) := by unfold Hid dgV; rw [if_neg xa, if_neg xb]
        obtain ⟨y, hy⟩ : ∃ y, lw x = y := ⟨_, rfl⟩
        rw [hy] at HL xb hlw
        clear hy
        rcases Decidable.em (x = 95) with hx95 | hx95
        · have xe : 57 < x := by omega
          clear xa
          rcases Decidable.em (y < 97) with xf | xf
          case' inr => have xg : 122 < y := by omega
          all_goals
            clear xb
            have HN : Hid (pF l = none) := by
              refine pF_none (k := i + 1) ?_
              rw [Hst.out]
              unfold pStep
              dsimp only
              rw [Hx.out, if_pos (by have := Hdg.out; omega)]
            clear hn
            subst hx95
            go_wp2_with (go_at_call 78; refine (HL.out _).mono ?_; rintro e w1 ⟨rfl, rfl⟩)
            exact HP.out _ 0 2 HN.out (by omega) (.inr rfl) hbr
        rcases Decidable.em (x < 48) with xd | xd
        case' inr => have xe : 57 < x := by omega
        all_goals
          clear xa
          rcases Decidable.em (y < 97) with xf | xf
          case' inr => have xg : 122 < y := by omega
          all_goals
            clear xb
            have HN : Hid (pF l = none) := by
              refine pF_none (k := i + 1) ?_
              rw [Hst.out]
              unfold pStep
              dsimp only
              rw [Hx.out, if_pos (by have := Hdg.out; omega)]
            clear hn
            go_wp2_with (go_at_call 78; refine (HL.out _).mono ?_; rintro e w1 ⟨rfl, rfl⟩)
            exact HP.out _ 0 2 HN.out (by omega) (.inr rfl) hbr
    · have HF2 : Hid (pF l = some n) := by
        have := HF.out
        rwa [List.take_of_length_le (by have := Hlen.out; omega)] at this
      have Hn := Lib.hid hn
      clear hn
      go_wp2_with fail
      exact HQ.out _ n HF2.out Hn.out hbr
end Go.Proofs.YtpndhfnoppkmgaaDoor
