/-
  The walk of skerrylaw03.FrameExact.
-/
import Derived.Test.YtbhckbhdjdmgaaaWakes
import Derived.Test.YtbhckbhdjdmgaaaRefD
import Derived.Test.YtbhckbhdjdmgaaaUnlike
namespace Go.Proofs.Ytbhckbhdjdmgaaa
open Go.RowKit
/-- The two answers of First, the code's and the page's, made alike: a row of bytes, a length, an error. -/
def FirstVal (w : World) (r : Option (List UInt8 × Nat)) (e : Ending) (w' : World) : Prop :=
  Below w.heap.size w w' ∧ ∃ v, e = .returned (.tuple #[v, .int .i64 ((r.map (·.2)).getD 0 : Nat), .int .i64 (if r.isSome then 0 else 3)]) ∧ OwnB w' w.heap.size v ((r.map (·.1)).getD [])
theorem FirstPost.val {w w' : World} {r : Option (List UInt8 × Nat)} {e : Ending} (h : FirstPost w r e w') : FirstVal w r e w' := by
  obtain ⟨h1, h2⟩ := h
  refine ⟨h1, ?_⟩
  cases r with
  | none => exact ⟨_, h2, World.ownsRow_nil _ _ _ _⟩
  | some r => obtain ⟨v, h3, h4⟩ := h2; exact ⟨v, h3, h4⟩
def RFirstVal (w : World) (r : Option (List UInt8 × Nat)) (e : Ending) (w' : World) : Prop :=
  Below w.heap.size w w' ∧ ∃ v, e = .returned (.tuple #[v, .int .i64 ((r.map (·.2)).getD 0 : Nat), .bool r.isSome]) ∧ OwnB w' w.heap.size v ((r.map (·.1)).getD [])
theorem RFirstPost.val {w w' : World} {r : Option (List UInt8 × Nat)} {e : Ending} (h : RFirstPost w r e w') : RFirstVal w r e w' := by
  obtain ⟨h1, h2⟩ := h
  refine ⟨h1, ?_⟩
  cases r with
  | none => exact ⟨_, h2, World.ownsRow_nil _ _ _ _⟩
  | some r => obtain ⟨v, h3, h4⟩ := h2; exact ⟨v, h3, h4⟩
/-- The loop over the rows that were told: each is written over. -/
def SpRel (w0 : World) (v : Value) (us : List Value) (n : Nat) (wr : World) : Prop :=
  Below w0.heap.size w0 wr ∧ wr.ownsRow w0.heap.size 22 1 v n us ∧ ∀ (i : Nat) u, us[i]? = some u → ∃ l, OwnB wr w0.heap.size u l ∧ ∃ A c, u = .slice A l.length c
theorem SpRel.of {w0 wr : World} {v : Value} {ll : List (List UInt8)} (hb : Below w0.heap.size w0 wr) (h : OwnRows wr w0.heap.size v ll) : ∃ us, SpRel w0 v us ll.length wr := by
  obtain ⟨us, h1, h2, _, h3⟩ := h
  refine ⟨us, hb, h1, fun i u hu => ?_⟩
  have hi : i < ll.length := by rw [← h2]; exact (List.getElem?_eq_some_iff.1 hu).1
  have ho := h3 i u (ll[i]) hu (by simp)
  obtain ⟨A, c, e, _⟩ := own_by ho rfl
  exact ⟨_, ho, A, c, e⟩
theorem SpRel.drewN {w0 wr : World} {v : Value} {us : List Value} {n : Nat} (h : SpRel w0 v us n wr) (k : Nat) : SpRel w0 v us n (wr.drewN k) := ⟨below_drewN h.1 k, h.2.1, h.2.2⟩
theorem SpRel.spoil {w0 wr w' : World} {v u : Value} {us : List Value} {n : Nat} {l : List UInt8} (h : SpRel w0 v us n wr) (hu : OwnB wr w0.heap.size u l) (hg : wr.grownBy w' u.ownBlock) (ha : SpoilAll wr w') : SpRel w0 v us n w' := by
  obtain ⟨h1, h2, h3⟩ := h
  refine ⟨h1.grown hg h1.size (fun k hk => (hu.lt k hk).1), h2.kept hg ?_, fun i x hx => ?_⟩
  · rcases own_ne (e' := 5) h2 hu (by decide) with h | h
    · exact .inl h
    · exact .inr h
  · obtain ⟨l1, ho, A, c, e⟩ := h3 i x hx
    obtain ⟨l2, e2, ho2⟩ := ha _ _ _ ho
    exact ⟨l2, ho2, A, c, by rw [e2]; exact e⟩
theorem SpRel.cell {w0 wr : World} {v : Value} {us : List Value} {n k : Nat} (h : SpRel w0 v us n wr) (hk : k < n) :
    ∃ b off cap, v = .slice (some ⟨b, off, none⟩) n cap ∧ n ≤ 9223372036854775807 ∧ ∃ A m c l, wr.cell? ⟨b, off + k, none⟩ = some (.slice A m c) ∧ OwnB wr w0.heap.size (.slice A m c) l ∧ l.length = m := by
  obtain ⟨h1, h2, h3⟩ := h
  obtain ⟨A0, cap, rfl, hr⟩ := Rd.of_own h2
  obtain ⟨hl, hc1, hc2, hcell⟩ := hr
  obtain ⟨b, off, rfl, _, hc⟩ := hcell (by omega)
  have hk' : k < us.length := by omega
  have hu : us[k]? = some us[k] := by simp
  obtain ⟨l, ho, A, c, e⟩ := h3 k _ hu
  refine ⟨b, off, cap, rfl, by unfold maxLen at hc2; omega, A, l.length, c, l, ?_, ?_, rfl⟩
  · rw [hc k _ hu, e]
  · rw [← e]; exact ho
set_option maxRecDepth 100000 in
set_option maxHeartbeats 6400000 in
theorem exact_walk (A A' : Option Addr) (n cap n' cap' : Nat) (p m : List UInt8) (w : World) (hb : By w w.heap.size A n cap p) (hm : By w w.heap.size A' n' cap' m) :
    Calls Try.prog 6 #[.slice A n cap, .slice A' n' cap'] w fun e w' => e = .returned (.bool true) ∧ Below w.heap.size w w' := by
  have h1 : n ≤ 9223372036854775807 := by have := hb.2.1; have := hb.2.2.1; unfold maxLen at this; omega
  have h2 : n' ≤ 9223372036854775807 := by have := hm.2.1; have := hm.2.2.1; unfold maxLen at this; omega
  by_cases hn : 65536 < n
  · go_enter Try.func6, Try.ntmps6
    go_wp2_with fail
    go_ret
    exact ⟨rfl, Below.refl _ _⟩
  by_cases hn' : 65536 < n'
  · go_enter Try.func6, Try.ntmps6
    go_wp2_with fail
    go_ret
    exact ⟨rfl, Below.refl _ _⟩
  have Hl := Lib.hid hb.len
  have Hl' := Lib.hid hm.len
  obtain ⟨F, hF⟩ : ∃ F, Hid (first m = F) := ⟨_, rfl⟩
  have HFi : Hid (∀ W A n c B, B ≤ W.heap.size → By W B A n c m → Calls Try.prog 11 #[.slice A n c] W (FirstVal W F)) := by
    intro W A n c B h1 h2
    have := (First_any A n c m W B h1 h2).mono fun _ _ h => h.val
    rwa [hF.out] at this
  have HRi : Hid (∀ W A n c B, B ≤ W.heap.size → By W B A n c m → Calls Try.prog 16 #[.slice A n c] W (RFirstVal W F)) := by
    intro W A n c B h1 h2
    have := (RFirst_any A n c m W B h1 h2).mono fun _ _ h => h.val
    rwa [hF.out] at this
  obtain ⟨N, hN⟩ : ∃ N, Hid ((F.map (·.2)).getD 0 = N) := ⟨_, rfl⟩
  obtain ⟨P, hP⟩ : ∃ P, Hid ((F.map (·.1)).getD [] = P) := ⟨_, rfl⟩
  obtain ⟨D, hD⟩ : ∃ D, Hid (F.isSome = D) := ⟨_, rfl⟩
  have hNN : ((N : Int) != (N : Int)) = false := by simp
  obtain ⟨S, hS⟩ : ∃ S, Hid ((Fr.sum p).toNat = S) := ⟨_, rfl⟩
  have hSS : ((S : Int) != (S : Int)) = false := by simp
  obtain ⟨Z, hZ⟩ : ∃ Z, Hid (scan m = Z) := ⟨_, rfl⟩
  have hZZ : ((Z.2 : Int) == (Z.2 : Int)) = true := by simp
  obtain ⟨L, hL⟩ : ∃ L, Hid (Z.1.length = L) := ⟨_, rfl⟩
  go_enter Try.func6, Try.ntmps6
  go_wp2_with fail
  refine (Twin_any _ _ _ _ _ _ hb (by omega)).mono ?_
  rintro e w1 ⟨v1, rfl, ho1, hb1⟩
  obtain ⟨A1, c1, rfl, hy1⟩ := own_by ho1 Hl.out
  go_wp2_with fail
  refine (Twin_any _ _ _ _ _ _ (hm.below hb1 (Nat.le_refl _)) (by omega)).mono ?_
  rintro e w2 ⟨v2, rfl, ho2, hb2⟩
  obtain ⟨A2, c2, rfl, hy2⟩ := own_by ho2 Hl'.out
  have hbw2 : Below w.heap.size w w2 := hb1.trans (hb2.mono hb1.size)
  replace hy1 : By w2 w2.heap.size A1 n c1 p := Rd.mono (hy1.below hb2 (Nat.le_refl _)) hb2.size
  by_cases hlong : 16384 < n
  case' pos =>
    go_wp2_with fail
    refine (Seal_long _ _ _ _ hlong (by simp only [maxLen]; omega)).mono ?_
    rintro e w5 ⟨rfl, rfl⟩
    obtain ⟨w5, hw5⟩ : ∃ w5, w2 = w5 := ⟨_, rfl⟩
    have hb5 : Below w2.heap.size w2 w5 := by rw [← hw5]; exact Below.refl _ _
    rw [hw5]
    clear hw5
  case' neg =>
    go_wp2_with fail
    refine (Seal_any _ _ _ _ _ _ (Nat.le_refl _) hy1 (by omega)).mono ?_
    rintro e w3 ⟨v3, rfl, ho3, hb3⟩
    obtain ⟨A3, c3, rfl, hy3⟩ := own_by ho3 (n := n + 9) (by rw [frm_length, Hl.out])
    go_wp2_with fail
    refine (RSeal_any _ _ _ _ _ _ (Nat.le_trans hbw2.size hb3.size) ((hb.below hbw2 (Nat.le_refl _)).below hb3 hbw2.size) (by omega)).mono ?_
    rintro e w4 ⟨v4, rfl, ho4, hb4⟩
    obtain ⟨A4, c4, rfl, hy4⟩ := own_by ho4 (n := n + 9) (by rw [frm_length, Hl.out])
    go_wp2_with fail
    refine (Bytes_same _ _ _ _ _ _ _ _ _ _ (hy3.below hb4 (Nat.le_refl _)) hy4).mono ?_
    rintro e w5' ⟨rfl, k5, rfl⟩
    have hb5 : Below w2.heap.size w2 (w4.drewN k5) := below_drewN (hb3.trans (hb4.mono hb3.size)) k5
    generalize w4.drewN k5 = w5 at *
  all_goals
    have hbw5 : Below w.heap.size w w5 := hbw2.trans (hb5.mono hbw2.size)
    have hy25 := hy2.below hb5 (Nat.le_refl _)
    go_wp2_with fail
    refine (HFi.out _ _ _ _ _ hb5.size hy25).mono ?_
    rintro e w6 ⟨hb6, v6, rfl, ho6⟩
    rw [hP.out] at ho6
    rw [hN.out, hD.out]
    obtain ⟨A6, c6, rfl, hy6⟩ := own_by ho6 rfl
    have hbw6 : Below w.heap.size w w6 := hbw5.trans (hb6.mono hbw5.size)
    clear HFi hF
    cases D
  all_goals
    simp only [Bool.false_eq_true, if_false, if_true]
    go_wp2_with fail
    refine (HRi.out _ _ _ _ _ hbw6.size (hm.below hbw6 (Nat.le_refl _))).mono ?_
    rintro e w7 ⟨hb7, v7, rfl, ho7⟩
    rw [hP.out] at ho7
    rw [hN.out, hD.out]
    obtain ⟨A7, c7, rfl, hy7⟩ := own_by ho7 rfl
    have hbw7 : Below w.heap.size w w7 := hbw6.trans (hb7.mono hbw6.size)
    have hb57 : Below w5.heap.size w5 w7 := hb6.trans (hb7.mono hb6.size)
    have hb27 : Below w2.heap.size w2 w7 := hb5.trans (hb57.mono hb5.size)
    have hy17 := hy1.below hb27 (Nat.le_refl _)
    clear HRi
    go_wp2_with fail
    refine (Sum_any _ _ _ _ _ _ hb27.size hy17).mono ?_
    rintro e w8 ⟨rfl, hb8⟩
    rw [hS.out]
    have hbw8 : Below w.heap.size w w8 := hbw7.trans (hb8.mono hbw7.size)
    have hb28 : Below w2.heap.size w2 w8 := hb27.trans (hb8.mono hb27.size)
    have hb58 : Below w5.heap.size w5 w8 := hb57.trans (hb8.mono hb57.size)
    go_wp2_with fail
    refine (RSum_any _ _ _ _ _ _ (hb.below hbw8 (Nat.le_refl _))).mono ?_
    rintro e w8' ⟨rfl, rfl⟩
    rw [hS.out]
    have ho6' := (ho6.below hb7).below hb8
    go_wp2_with fail
    refine (Bytes_same _ _ _ _ _ _ _ _ _ _ ((hy6.below hb7 (Nat.le_refl _)).below hb8 hb7.size) (hy7.below hb8 (Nat.le_refl _))).mono ?_
    rintro e w9 ⟨rfl, k9, rfl⟩
    obtain ⟨w9, hw9⟩ : ∃ w9, w8.drewN k9 = w9 := ⟨_, rfl⟩
    have hbw9 : Below w.heap.size w w9 := by rw [← hw9]; exact below_drewN hbw8 k9
    have hb29 : Below w2.heap.size w2 w9 := by rw [← hw9]; exact below_drewN hb28 k9
    have hb59 : Below w5.heap.size w5 w9 := by rw [← hw9]; exact below_drewN hb58 k9
    replace ho6' : OwnB w9 w5.heap.size (.slice A6 P.length c6) P := by rw [← hw9]; exact ho6'
    rw [hw9]
    clear hw9
    go_wp2_with fail
    refine (Spoil_any _ _ _ _ _ _ ho6' rfl).mono ?_
    rintro e w10 ⟨rfl, hg10, _⟩
    have hb510 : Below w5.heap.size w5 w10 := hb59.grown hg10 hb59.size (fun k hk => (ho6'.lt k hk).1)
    have hbw10 : Below w.heap.size w w10 := hbw9.grown hg10 hbw9.size (fun k hk => Nat.le_trans hbw5.size (ho6'.lt k hk).1)
    have hb210 : Below w2.heap.size w2 w10 := hb29.grown hg10 hb29.size (fun k hk => Nat.le_trans hb5.size (ho6'.lt k hk).1)
    go_wp2_with fail
    refine (Scan_any _ _ _ _ _ _ hb210.size (hy2.below hb210 (Nat.le_refl _)) (by omega)).mono ?_
    rw [hZ.out]
    rintro e w11 ⟨v11, rfl, ho11, hb11⟩
    have hbw11 : Below w.heap.size w w11 := hbw10.trans (hb11.mono hbw10.size)
    have hb211 : Below w2.heap.size w2 w11 := hb210.trans (hb11.mono hb210.size)
    obtain ⟨A11, c11, rfl, hr11⟩ := ho11.rd hL.out
    go_wp2_with fail
    refine (RScan_any _ _ _ _ _ _ hbw11.size (hm.below hbw11 (Nat.le_refl _)) (by omega)).mono ?_
    rw [hZ.out]
    rintro e w12 ⟨v12, rfl, ho12, hb12⟩
    have hbw12 : Below w.heap.size w w12 := hbw11.trans (hb12.mono hbw11.size)
    have hb212 : Below w2.heap.size w2 w12 := hb211.trans (hb12.mono hb211.size)
    have hb1012 : Below w10.heap.size w10 w12 := hb11.trans (hb12.mono hb11.size)
    obtain ⟨A12, c12, rfl, hr12⟩ := ho12.rd hL.out
    go_wp2_with fail
    refine (Rows_same _ _ _ _ _ _ _ _ _ _ (hr11.below hb12 (Nat.le_refl _)) hr12).mono ?_
    rintro e w13 ⟨rfl, k13, rfl⟩
    obtain ⟨us, hsp⟩ := SpRel.of hb1012 (ho11.below hb12)
    replace hsp := hsp.drewN k13
    rw [hL.out] at hsp
    obtain ⟨w13, hw13⟩ : ∃ w13, w12.drewN k13 = w13 := ⟨_, rfl⟩
    rw [hw13] at hsp ⊢
    clear hw13
    go_wp2_with fail
    go_loopg [16] L (fun q s16 wr => ∃ k : Nat, k + q = L ∧ s16 = .int .i64 k ∧ SpRel w10 (.slice A11 L c11) us L wr)
    case atStart => exact ⟨0, by omega, rfl, hsp⟩
    case round =>
      obtain ⟨k, hk, rfl, hr⟩ := hrel
      have hkL : k ≤ L := by omega
      have Hk := Lib.hid hk
      clear hk
      by_cases hlt : k < L
      · obtain ⟨b, off, cap, e0, hLm, B1, m1, d1, l1, hcell, hown, hlen⟩ := hr.cell hlt
        injection e0 with e1 e2 e3
        subst e1
        clear e2 e3
        go_wp2_with fail
        refine (Spoil_any _ _ _ _ _ _ hown hlen).mono ?_
        rintro e wz ⟨rfl, hgz, haz⟩
        have hrz := hr.spoil hown hgz haz
        go_wp2_with fail
        go_roundg (gk - 1)
        case rel => exact ⟨k + 1, by have := Hk.out; omega, by go_num, hrz⟩
        case measure => have := Hk.out; omega
      · have hbwr : Below w.heap.size w wr := hbw10.trans (hr.1.mono hbw10.size)
        have hb2r : Below w2.heap.size w2 wr := hb210.trans (hr.1.mono hb210.size)
        go_wp2_with fail
        refine (Bytes_same _ _ _ _ _ _ _ _ _ _ (hy1.below hb2r (Nat.le_refl _)) (hb.below hbwr (Nat.le_refl _))).mono ?_
        rintro e wa ⟨rfl, ka, rfl⟩
        go_wp2_with fail
        refine (Bytes_same _ _ _ _ _ _ _ _ _ _ (hy2.below (below_drewN hb2r ka) (Nat.le_refl _)) (hm.below (below_drewN hbwr ka) (Nat.le_refl _))).mono ?_
        rintro e wc ⟨rfl, kc, rfl⟩
        go_wp2_with fail
        refine (wakes_any _).mono ?_
        rintro e wd ⟨rfl, hbd⟩
        go_wp2_with fail
        go_ret
        have hbf := below_drewN hbwr (ka + kc)
        exact ⟨rfl, hbf.trans (hbd.mono hbf.size)⟩
end Go.Proofs.Ytbhckbhdjdmgaaa
