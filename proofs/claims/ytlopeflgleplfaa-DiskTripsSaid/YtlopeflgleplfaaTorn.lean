/-
  The walk of DiskTorn.
-/
import Derived.Test.YtlopeflgleplfaaAgain
import Derived.Deep.RegionHeld3
namespace Go.Proofs.Ytlopeflgleplfaa
open Go.RowKit
theorem DS.append_off (s : DS) (l : List UInt8) (h : s.off = true) : s.append l = (4, s) := by simp [DS.append, h]
theorem DS.replace_off (s : DS) (l : List UInt8) (h : s.off = true) : s.replace l = (4, s) := by simp [DS.replace, h]
theorem DS.sync_off (s : DS) (h : s.off = true) : s.sync = (4, s) := by simp [DS.sync, h]
/-- Bytes appended in a region that draws, by a guarded operation. -/
theorem step_appBw {w : World} {ops : Array Oper} {o : Oper} {a : Act} {K : Act → World → Prop} {Q : Exit → Act → World → Prop} {E : Prop} (hw : Region.wanted o (yielded ops a.tmps) = true) (s x : Operand)
    (ho : o.op = .call { callee := .builtin .append, args := #[s, x], argTypes := #[22, 22] })
    (base : Nat) (v : Value) (l : List UInt8) (hs : a.eval s = v) (hown : OwnB w base v l)
    (B : Nat) (A : Option Addr) (m c : Nat) (l' : List UInt8) (hx : a.eval x = .slice A m c) (hr : By w B A m c l')
    (hbytes : l.length + m ≤ 140737488355328) (hbase : base ≤ w.heap.size)
    (h : ∀ v' w', OwnB w' base v' (l ++ l') → w.grownBy w' v.ownBlock → K (a.put o.dst v') w') :
    if Region.wanted o (yielded ops a.tmps) = true then Oper.wp Try.prog o a w K Q else E := by
  rw [if_pos hw]
  exact wp_appB s x ho base v l hs hown B A m c l' hx hr hbytes hbase h
set_option maxHeartbeats 1600000 in
theorem torn_walk (A0 : Option Addr) (n0 c0 : Nat) (l0 : List UInt8) (A1 : Option Addr) (n1 c1 : Nat) (l1 : List UInt8) (keep : Int) (W : World) (hy0 : By W W.heap.size A0 n0 c0 l0) (hy1 : By W W.heap.size A1 n1 c1 l1) (hk : -9223372036854775808 ≤ keep ∧ keep ≤ 9223372036854775807) :
    Calls Try.prog 4 #[.slice A0 n0 c0, .slice A1 n1 c1, .int .i64 keep] W fun e w' => e = .returned (.bool true) ∧ Below W.heap.size W w' := by
  have hn0 := hy0.n_le
  have hn1 := hy1.n_le
  by_cases h0 : 2000 < n0
  · go_enter Try.func4, Try.ntmps4
    go_wp2_with fail
    go_ret
    exact ⟨rfl, Below.refl _ _⟩
  by_cases h1 : 2000 < n1
  · go_enter Try.func4, Try.ntmps4
    go_wp2_with fail
    go_ret
    exact ⟨rfl, Below.refl _ _⟩
  have Hl0 : Hid (l0.length = n0) := hy0.len
  have Hl1 : Hid (l1.length = n1) := hy1.len
  obtain ⟨N, hN⟩ : ∃ N : Nat, (min (max keep 0) (n1 : Int)).toNat = N := ⟨_, rfl⟩
  have hmin : (if (n1 : Int) < (if keep < 0 then 0 else keep) then (n1 : Int) else (if keep < 0 then 0 else keep)) = (N : Int) := by omega
  have hN1 : N ≤ n1 := by omega
  obtain ⟨A9, c9, hsl9, hy9⟩ := By.cutH (P := Try.prog) 22 5 Try.underlying22 size_u8 hy1 N (N : Int) rfl hN1
  obtain ⟨L9, hL9⟩ : ∃ L9, Hid (l1.take N = L9) := ⟨_, rfl⟩
  rw [hL9.out] at hy9
  have HN := Lib.hid hN
  clear hN
  go_enter Try.func4, Try.ntmps4
  go_wp2_with fail
  refine (DQ.new 65536 W (by omega)).mono ?_
  rintro e w1 ⟨rfl, q1⟩
  go_wp2_with fail
  refine (DQ.append _ _ _ _ _ _ _ _ _ l0 q1 (hy0.below q1.below (Nat.le_refl _))).mono ?_
  rw [show (DS.new 65536).append l0 = _ from DS.append_ok 65536 0 [] l0 0 (by simp [Hl0.out]; omega)]
  rintro e w2 ⟨rfl, q2⟩
  go_wp2_with fail
  refine (DQ.sync _ _ _ _ _ q2).mono ?_
  rw [DS.sync_ok]
  rintro e w3 ⟨rfl, q3⟩
  go_wp2_with fail
  refine (DQ.append _ _ _ _ _ _ _ _ _ l1 q3 (hy1.below q3.below (Nat.le_refl _))).mono ?_
  rw [DS.append_ok _ _ _ l1 _ (by simp [Hl0.out, Hl1.out]; omega)]
  rintro e w4 ⟨rfl, q4⟩
  go_wp2_with fail
  refine (DQ.crash _ _ _ _ _ keep q4).mono ?_
  have ec : DS.crash ⟨65536, [] ++ l0 ++ l1, ([] ++ l0 : List UInt8).length, false, 0, 0⟩ keep = ⟨65536, l0 ++ L9, n0 + N, true, 0, 0⟩ := by
    have es : DS.stays ⟨65536, [] ++ l0 ++ l1, ([] ++ l0 : List UInt8).length, false, 0, 0⟩ keep = n0 + N := by
      have := HN.out
      simp [DS.stays, Hl0.out, Hl1.out]
      omega
    have et : ([] ++ l0 ++ l1).take (n0 + N) = l0 ++ L9 := by rw [List.nil_append, ← Hl0.out, List.take_length_add_append, hL9.out]
    simp only [DS.crash, es, et]
    rfl
  rw [ec]
  clear ec
  rintro e w5 ⟨rfl, q5⟩
  go_wp2_with fail
  all_goals
    refine (DQ.isOff _ _ _ _ _ q5).mono ?_
    rintro e w6 ⟨rfl, rfl⟩
    go_wp2_with fail
    refine (DQ.len _ _ _ _ _ q5).mono ?_
    rw [show (DS.mk 65536 (l0 ++ L9) (n0 + N) true 0 0).file.length = n0 + N by have := hy9.len; simp [Hl0.out]; omega]
    rintro e w6 ⟨rfl, rfl⟩
    go_wp2_with fail
    refine (DQ.append _ _ _ _ _ _ _ _ _ l1 q5 (hy1.below q5.below (Nat.le_refl _))).mono ?_
    rw [DS.append_off _ _ rfl]
    rintro e w6 ⟨rfl, q6⟩
    go_wp2_with fail
    refine (DQ.sync _ _ _ _ _ q6).mono ?_
    rw [DS.sync_off _ rfl]
    rintro e w7 ⟨rfl, q7⟩
    go_wp2_with fail
    refine (DQ.replace _ _ _ _ _ _ _ _ _ l1 q7 (hy1.below q7.below (Nat.le_refl _)) (Nat.le_refl _)).mono ?_
    rw [DS.replace_off _ _ rfl]
    rintro e w8 ⟨rfl, q8⟩
    go_wp2_with fail
    refine (DQ.crash _ _ _ _ _ _ q8).mono ?_
    rintro e w9 ⟨rfl, q9⟩
    go_wp2_with fail
    refine (DQ.start _ _ _ _ _ q9).mono ?_
    rintro e w10 ⟨rfl, q10⟩
    go_wp2_with fail
    refine (DQ.read _ _ _ _ _ q10).mono ?_
    rintro e w11 ⟨q11, hb11, v11, rfl, ho⟩
    have ho' : OwnB w11 w10.heap.size v11 (l0 ++ L9) := ho
    obtain ⟨A11, c11, rfl, hy11⟩ := own_by ho' (n := n0 + N) (by have := hy9.len; simp [Hl0.out]; omega)
    go_wp2_with fail
    obtain ⟨s11, hs11⟩ : ∃ s11, w11.heap.size = s11 := ⟨_, rfl⟩
    have hW1 := q11.below
    rw [hs11] at hy11
    go_region_held3 (fun w' => Below s11 w11 w') ((first | assumption | exact Below.drew (Below.refl _ _) | exact Below.drew (by assumption))) ((first
        | (go_at_call 22
           refine (Twin_any _ _ _ l0 _ W.heap.size (hy0.below (hW1.trans (Below.mono (by assumption) (by have := hW1.size; omega))) (Nat.le_refl _)) (by omega)).mono ?_
           rintro e w12 ⟨v12, rfl, ho12, hb12⟩
           obtain ⟨A12, c12, rfl, hy12⟩ := own_by ho12 Hl0.out
           have hb12' : Below s11 w11 w12 := Below.trans (by assumption) (hb12.mono (by rw [← hs11]; exact Below.size (by assumption))))
        | (refine step_appBw (by first | rfl | (simp [Region.wanted, yielded]; done)) (.tmp 93) (.tmp 96) rfl s11 (.slice A12 n0 c12) l0 rfl (ho12.base (Nat.le_of_eq hs11.symm)) W.heap.size A9 N c9 L9 rfl (hy9.below (hW1.trans (hb12'.mono (by have := hW1.size; omega))) (Nat.le_refl _)) (by have := hy9.len; simp [Hl0.out]; omega) (by rw [← hs11]; exact Below.size (by assumption)) ?_
           intro v13 w13 ho13 hg13
           have hb13 : Below s11 w11 w13 := hb12'.grown hg13 (by rw [← hs11]; exact hb12'.size) (fun k hk => Nat.le_trans (Nat.le_of_eq hs11.symm) (ho12.lt k hk).1)
           obtain ⟨A13, c13, rfl, hy13⟩ := own_by ho13 (n := n0 + N) (by have := hy9.len; simp [Hl0.out]; omega))
        | (go_at_call 17
           refine (Bytes_same _ _ _ _ _ _ (l0 ++ L9) _ _ _ (hy11.below (by assumption) (Nat.le_refl _)) hy13).mono ?_
           rintro e w14 ⟨rfl, k14, rfl⟩
           have hb14 := below_drewN hb13 k14)
        | (go_at_call 18
           refine (wakes_any _).mono ?_
           rintro e w15 ⟨rfl, hb15⟩
           have hb15' : Below s11 w11 w15 := Below.trans (by assumption) (hb15.mono (by rw [← hs11]; exact Below.size (by assumption))))))
    go_wp2_with fail
    go_ret
    exact ⟨rfl, hW1.trans (Below.mono (by assumption) (by have := hW1.size; omega))⟩
end Go.Proofs.Ytlopeflgleplfaa
