/-
  The walks of frame.Seal, First, Scan.
-/
import Derived.Test.YtbhckbhdjdmgaaaMore
import Derived.Deep.RegionHeld3
namespace Go.Proofs.Ytbhckbhdjdmgaaa
open Go.RowKit
def SealPost (w : World) (l : List UInt8) (e : Ending) (w' : World) : Prop :=
  ∃ v, e = .returned (.tuple #[v, .int .i64 0]) ∧ OwnB w' w.heap.size v l ∧ Below w.heap.size w w'
theorem own_start (w : World) : OwnB (w.alloc (.cells #[.int .u8 157] 5)) w.heap.size (.slice (some ⟨w.heap.size, 0, none⟩) 1 1) [0x9d] :=
  ⟨rfl, .inr ⟨w.heap.size, 1, _, rfl, Nat.le_refl _, heap_alloc_new w _, Nat.le_refl _, by decide, rfl, rfl⟩⟩
set_option maxHeartbeats 400000 in
theorem Seal_long (A : Option Addr) (n cap : Nat) (w : World) (hn : 16384 < n) (hm : n ≤ maxLen) :
    Calls Try.prog 10 #[.slice A n cap] w fun e w' => e = .returned (.tuple #[.slice none 0 0, .int .i64 2]) ∧ w = w' := by
  unfold maxLen at hm
  go_enter Try.func10, Try.ntmps10
  go_wp2_with fail
  go_ret2
  exact ⟨rfl, rfl⟩
set_option maxHeartbeats 400000 in
theorem Seal_any (A : Option Addr) (n cap : Nat) (p : List UInt8) (w : World) (B : Nat) (hB : B ≤ w.heap.size) (hb : By w B A n cap p) (hp : n ≤ 16384) :
    Calls Try.prog 10 #[.slice A n cap] w (SealPost w (frm p)) := by
  obtain ⟨i0, hi, hz0, hz1, hz2⟩ := info_parts info_u8
  go_enter Try.func10, Try.ntmps10
  go_wp2_with fail
  refine (put_any w.heap.size _ _ n (by omega) _ (by simp) (by decide) (own_start w)).mono ?_
  rintro e w1 ⟨v1, rfl, ho1, hg1⟩
  have hbw1 : Below w.heap.size w w1 := ((Below.refl _ _).alloc (Nat.le_refl _) _).grown hg1 (by simp) (by intro k hk; simp [Value.ownBlock] at hk; omega)
  obtain ⟨A1, c1, rfl, hy1⟩ := own_by ho1 (n := 5) rfl
  obtain ⟨A2, c2, hsl, hy2⟩ := By.cut (P := Try.prog) 22 5 Try.underlying22 (by kernel_rfl) hy1 1 5 4 1 5 rfl rfl rfl (by omega)
  replace hy2 : By w1 w1.heap.size A2 4 c2 (hi4 n) := hy2
  go_wp2_with fail
  refine (sum_any _ _ _ _ _ _ _ _ w1 w1.heap.size B (Nat.le_refl _) (Nat.le_trans hB hbw1.size) hy2 (hb.below hbw1 hB)).mono ?_
  rintro e w2 ⟨rfl, hb2⟩
  have hbw2 : Below w.heap.size w w2 := hbw1.trans (hb2.mono hbw1.size)
  go_wp2_with fail
  refine (put_any w.heap.size _ _ _ (BitVec.isLt _) w2 hbw2.size (by simp [hi4]) (own_below ho1 hb2)).mono ?_
  rintro e w3 ⟨v3, rfl, ho3, hg3⟩
  have hbw3 : Below w.heap.size w w3 := hbw2.grown hg3 hbw2.size (fun k hk => ((own_below ho1 hb2).lt k hk).1)
  have hlen : p.length = n := hb.len
  go_wp2_with (
    (at_builtin
     refine wpList_app rfl (.tmp 19) (.tmp 20) _ rfl w.heap.size 5 i0 _ 1 1 Try.underlying22 hi hz0 hz1 hz2 rfl (by omega) v3 9 _ rfl ho3 B A n cap (p.map bv) rfl (hb.below hbw3 hB) ?c2 ?c3 ?c4 ?c5 ?_
     case c2 => intro u hu; obtain ⟨c, _, rfl⟩ := List.mem_map.1 hu; rfl
     case c3 => simp only [maxLen]; omega
     case c4 => omega
     case c5 => exact hbw3.size
     intro v' w' ho hg _))
  go_ret2
  refine ⟨v', rfl, ?_, hbw3.grown hg hbw3.size (fun k hk => (ho3.lt k hk).1)⟩
  unfold OwnB frm
  have e1 : (157 :: (hi4 p.length ++ hi4 (Fr.sum (hi4 p.length ++ p)).toNat ++ p) : List UInt8) = [157] ++ hi4 n ++ hi4 (Fr.sum (hi4 n ++ p)).toNat ++ p := by rw [hlen]; rfl
  have e2 : ([157] ++ hi4 n ++ hi4 (Fr.sum (hi4 n ++ p)).toNat ++ p : List UInt8).length = 9 + n := by rw [List.length_append, hlen]; rfl
  rw [e1, e2, List.map_append]
  exact ho
theorem num_lt (a b c d : UInt8) : num [a, b, c, d] < 4294967296 := by
  have k0 := a.toNat_lt
  have k1 := b.toNat_lt
  have k2 := c.toNat_lt
  have k3 := d.toNat_lt
  simp only [num, List.foldl_cons, List.foldl_nil]
  omega
theorem four {l : List UInt8} (h : l.length = 4) : ∃ a b c d, l = [a, b, c, d] := by
  match l, h with
  | [a, b, c, d], _ => exact ⟨a, b, c, d, rfl⟩
theorem num_lt4 {l : List UInt8} (h : l.length = 4) : num l < 4294967296 := by
  obtain ⟨a, b, c, d, rfl⟩ := four h
  exact num_lt a b c d
theorem get_four (A : Option Addr) (cap : Nat) (l : List UInt8) (w : World) (B : Nat) (hb : By w B A 4 cap l) :
    Calls Try.prog 26 #[.slice A 4 cap] w fun e w' => e = .returned (.int .u32 (num l)) ∧ ∃ k, w' = w.drewN k := by
  obtain ⟨a, b, c, d, rfl⟩ := four hb.len
  exact get_any A cap a b c d w B hb
/-- What First answers. -/
def FirstPost (w : World) (r : Option (List UInt8 × Nat)) (e : Ending) (w' : World) : Prop :=
  Below w.heap.size w w' ∧ match r with
    | none => e = .returned (.tuple #[.slice none 0 0, .int .i64 0, .int .i64 3])
    | some (p, n) => ∃ v, e = .returned (.tuple #[v, .int .i64 n, .int .i64 0]) ∧ OwnB w' w.heap.size v p
theorem FirstPost.no {w w' : World} {e : Ending} {r : Option (List UInt8 × Nat)} (hr : r = none) (hb : Below w.heap.size w w') (he : e = .returned (.tuple #[.slice none 0 0, .int .i64 0, .int .i64 3])) : FirstPost w r e w' := by
  subst hr
  exact ⟨hb, he⟩
set_option maxHeartbeats 800000 in
theorem First_any (A : Option Addr) (n cap : Nat) (l : List UInt8) (w : World) (B : Nat) (hB : B ≤ w.heap.size) (hb : By w B A n cap l) :
    Calls Try.prog 11 #[.slice A n cap] w (FirstPost w (first l)) := by
  obtain ⟨i0, hi, hz0, hz1, hz2⟩ := info_parts info_u8
  have hcap : n ≤ 9223372036854775807 := by have := hb.2.1; have := hb.2.2.1; unfold maxLen at this; omega
  have hlen := hb.len
  by_cases h9 : n < 9
  · have hr : first l = none := by unfold first; rw [if_pos (by omega)]
    have Hr := Lib.hid hr
    clear hr hlen
    go_enter Try.func11, Try.ntmps11
    go_wp2_with fail
    go_ret3
    exact FirstPost.no Hr.out (Below.refl _ _) rfl
  obtain ⟨b, off, rfl, hbB, hc⟩ := hb.at (by omega)
  have c0 := hc 0 (by omega)
  have hl0 : l[0]? = some (l[0]'(by omega)) := by simp
  generalize l[0]'(by omega) = q at c0 hl0
  clear hc
  rw [Nat.add_zero] at c0
  by_cases hq : q = 0x9d
  case neg =>
    have hr : first l = none := by unfold first; rw [if_neg (by omega), if_pos (by rw [hl0]; simpa using hq)]
    have Hr := Lib.hid hr
    have hq1 : ((q.toNat : Int) != 157) = true := by
      have : q.toNat ≠ 157 := fun e => hq (UInt8.toNat_inj.1 e)
      simp; omega
    clear hr hlen hl0 hq
    go_enter Try.func11, Try.ntmps11
    go_wp2_with fail
    go_ret3
    exact FirstPost.no Hr.out (Below.refl _ _) rfl
  subst hq
  replace c0 : w.cell? ⟨b, off, none⟩ = some (.int .u8 157) := c0
  obtain ⟨A1, c1, hsl1, hy1⟩ := By.cut (P := Try.prog) 22 5 Try.underlying22 (by kernel_rfl) hb 1 5 4 1 5 rfl rfl rfl (by omega)
  obtain ⟨A5, c5, hsl5, hy5⟩ := By.cut (P := Try.prog) 22 5 Try.underlying22 (by kernel_rfl) hb 5 9 4 5 9 rfl rfl rfl (by omega)
  obtain ⟨L1, hL1⟩ : ∃ L1, Hid ((l.drop 1).take 4 = L1) := ⟨_, rfl⟩
  obtain ⟨L5, hL5⟩ : ∃ L5, Hid ((l.drop 5).take 4 = L5) := ⟨_, rfl⟩
  rw [hL1.out] at hy1
  rw [hL5.out] at hy5
  have hN := num_lt4 hy1.len
  have hM := num_lt4 hy5.len
  obtain ⟨N, HN⟩ : ∃ N, Hid (num L1 = N) := ⟨_, rfl⟩
  rw [HN.out] at hN
  by_cases hbig : N > 16384 ∨ N > n - 9
  · have hr : first l = none := by
      unfold first
      rw [if_neg (by omega), if_neg (by rw [hl0]; simp), hL1.out, HN.out, hlen, if_pos hbig]
    have Hr := Lib.hid hr
    clear hr hlen hl0 hM
    by_cases hb1 : N > 16384
    all_goals
      have hb2 : 16384 < N ∨ n - 9 < N := hbig
      clear hbig
      go_enter Try.func11, Try.ntmps11
      go_wp2_with (go_at_call 26; refine (get_four _ _ _ _ _ hy1).mono ?_; rintro e w1 ⟨rfl, k, rfl⟩; rw [HN.out])
      go_ret3
      exact FirstPost.no Hr.out (below_drewN (Below.refl _ _) _) rfl
  · have hN1 : N ≤ 16384 := by omega
    have hN2 : N ≤ n - 9 := by omega
    have hN3 : 9 + N ≤ n := by omega
    obtain ⟨A9, c9, hsl9, hy9⟩ := By.cut (P := Try.prog) 22 5 Try.underlying22 (by kernel_rfl) hb 9 (9 + N) N 9 (9 + (N : Int)) rfl (by simp) rfl hN3
    obtain ⟨L9, hL9⟩ : ∃ L9, Hid ((l.drop 9).take N = L9) := ⟨_, rfl⟩
    rw [hL9.out] at hy9
    obtain ⟨M, HM⟩ : ∃ M, Hid (num L5 = M) := ⟨_, rfl⟩
    rw [HM.out] at hM
    obtain ⟨S, HS⟩ : ∃ S, Hid (Fr.sum (L1 ++ L9) = S) := ⟨_, rfl⟩
    have hS := bv_lt S
    have hr : first l = if S.toNat ≠ M then none else some (L9, 9 + N) := by
      unfold first
      rw [if_neg (by omega), if_neg (by rw [hl0]; simp), hL1.out, HN.out, hlen, if_neg hbig, hL9.out, hL5.out, HM.out, HS.out]
    have Hr := Lib.hid hr
    clear hr hlen hl0 hbig
    have hsum : ∀ W, Below w.heap.size w W → Calls Try.prog 25 #[.slice A1 4 c1, .slice A9 N c9] W fun e w' => e = .returned (.int .u32 (S.toNat : Int)) ∧ Below w.heap.size w w' := fun W h =>
      (sum_any A1 A9 4 c1 N c9 L1 L9 W B B (Nat.le_trans hB h.size) (Nat.le_trans hB h.size) (hy1.below h hB) (hy9.below h hB)).mono fun e w' ⟨he, hb'⟩ => ⟨by rw [he, HS.out], h.trans (hb'.mono h.size)⟩
    have Hsum := Lib.hid hsum
    clear hsum
    have hget : ∀ W, Below w.heap.size w W → Calls Try.prog 26 #[.slice A5 4 c5] W fun e w' => e = .returned (.int .u32 (M : Int)) ∧ Below w.heap.size w w' := fun W h =>
      (get_four A5 c5 L5 W B (hy5.below h hB)).mono fun e w' ⟨he, k, hb'⟩ => ⟨by rw [he, HM.out], by rw [hb']; exact below_drewN h k⟩
    have Hget := Lib.hid hget
    clear hget
    by_cases hSM : S.toNat = M
    · have hne : ((S.toNat : Int) != (M : Int)) = false := by simp [hSM]
      have HSM := Lib.hid hSM
      clear hSM
      go_enter Try.func11, Try.ntmps11
      go_wp2_with (go_at_call 26; refine (get_four _ _ _ _ _ hy1).mono ?_; rintro e w1 ⟨rfl, k, rfl⟩; rw [HN.out])
      go_region_held3 (fun w' => Below w.heap.size w w') ((first | assumption | exact (below_drewN (Below.refl _ _) _).drew | exact Below.drew (by assumption) | exact below_drewN (by assumption) _)) ((first
        | (go_at_call 25; refine (Hsum.out _ (by assumption)).mono ?_; rintro e w2 ⟨rfl, hb2⟩)
        | (go_at_call 26; refine (Hget.out _ (by assumption)).mono ?_; rintro e w2 ⟨rfl, hb2⟩)))
      go_wp2_with (
        (at_builtin
         refine wpList_app rfl (.tmp 40) (.tmp 43) _ rfl w.heap.size 5 i0 _ 1 1 Try.underlying22 hi hz0 hz1 hz2 rfl (by omega) (.slice (some ⟨w2.heap.size, 0, none⟩) 0 0) 0 [] rfl (own_empty hb2.size) B A9 N c9 (L9.map bv) rfl ((hy9.below hb2 hB).alloc (Nat.le_trans hB hb2.size) _) ?c2 ?c3 ?c4 ?c5 ?_
         case c2 => intro u hu; obtain ⟨c, _, rfl⟩ := List.mem_map.1 hu; rfl
         case c3 => simp only [maxLen]; omega
         case c4 => omega
         case c5 => simp; have := hb2.size; omega
         intro v' w' ho hg _))
      go_ret3
      refine ⟨(hb2.alloc hb2.size _).grown hg (by simp; have := hb2.size; omega) (fun k hk => by simp [Value.ownBlock] at hk; have := hb2.size; omega), ?_⟩
      rw [Hr.out, if_neg (by simp [HSM.out])]
      refine ⟨v', ?_, ?_⟩
      · simp
      · have e : L9.length = N := hy9.len
        unfold OwnB
        rw [e]
        simpa using ho
    · have hne : ((S.toNat : Int) != (M : Int)) = true := by simp; omega
      have HSM := Lib.hid hSM
      clear hSM
      go_enter Try.func11, Try.ntmps11
      go_wp2_with (go_at_call 26; refine (get_four _ _ _ _ _ hy1).mono ?_; rintro e w1 ⟨rfl, k, rfl⟩; rw [HN.out])
      go_region_held3 (fun w' => Below w.heap.size w w') ((first | assumption | exact (below_drewN (Below.refl _ _) _).drew | exact Below.drew (by assumption) | exact below_drewN (by assumption) _)) ((first
        | (go_at_call 25; refine (Hsum.out _ (by assumption)).mono ?_; rintro e w2 ⟨rfl, hb2⟩)
        | (go_at_call 26; refine (Hget.out _ (by assumption)).mono ?_; rintro e w2 ⟨rfl, hb2⟩)))
      go_wp2_with fail
      go_ret3
      exact FirstPost.no (by rw [Hr.out, if_pos HSM.out]) hb2 rfl
end Go.Proofs.Ytbhckbhdjdmgaaa
