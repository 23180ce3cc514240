/-
  The walks of the document's First and Scan.
-/
import Derived.Test.YtbhckbhdjdmgaaaRefC
namespace Go.Proofs.Ytbhckbhdjdmgaaa
open Go.RowKit
/-- What the document's First answers. -/
def RFirstPost (w : World) (r : Option (List UInt8 × Nat)) (e : Ending) (w' : World) : Prop :=
  Below w.heap.size w w' ∧ match r with
    | none => e = .returned (.tuple #[.slice none 0 0, .int .i64 0, .bool false])
    | some (p, n) => ∃ v, e = .returned (.tuple #[v, .int .i64 n, .bool true]) ∧ OwnB w' w.heap.size v p
theorem RFirstPost.no {w w' : World} {e : Ending} {r : Option (List UInt8 × Nat)} (hr : r = none) (hb : Below w.heap.size w w') (he : e = .returned (.tuple #[.slice none 0 0, .int .i64 0, .bool false])) : RFirstPost w r e w' := by
  subst hr
  exact ⟨hb, he⟩
set_option maxHeartbeats 1600000 in
theorem RFirst_any (A : Option Addr) (n cap : Nat) (l : List UInt8) (w : World) (B : Nat) (hB : B ≤ w.heap.size) (hb : By w B A n cap l) :
    Calls Try.prog 16 #[.slice A n cap] w (RFirstPost w (first l)) := by
  have hcap : n ≤ 9223372036854775807 := by have := hb.2.1; have := hb.2.2.1; unfold maxLen at this; omega
  have hlen := hb.len
  by_cases h9 : n < 9
  · have hr : first l = none := by unfold first; rw [if_pos (by omega)]
    have Hr := Lib.hid hr
    clear hr hlen
    go_enter Try.func16, Try.ntmps16
    go_wp2_with fail
    go_ret3
    exact RFirstPost.no Hr.out (Below.refl _ _) rfl
  obtain ⟨b, off, rfl, hbB, hc⟩ := hb.at (by omega)
  have c0 := hc 0 (by omega)
  have hl0 : l[0]? = some (l[0]'(by omega)) := by simp
  generalize l[0]'(by omega) = q at c0 hl0
  clear hc
  rw [Nat.add_zero] at c0
  by_cases hq : q = 0x9d
  case neg =>
    have hr : first l = none := by unfold first; rw [if_neg (by omega), if_pos (by rw [hl0]; simpa using hq)]
    have Hr := Lib.hid hr
    have hq1 : ((q.toNat : Int) != 157) = true := by
      have : q.toNat ≠ 157 := fun e => hq (UInt8.toNat_inj.1 e)
      simp; omega
    clear hr hlen hl0 hq
    go_enter Try.func16, Try.ntmps16
    go_wp2_with fail
    go_ret3
    exact RFirstPost.no Hr.out (Below.refl _ _) rfl
  subst hq
  replace c0 : w.cell? ⟨b, off, none⟩ = some (.int .u8 157) := c0
  obtain ⟨A1, c1, hsl1, hy1⟩ := By.cut (P := Try.prog) 22 5 Try.underlying22 size_u8 hb 1 5 4 1 5 rfl rfl rfl (by omega)
  obtain ⟨A5, c5, hsl5, hy5⟩ := By.cut (P := Try.prog) 22 5 Try.underlying22 size_u8 hb 5 9 4 5 9 rfl rfl rfl (by omega)
  obtain ⟨L1, hL1⟩ : ∃ L1, Hid ((l.drop 1).take 4 = L1) := ⟨_, rfl⟩
  obtain ⟨L5, hL5⟩ : ∃ L5, Hid ((l.drop 5).take 4 = L5) := ⟨_, rfl⟩
  rw [hL1.out] at hy1
  rw [hL5.out] at hy5
  have hN := num_lt4 hy1.len
  have hM := num_lt4 hy5.len
  obtain ⟨N, HN⟩ : ∃ N, Hid (num L1 = N) := ⟨_, rfl⟩
  rw [HN.out] at hN
  by_cases hbig : N > 16384 ∨ N > n - 9
  · have hr : first l = none := by
      unfold first
      rw [if_neg (by omega), if_neg (by rw [hl0]; simp), hL1.out, HN.out, hlen, if_pos hbig]
    have Hr := Lib.hid hr
    clear hr hlen hl0 hM
    by_cases hb1 : N > 16384
    all_goals
      have hb2 : 16384 < N ∨ n - 9 < N := hbig
      clear hbig
      go_enter Try.func16, Try.ntmps16
      go_wp2_with (go_at_call 28; refine (Number_any _ _ _ _ _ _ hy1 (Nat.le_refl _)).mono ?_; rintro e w1 ⟨rfl, rfl⟩; rw [HN.out])
      go_ret3
      exact RFirstPost.no Hr.out (Below.refl _ _) rfl
  · have hN1 : N ≤ 16384 := by omega
    have hN2 : N ≤ n - 9 := by omega
    have hN3 : 9 + N ≤ n := by omega
    obtain ⟨A9, c9, hsl9, hy9⟩ := By.cut (P := Try.prog) 22 5 Try.underlying22 size_u8 hb 9 (9 + N) N 9 ((N : Int) + 9) rfl (by simp; omega) rfl hN3
    obtain ⟨L9, hL9⟩ : ∃ L9, Hid ((l.drop 9).take N = L9) := ⟨_, rfl⟩
    rw [hL9.out] at hy9
    obtain ⟨M, HM⟩ : ∃ M, Hid (num L5 = M) := ⟨_, rfl⟩
    rw [HM.out] at hM
    obtain ⟨S, HS⟩ : ∃ S, Hid (Fr.sum (L1 ++ L9) = S) := ⟨_, rfl⟩
    have hS := bv_lt S
    have hr : first l = if S.toNat ≠ M then none else some (L9, 9 + N) := by
      unfold first
      rw [if_neg (by omega), if_neg (by rw [hl0]; simp), hL1.out, HN.out, hlen, if_neg hbig, hL9.out, hL5.out, HM.out, HS.out]
    have Hr := Lib.hid hr
    clear hr hlen hl0 hbig
    have H1l : Hid (L1.length = 4) := hy1.len
    have H9l : Hid (L9.length = N) := hy9.len
    go_enter Try.func16, Try.ntmps16
    go_wp2_with (go_at_call 28; refine (Number_any _ _ _ _ _ _ hy1 (Nat.le_refl _)).mono ?_; rintro e w1 ⟨rfl, rfl⟩; rw [HN.out])
    go_region_held3 (fun w' => Below w.heap.size w w') ((first | assumption | exact Below.drew (Below.refl _ _))) ((first
      | (refine step_appB rfl (.tmp 34) (.tmp 36) rfl w.heap.size (.slice none 0 0) [] rfl (World.ownsRow_nil _ _ _ _) B A1 4 c1 L1 rfl (hy1.below (by assumption) hB) (by simp) (Below.size (by assumption)) ?_
         intro v2 w2 ho2 hg2
         have hb2 : Below w.heap.size w w2 := Below.grown (by assumption) hg2 (Below.size (by assumption)) (by intro k hk; simp [Value.ownBlock] at hk))
      | (refine step_appB rfl (.tmp 37) (.tmp 40) rfl w.heap.size v2 _ rfl ho2 B A9 N c9 L9 rfl (hy9.below hb2 hB) (by simp [H1l.out]; omega) hb2.size ?_
         intro v3 w3 ho3 hg3
         have hb3 : Below w.heap.size w w3 := hb2.grown hg3 hb2.size (fun k hk => (ho2.lt k hk).1))))
    go_wp2_with fail
    have hle3 : ([] ++ L1 ++ L9 : List UInt8).length = 4 + N := by simp [H1l.out, H9l.out]
    obtain ⟨A3, c3, rfl, hy3⟩ := own_by ho3 hle3
    rw [List.nil_append] at hy3
    have Hsum : Hid (∀ z, Calls Try.prog 18 #[.slice A3 (4 + N) c3] (w3.drewN z) fun e w' => e = .returned (.int .u32 (S.toNat : Int)) ∧ ∃ m, w' = (w3.drewN z).drewN m) := fun z =>
      (RSum_any A3 (4 + N) c3 (L1 ++ L9) (w3.drewN z) _ hy3).mono fun e w' ⟨h1, h2⟩ => ⟨by rw [h1, HS.out], 0, h2.symm⟩
    have Hnum : Hid (∀ z, Calls Try.prog 28 #[.slice A5 4 c5] (w3.drewN z) fun e w' => e = .returned (.int .u64 (M : Int)) ∧ ∃ m, w' = (w3.drewN z).drewN m) := fun z =>
      (Number_any A5 4 c5 L5 (w3.drewN z) B (hy5.below (below_drewN hb3 z) hB) (Nat.le_refl _)).mono fun e w' ⟨h1, h2⟩ => ⟨by rw [h1, HM.out], 0, h2.symm⟩
    have hBw3 : B ≤ w3.heap.size := Nat.le_trans hB hb3.size
    have hy93 := hy9.below hb3 hB
    by_cases hSM : S.toNat = M
    · have hne : ((S.toNat : Int) != (M : Int)) = false := by simp [hSM]
      have HSM := Lib.hid hSM
      clear hSM
      go_quiet ((first | (go_at_call 18; exact Calls.quiet_of (Hsum.out _)) | (go_at_call 28; exact Calls.quiet_of (Hnum.out _))))
      have hbq : Below w.heap.size w (w3.drewN nq) := below_drewN hb3 nq
      go_wp2_with (
        (at_builtin
         refine wpList_appB rfl (.tmp 49) (.tmp 52) rfl w.heap.size (.slice none 0 0) [] rfl (World.ownsRow_nil _ _ _ _) B A9 N c9 L9 rfl hy93 (by simp; omega) hbq.size ?_
         intro v5 w5 ho5 hg5))
      go_ret3
      refine ⟨hbq.grown hg5 hbq.size (by intro k hk; simp [Value.ownBlock] at hk), ?_⟩
      rw [Hr.out, if_neg (by simp [HSM.out])]
      exact ⟨v5, by simp; omega, ho5⟩
    · have hne : ((S.toNat : Int) != (M : Int)) = true := by simp; omega
      have HSM := Lib.hid hSM
      clear hSM
      go_quiet ((first | (go_at_call 18; exact Calls.quiet_of (Hsum.out _)) | (go_at_call 28; exact Calls.quiet_of (Hnum.out _))))
      go_wp2_with fail
      go_ret3
      exact RFirstPost.no (by rw [Hr.out, if_pos HSM.out]) (below_drewN hb3 nq) rfl
set_option maxHeartbeats 800000 in
theorem RScan_any (A : Option Addr) (n cap : Nat) (l : List UInt8) (w : World) (B : Nat) (hB : B ≤ w.heap.size) (hb : By w B A n cap l) (hn : n ≤ 1000000000) :
    Calls Try.prog 21 #[.slice A n cap] w (ScanPost w (scan l)) := by
  obtain ⟨i0, hi, hz0, hz1, hz2⟩ := info_parts info_bb
  go_enter Try.func21, Try.ntmps21
  go_wp2_with fail
  go_loopg [4, 5] n (fun m v s3 wr => ∃ k : Nat, s3 = .int .i64 k ∧ ScanRel w B A n cap l m k v wr)
  case atStart => exact ⟨0, rfl, scan_start w B A n cap l hb⟩
  case round =>
    obtain ⟨k, rfl, hk, hy, hbw, done, ho, hd, hs⟩ := hrel
    have hkn : k ≤ n := by omega
    obtain ⟨A1, c1, hsl, hy1⟩ := By.cutL (P := Try.prog) 22 5 Try.underlying22 size_u8 hy k gk (k : Int) rfl hk
    have hBw : B ≤ wr.heap.size := Nat.le_trans hB hbw.size
    have Hk := Lib.hid hk
    have Hs := Lib.hid hs
    clear hk hs
    cases hf : first (l.drop k) with
    | none =>
      have Hf := Lib.hid hf
      clear hf
      have Hp : Hid (∀ e w', RFirstPost wr (first (l.drop k)) e w' → Below wr.heap.size wr w' ∧ e = .returned (.tuple #[.slice none 0 0, .int .i64 0, .bool false])) := by
        intro e w' ⟨h1, h2⟩
        rw [Hf.out] at h2
        exact ⟨h1, h2⟩
      go_wp2_with fail
      refine (RFirst_any _ _ _ _ _ _ hBw hy1).mono ?_
      intro e w2 hp
      obtain ⟨hb2, rfl⟩ := Hp.out e w2 hp
      clear hp
      go_wp2_with fail
      go_ret2
      refine ⟨u4, ?_, ?_, hbw.trans (hb2.mono hbw.size)⟩
      · rw [Hs.out, scan_none Hf.out]; simp
      · rw [Hs.out, scan_none Hf.out]; simpa using ho.below hb2
    | some r =>
      obtain ⟨p, q⟩ := r
      have hpos := first_pos hf
      have hq : q ≤ gk := by have := hpos.2.1; rw [hy1.len] at this; exact this
      have hq9 : 9 ≤ q := hpos.1
      have Hf := Lib.hid hf
      clear hf hpos
      have Hp : Hid (∀ e w', RFirstPost wr (first (l.drop k)) e w' → Below wr.heap.size wr w' ∧ ∃ v, e = .returned (.tuple #[v, .int .i64 q, .bool true]) ∧ OwnB w' wr.heap.size v p) := by
        intro e w' ⟨h1, h2⟩
        rw [Hf.out] at h2
        exact ⟨h1, h2⟩
      have hdl : done.length ≤ 1000000000 := by omega
      have hkq : k + q ≤ 1000000000 := by have := Hk.out; omega
      go_wp2_with fail
      refine (RFirst_any _ _ _ _ _ _ hBw hy1).mono ?_
      intro e w2 hp
      obtain ⟨hb2, v2, rfl, ho2⟩ := Hp.out e w2 hp
      clear hp
      obtain ⟨us, g1, g2, g4, g3⟩ := ho.below hb2
      obtain ⟨A2, c2, rfl, hy2⟩ := own_by ho2 rfl
      have hbw2 := hbw.trans (hb2.mono hbw.size)
      go_wp2_with (
        (at_builtin
         refine wpList_app rfl (.tmp 21) (.tmp 23) _ rfl w.heap.size 22 i0 _ 1 24 Try.underlying40 hi hz0 hz1 hz2 rfl (by omega) u4 done.length us rfl (g1.alloc _) (w2.heap.size + 1) (some ⟨w2.heap.size, 0, none⟩) 1 1 [.slice A2 p.length c2] rfl (rd_one _ _ _) (one_one rfl) ?c3 ?c4 ?c5 ?_
         case c3 => simp only [maxLen]; omega
         case c4 => omega
         case c5 => simp; have := hbw2.size; omega
         intro v3 w3 ho3 hg3 _))
      have hbw3 : Below w.heap.size w w3 := (hbw2.alloc hbw2.size _).grown hg3 (by simp; have := hbw2.size; omega) (fun j hj => (g1.lt j hj).1)
      go_roundg (gk - q)
      case rel =>
        have hk := Hk.out
        refine ⟨k + q, by go_num, by omega, ?_, hbw3, done ++ [p], ?_, ?_, ?_⟩
        · exact hb.below hbw3 hB
        · exact OwnRows.snoc (g1.alloc _) g2 g4 (fun i u l hu hl => (g3 i u l hu hl).alloc _) ((ho2.base hbw.size).alloc _) rfl ho3 hg3
        · simp; omega
        · rw [Hs.out, scan_some Hf.out]
          simp [List.drop_drop, Nat.add_assoc]
      case measure => omega
end Go.Proofs.Ytbhckbhdjdmgaaa
