/-
  The walk of DiskExact.
-/
import Derived.Test.YtlopeflgleplfaaDo
namespace Go.Proofs.Ytlopeflgleplfaa
open Go.RowKit
set_option maxHeartbeats 400000 in
theorem new_bad (x : Int) (w : World) (hx : x < 0 ∨ 65536 < x) : Calls Try.prog 10 #[.int .i64 x] w fun e w' => e = .returned (.tuple #[.pointer none, .int .i64 1]) ∧ w = w' := by
  rcases hx with h | h
  all_goals
    go_enter Try.func10, Try.ntmps10
    go_wp2_with fail
    go_ret2
    exact ⟨rfl, rfl⟩
theorem RefAt.isNew {w : World} {room base : Nat} (hr : room ≤ 65536) (hb : base ≤ w.heap.size) : RefAt (w.alloc (.cells #[.int .i64 (room : Int), .slice none 0 0, .int .i64 0, .bool false, .int .i64 0, .int .i64 0] 49)) base w.heap.size (.slice none 0 0) (DS.new room) :=
  ⟨hb, heap_alloc_new w _, World.ownsRow_nil _ _ _ _, hr, by simp [DS.new], by simp [DS.new], by simp [DS.new], by simp [DS.new]⟩
theorem PQ.look {w0 w : World} {base d r : Nat} {s t : DS} {K : Nat → Prop} (h : PQ w0 w base d s r t K) : ∃ A n c, w.cell? ⟨r, 1, none⟩ = some (.slice A n c) ∧ w.cell? ⟨r, 3, none⟩ = some (.bool t.off) ∧ By w w.heap.size A n c t.file ∧ Hid (t.file.length = n) ∧ n ≤ 65536 := by
  obtain ⟨v, u, h⟩ := h
  obtain ⟨_, c1, _, c3, _⟩ := h.rf.cell
  obtain ⟨A, c, rfl, hy⟩ := own_by h.rf.file (n := t.file.length) rfl
  exact ⟨A, _, c, c1, c3, hy, rfl, Nat.le_trans h.rf.ok.file h.rf.ok.room⟩
theorem PQ.isOff {w0 w : World} {base d r : Nat} {s t : DS} {K : Nat → Prop} (h : PQ w0 w base d s r t K) :
    Calls Try.prog 14 #[.pointer (some ⟨d, 0, none⟩)] w fun e w' => e = .returned (.bool s.off) ∧ w = w' := by
  obtain ⟨v, u, h⟩ := h
  exact off_any base d v s w h.dk
theorem PQ.len {w0 w : World} {base d r n : Nat} {s t : DS} {K : Nat → Prop} (h : PQ w0 w base d s r t K) (hn : s.file.length = n) :
    Calls Try.prog 20 #[.pointer (some ⟨d, 0, none⟩)] w fun e w' => e = .returned (.int .i64 (n : Int)) ∧ w = w' := by
  obtain ⟨v, u, h⟩ := h
  rw [← hn]
  exact size_any base d v s w h.dk
theorem PQ.read {w0 w : World} {base d r : Nat} {s t : DS} {K : Nat → Prop} (h : PQ w0 w base d s r t K) :
    Calls Try.prog 16 #[.pointer (some ⟨d, 0, none⟩)] w (ReadPost w s) := by
  obtain ⟨v, u, h⟩ := h
  exact read_any base d v s w h.dk
theorem PQ.readOff {w0 w : World} {base d r : Nat} {s t : DS} {K : Nat → Prop} (h : PQ w0 w base d s r t K) (ho : s.off = true) :
    Calls Try.prog 16 #[.pointer (some ⟨d, 0, none⟩)] w fun e w' => Below w.heap.size w w' ∧ ∃ A c, e = .returned (.tuple #[.slice A 0 c, .int .i64 4]) := by
  refine h.read.mono ?_
  rintro e w' ⟨h2, v, h3, h4⟩
  rw [ho] at h3 h4
  obtain ⟨A, c, rfl, _⟩ := own_by h4 (n := 0) rfl
  exact ⟨h2, A, c, h3⟩
theorem PQ.readOn {w0 w : World} {base d r n : Nat} {s t : DS} {K : Nat → Prop} (h : PQ w0 w base d s r t K) (ho : s.off = false) (hn : s.file.length = n) :
    Calls Try.prog 16 #[.pointer (some ⟨d, 0, none⟩)] w fun e w' => Below w.heap.size w w' ∧ ∃ A c, e = .returned (.tuple #[.slice A n c, .int .i64 0]) ∧ OwnB w' w.heap.size (.slice A n c) s.file := by
  refine h.read.mono ?_
  rintro e w' ⟨h2, v, h3, h4⟩
  rw [ho] at h3 h4
  obtain ⟨A, c, rfl, _⟩ := own_by h4 (n := n) (by simpa using hn)
  exact ⟨h2, A, c, h3, by simpa using h4⟩
set_option maxRecDepth 100000 in
set_option maxHeartbeats 25600000 in
theorem exact_walk (x : Int) (A0 : Option Addr) (n0 c0 : Nat) (l0 : List ActV) (W : World) (h0 : RdActs W W.heap.size A0 n0 c0 l0) (hx : -9223372036854775808 ≤ x ∧ x ≤ 9223372036854775807) :
    Calls Try.prog 8 #[.int .i64 x, .slice A0 n0 c0] W fun e w' => e = .returned (.bool true) ∧ Below W.heap.size W w' := by
  have hn0 : n0 ≤ 9223372036854775807 := by have := h0.2.1; have := h0.2.2.1; unfold maxLen at this; omega
  by_cases hbad : x < 0 ∨ 65536 < x
  · have Hbad := Lib.hid hbad
    rcases hbad with h1 | h1
    all_goals
      go_enter Try.func8, Try.ntmps8
      go_wp2_with fail
      refine (heavy_any _ _ _ _ _ _ h0).mono ?_
      rintro e w1 ⟨⟨hv, rfl⟩, rfl⟩
      cases hv
      case' true =>
        go_wp2_with fail
        go_ret
        exact ⟨rfl, Below.refl _ _⟩
      case' false =>
        go_wp2_with fail
        refine (new_bad x W Hbad.out).mono ?_
        rintro e w1 ⟨rfl, rfl⟩
        go_wp2_with fail
        refine (wakes_any _).mono ?_
        rintro e w11 ⟨rfl, hb11⟩
        go_wp2_with fail
        go_ret
        exact ⟨rfl, hb11⟩
  obtain ⟨R, rfl⟩ : ∃ R : Nat, x = R := ⟨x.toNat, by omega⟩
  have hR : R ≤ 65536 := by omega
  clear hbad
  go_enter Try.func8, Try.ntmps8
  go_wp2_with fail
  refine (heavy_says _ _ _ _ _ _ h0).mono ?_
  rintro e w1 ⟨⟨hv, rfl, hlen⟩, rfl⟩
  cases hv
  case true =>
    go_wp2_with fail
    go_ret
    exact ⟨rfl, Below.refl _ _⟩
  have Hlen := Lib.hid (hlen rfl)
  clear hlen
  go_wp2_with fail
  refine (new_any R W hR).mono ?_
  rintro e w1 ⟨rfl, q1, hb1, hs1⟩
  go_wp2_with fail
  have q2 : PQ W (w1.alloc (.cells #[.int .i64 (R : Int), .slice none 0 0, .int .i64 0, .bool false, .int .i64 0, .int .i64 0] 49)) W.heap.size W.heap.size (DS.new R) w1.heap.size (DS.new R) (fun _ => False) :=
    ⟨_, _, q1.below ((Below.refl _ _).alloc (Nat.le_refl _) _), RefAt.isNew hR (by omega), hb1.trans (((Below.refl _ _).alloc (Nat.le_refl _) _).mono (by omega)), fun g hg => by simp [Value.ownBlock] at hg, fun k hk => hk.elim⟩
  obtain ⟨r, hr⟩ : ∃ r, W.heap.size + 1 = r := ⟨_, rfl⟩
  rw [hs1, hr] at q2
  rw [hr]
  generalize w1.alloc (.cells #[.int .i64 (R : Int), .slice none 0 0, .int .i64 0, .bool false, .int .i64 0, .int .i64 0] 49) = w2 at q2 ⊢
  clear q1 hb1 hs1 hr
  go_loopg [8, 9, 10] n0 (fun g s8 _ _ wr => ∃ (i : Nat) (s : DS), i + g = n0 ∧ s8 = .int .i64 i ∧ PQ W wr W.heap.size W.heap.size s r s (fun _ => False))
  case atStart => exact ⟨0, _, by omega, rfl, q2⟩
  case round =>
    obtain ⟨i, s, hig, rfl, q⟩ := hrel
    have him : i ≤ n0 := by omega
    have Hig := Lib.hid hig
    clear hig
    have hfin : Hid (Below W.heap.size W wr ∧ W.heap.size ≤ wr.heap.size) := ⟨q.below, Nat.le_of_lt q.size⟩
    by_cases hlt : i < n0
    case' pos => by_cases h3 : i < 300
    case neg =>
      go_wp2_with fail
      refine (wakes_any _).mono ?_
      rintro e w11 ⟨rfl, hb11⟩
      go_wp2_with fail
      go_ret
      exact ⟨rfl, hfin.out.1.trans (hb11.mono hfin.out.2)⟩
    case neg =>
      go_wp2_with fail
      refine (wakes_any _).mono ?_
      rintro e w11 ⟨rfl, hb11⟩
      go_wp2_with fail
      go_ret
      exact ⟨rfl, hfin.out.1.trans (hb11.mono hfin.out.2)⟩
    case pos =>
      obtain ⟨b, off, a, rfl, hbB, ha, hat⟩ := h0.step hlt
      have hla := Hlen.out i a h3 hat.out.1
      obtain ⟨hok, k0, k1, k2, B0, cB, k3, hyB⟩ := ha
      have kk : ∀ {w : World} {s : DS}, PQ W w W.heap.size W.heap.size s r s (fun _ => False) → ∀ x, w.cell? ⟨b, off + i * 4 + x, none⟩ = W.cell? ⟨b, off + i * 4 + x, none⟩ := fun q x => q.below.cell (p := ⟨b, off + i * 4 + x, none⟩) hbB
      have c0 : wr.cell? ⟨b, off + i * 4, none⟩ = some (.int .i64 a.what) := (kk q 0).trans k0
      have c1 := (kk q 1).trans k1
      have c2 := (kk q 2).trans k2
      have c3 := (kk q 3).trans k3
      go_wp2_with fail
      have qd := q.keep (Below.drew (Below.refl _ _))
      go_region_with
        ((first
          | (go_at_call 24
             refine (do_any W _ W.heap.size W.heap.size r s a hok B0 cB hyB hla (by first | exact qd | exact q)).mono ?_
             rintro e w3 ⟨rfl, s3, q3⟩
             obtain ⟨A3, n3, c3', r1, r3, hy3, Hn3, hn3⟩ := q3.look)
          | (go_at_call 14
             refine (PQ.isOff q3).mono ?_
             rintro e w4 ⟨rfl, rfl⟩)
          | (go_at_call 20
             refine (PQ.len q3 Hn3.out).mono ?_
             rintro e w5 ⟨rfl, rfl⟩)))
      all_goals clear c0 c1 c2 c3 k0 k1 k2 k3 kk qd q
      all_goals go_wp2_with fail
      all_goals rcases Decidable.em (s3.off = true) with hoff | hoff
      all_goals first
        | (refine (PQ.readOff q3 hoff).mono ?_
           rintro e w6 ⟨hb6, A7, c7, rfl⟩
           have q6 := q3.keep hb6
           obtain ⟨A6, n6, c6, _, r63, _, _, _⟩ := q6.look
           rw [hoff] at r63
           clear hoff r1 r3 hy3
           go_wp2_with fail
           go_roundg (gk - 1)
           case' rel => exact ⟨i + 1, _, by have := Hig.out; omega, by go_num, q6⟩
           case' measure => (have := Hig.out; omega))
        | (have hoff2 : s3.off = false := by simpa using hoff
           refine (PQ.readOn q3 hoff2 Hn3.out).mono ?_
           rintro e w6 ⟨hb6, A7, c7, rfl, ho7⟩
           have q6 := q3.more (K' := fun x => (Value.slice A7 n3 c7).ownBlock = some x) hb6 (fun x hx => .inr (ho7.lt x hx))
           have hbase : W.heap.size ≤ w3.heap.size := Nat.le_of_lt q3.size
           obtain ⟨A6, n6, c6, r61, r63, hy6, Hn6, hn6⟩ := q6.look
           rw [hoff2] at r63
           obtain ⟨A8, c8, e8, hy8⟩ := own_by ho7 Hn3.out
           injection e8 with e81 _ e83
           subst e81 e83
           clear hoff hoff2 r1 r3 hy3
           go_wp2_with fail
           refine (Bytes_same _ _ _ _ _ _ s3.file _ _ _ hy8 hy6).mono ?_
           rintro e w9 ⟨rfl, k9, rfl⟩
           have q9 := q6.keep (below_drewN (Below.refl _ _) k9)
           go_wp2_with fail
           refine (Spoil_any _ _ _ w3.heap.size s3.file (w6.drewN k9) (ho7.below (below_drewN (Below.refl _ _) k9)) Hn3.out).mono ?_
           rintro e w10 ⟨rfl, hg10, _⟩
           have q10 := (q9.grown hg10 (fun x hx => hx)).more (K' := fun _ => False) (Below.refl _ _) (fun _ h => h.elim)
           go_wp2_with fail
           go_roundg (gk - 1)
           case' rel => exact ⟨i + 1, _, by have := Hig.out; omega, by go_num, q10⟩
           case' measure => (have := Hig.out; omega))
end Go.Proofs.Ytlopeflgleplfaa
