/-
  The walk of DiskReads: a disk and a row beside it.
-/
import Derived.Test.YtlopeflgleplfaaAgain
import Derived.Test.YtlopeflgleplfaaBrows
namespace Go.Proofs.Ytlopeflgleplfaa
open Go.RowKit
theorem DiskAt.grown {w w' : World} {base d : Nat} {v : Value} {s : DS} {r : Option Nat} (h : DiskAt w base d v s) (hg : w.grownBy w' r) (h1 : r ≠ some d) (h2 : r = none ∨ r ≠ v.ownBlock) : DiskAt w' base d v s := by
  refine ⟨h.low, (hg.block d (Array.getElem?_eq_some_iff.1 h.cells).1 (fun e => h1 e.symm)).trans h.cells, ?_, h.ok⟩
  obtain ⟨h3, h4 | ⟨g, cap, cur, e, hb, hgc, hr⟩⟩ := h.file
  · exact ⟨h3, .inl h4⟩
  · subst e
    refine ⟨h3, .inr ⟨g, cap, cur, rfl, hb, (hg.block g (Array.getElem?_eq_some_iff.1 hgc).1 (fun e => ?_)).trans hgc, hr⟩⟩
    rcases h2 with h2 | h2
    · rw [h2] at e
      cases e
    · exact h2 e.symm
/-- The disk s at d, and beside it the row u of bytes L. -/
def DW (w0 w : World) (base d : Nat) (s : DS) (u : Value) (L : List UInt8) : Prop :=
  ∃ v, DiskAt w base d v s ∧ Below base w0 w ∧ OwnB w base u L ∧ (u.ownBlock = none ∨ u.ownBlock ≠ v.ownBlock)
section
variable {w0 w w' : World} {base d : Nat} {s s' : DS} {u u' : Value} {L L' : List UInt8}
theorem DW.dq (h : DW w0 w base d s u L) : DQ w0 w base d s := by
  obtain ⟨v, h1, h2, _⟩ := h
  exact ⟨v, h1, h2⟩
theorem DW.own (h : DW w0 w base d s u L) : OwnB w base u L := h.choose_spec.2.2.1
theorem DW.keep (h : DW w0 w base d s u L) (hb : Below w.heap.size w w') : DW w0 w' base d s u L := by
  have := h.dq.size
  obtain ⟨v, h1, h2, h3, h4⟩ := h
  exact ⟨v, h1.below hb, h2.trans (hb.mono (by omega)), h3.below hb, h4⟩
theorem DW.post {v r : Value} {e : Ending} (h1 : DiskAt w base d v s) (h2 : Below base w0 w) (h3 : OwnB w base u L) (h4 : u.ownBlock = none ∨ u.ownBlock ≠ v.ownBlock) (p : DPost w base d v r s' e w') : e = .returned r ∧ DW w0 w' base d s' u L := by
  obtain ⟨rfl, v', q, hf, hn⟩ := p
  refine ⟨rfl, v', q, h2.trans (hf.below h1), h3.frm h1 hf h4, ?_⟩
  rcases h4 with h4 | h4
  · exact .inl h4
  rcases hn with e | e | ⟨k, e, hk⟩
  · exact .inr (by rw [e]; exact h4)
  · cases hu : u.ownBlock with
    | none => exact .inl rfl
    | some g => exact .inr (by rw [e]; simp)
  · cases hu : u.ownBlock with
    | none => exact .inl rfl
    | some g =>
      have := (h3.lt g hu).2
      exact .inr (by rw [e]; intro e'; injection e' with e'; omega)
theorem DW.fresh (h : DW w0 w base d s u L) (ho : OwnB w' w.heap.size u' L') (hb : Below w.heap.size w w') : DW w0 w' base d s u' L' := by
  have := h.dq.size
  obtain ⟨v, h1, h2, h3, h4⟩ := h
  refine ⟨v, h1.below hb, h2.trans (hb.mono (by omega)), ho.base (by omega), ?_⟩
  cases hu : u'.ownBlock with
  | none => exact .inl rfl
  | some g =>
    have h5 := (ho.lt g hu).1
    refine .inr fun e => ?_
    have := (h1.file.lt g e.symm).2
    omega
theorem DW.grow (h : DW w0 w base d s u L) (ho : OwnB w' base u' L') (hg : w.grownBy w' u.ownBlock) (ha : u'.ownBlock = u.ownBlock ∨ u'.ownBlock = some w.heap.size) : DW w0 w' base d s u' L' := by
  have hs := h.dq.size
  obtain ⟨v, h1, h2, h3, h4⟩ := h
  refine ⟨v, h1.grown hg (own_ne_disk h3 h1) h4, h2.grown hg (by omega) (fun k hk => (h3.lt k hk).1), ho, ?_⟩
  rcases ha with e | e
  · rw [e]
    exact h4
  · refine .inr fun e' => ?_
    rw [e] at e'
    have := (h1.file.lt _ e'.symm).2
    omega
theorem DW.append (A : Option Addr) (n cap B : Nat) (l : List UInt8) (h : DW w0 w base d s u L) (hb : By w B A n cap l) :
    Calls Try.prog 12 #[.pointer (some ⟨d, 0, none⟩), .slice A n cap] w fun e w' => e = .returned (.int .i64 (s.append l).1) ∧ DW w0 w' base d (s.append l).2 u L := by
  have hs := h.dq.size
  obtain ⟨v, h1, h2, h3, h4⟩ := h
  exact (append_any base d v s A n cap B l w h1 (by omega) hb).mono fun _ _ p => DW.post h1 h2 h3 h4 p
theorem DW.replace (A : Option Addr) (n cap B : Nat) (l : List UInt8) (h : DW w0 w base d s u L) (hb : By w B A n cap l) (hB : B ≤ base) :
    Calls Try.prog 21 #[.pointer (some ⟨d, 0, none⟩), .slice A n cap] w fun e w' => e = .returned (.int .i64 (s.replace l).1) ∧ DW w0 w' base d (s.replace l).2 u L := by
  have hs := h.dq.size
  obtain ⟨v, h1, h2, h3, h4⟩ := h
  exact (replace_any base d v s A n cap B l w h1 (by omega) hb hB).mono fun _ _ p => DW.post h1 h2 h3 h4 p
theorem DW.sync (h : DW w0 w base d s u L) :
    Calls Try.prog 13 #[.pointer (some ⟨d, 0, none⟩)] w fun e w' => e = .returned (.int .i64 s.sync.1) ∧ DW w0 w' base d s.sync.2 u L := by
  obtain ⟨v, h1, h2, h3, h4⟩ := h
  exact (sync_any base d v s w h1).mono fun _ _ p => DW.post h1 h2 h3 h4 p
end
set_option maxRecDepth 100000 in
set_option maxHeartbeats 3200000 in
theorem reads_walk (A0 : Option Addr) (n0 c0 : Nat) (l0 : List (List UInt8)) (A1 : Option Addr) (n1 c1 : Nat) (l1 : List Bool) (A2 : Option Addr) (n2 c2 : Nat) (l2 : List Bool) (W : World)
    (hy0 : RdRows W W.heap.size A0 n0 c0 l0) (hy1 : Rd W W.heap.size 1 A1 n1 c1 (l1.map Value.bool)) (hy2 : Rd W W.heap.size 1 A2 n2 c2 (l2.map Value.bool)) :
    Calls Try.prog 5 #[.slice A0 n0 c0, .slice A1 n1 c1, .slice A2 n2 c2] W fun e w' => e = .returned (.bool true) ∧ Below W.heap.size W w' := by
  have hn0 : n0 ≤ 9223372036854775807 := by have := hy0.caps; unfold maxLen at this; omega
  have hn1 : n1 ≤ 9223372036854775807 := by have := hy1.2.1; have := hy1.2.2.1; unfold maxLen at this; omega
  have hn2 : n2 ≤ 9223372036854775807 := by have := hy2.2.1; have := hy2.2.2.1; unfold maxLen at this; omega
  by_cases hout : 300 < n0 ∨ 300 < n1 ∨ 300 < n2
  · by_cases h1 : 300 < n0
    all_goals by_cases h2 : 300 < n1
    all_goals by_cases h3 : 300 < n2
    all_goals (try (exfalso; omega))
    all_goals clear hout
    all_goals go_enter Try.func5, Try.ntmps5
    all_goals go_wp2_with fail
    all_goals go_ret
    all_goals exact ⟨rfl, Below.refl _ _⟩
  have h1 : ¬ 300 < n0 := by omega
  have h2 : ¬ 300 < n1 := by omega
  have h3 : ¬ 300 < n2 := by omega
  clear hout
  have Hl1 : Hid (l1.length = n1) := by have := hy1.1; unfold Hid; simpa using this
  have Hl2 : Hid (l2.length = n2) := by have := hy2.1; unfold Hid; simpa using this
  go_enter Try.func5, Try.ntmps5
  go_wp2_with fail
  refine (DQ.new 65536 W (by omega)).mono ?_
  rintro e w1 ⟨rfl, q1⟩
  have d1 : DW W w1 W.heap.size W.heap.size ⟨65536, [], 0, false, 0, 0⟩ (.slice none 0 0) [] := by
    obtain ⟨v, h4, h5⟩ := q1
    exact ⟨v, h4, h5, World.ownsRow_nil _ _ _ _, .inl rfl⟩
  go_wp2_with fail
  go_loopg [8, 9, 10, 11, 12] n0 (fun g _ s9 s10 _ _ wr => ∃ (i syn : Nat) (L : List UInt8), i + g = n0 ∧ s10 = .int .i64 i ∧ L.length ≤ 200 * i ∧ DW W wr W.heap.size W.heap.size ⟨65536, L, syn, false, 0, 0⟩ s9 L)
  case atStart => exact ⟨0, 0, [], by omega, rfl, by simp, d1⟩
  case round =>
    obtain ⟨i, syn, L, hig, rfl, hL, q⟩ := hrel
    have him : i ≤ n0 := by omega
    have Hig := Lib.hid hig
    clear hig
    by_cases hlt : i < n0
    · obtain ⟨b, off, A', m', c', r, rfl, hbB, hcW, hyr, _⟩ := hy0.step hlt
      have hm' : m' ≤ 9223372036854775807 := hyr.n_le
      have Hr : Hid (r.length = m') := hyr.len
      have hc0 := (q.dq.below.cell (p := ⟨b, off + i, none⟩) hbB).trans hcW
      by_cases hm : 200 < m'
      · go_wp2_with fail
        go_ret
        exact ⟨rfl, q.dq.below⟩
      obtain ⟨LL, hLL⟩ : ∃ LL, Hid (L.length = LL) := ⟨_, rfl⟩
      obtain ⟨A9, c9, rfl, hy9⟩ := own_by q.own hLL.out
      have hLL2 : LL ≤ 200 * i := by rw [← hLL.out]; exact hL
      have hm200 : m' ≤ 200 := by omega
      -- what comes next: is it put anew?
      have hA : (∃ b1 o1, A1 = some ⟨b1, o1, none⟩ ∧ (i < n1) ∧ wr.cell? ⟨b1, o1 + i, none⟩ = some (.bool true)) ∨ (∃ b1 o1, A1 = some ⟨b1, o1, none⟩ ∧ (i < n1) ∧ wr.cell? ⟨b1, o1 + i, none⟩ = some (.bool false)) ∨ ¬ i < n1 := by
        by_cases h : i < n1
        · obtain ⟨b1, o1, e, hb, hc⟩ := hy1.2.2.2 (by omega)
          have hc2 := hc i (.bool (l1[i]'(by rw [Hl1.out]; exact h))) (by simp [show i < l1.length by rw [Hl1.out]; exact h])
          have hc3 := (q.dq.below.cell (p := ⟨b1, o1 + i, none⟩) hb).trans hc2
          cases hx : l1[i]'(by rw [Hl1.out]; exact h) with
          | true => rw [hx] at hc3; exact .inl ⟨b1, o1, e, h, hc3⟩
          | false => rw [hx] at hc3; exact .inr (.inl ⟨b1, o1, e, h, hc3⟩)
        · exact .inr (.inr h)
      have hS : (∃ b2 o2, A2 = some ⟨b2, o2, none⟩ ∧ (i < n2) ∧ ∀ w, Below W.heap.size W w → w.cell? ⟨b2, o2 + i, none⟩ = some (.bool true)) ∨ (∃ b2 o2, A2 = some ⟨b2, o2, none⟩ ∧ (i < n2) ∧ ∀ w, Below W.heap.size W w → w.cell? ⟨b2, o2 + i, none⟩ = some (.bool false)) ∨ (¬ i < n2 ∧ ∀ w, Below W.heap.size W w → True) := by
        by_cases h : i < n2
        · obtain ⟨b2, o2, e, hb, hc⟩ := hy2.2.2.2 (by omega)
          have hc2 := hc i (.bool (l2[i]'(by rw [Hl2.out]; exact h))) (by simp [show i < l2.length by rw [Hl2.out]; exact h])
          have hc3 : ∀ w, Below W.heap.size W w → w.cell? ⟨b2, o2 + i, none⟩ = _ := fun w hbw => (hbw.cell (p := ⟨b2, o2 + i, none⟩) hb).trans hc2
          cases hx : l2[i]'(by rw [Hl2.out]; exact h) with
          | true => rw [hx] at hc3; exact .inl ⟨b2, o2, e, h, hc3⟩
          | false => rw [hx] at hc3; exact .inr (.inl ⟨b2, o2, e, h, hc3⟩)
        · exact .inr (.inr ⟨h, fun _ _ => trivial⟩)
      have hi3 : i ≤ 300 := by omega
      rcases hA with ⟨b1, o1, rfl, hi1, hcA⟩ | ⟨b1, o1, rfl, hi1, hcA⟩ | hi1
      all_goals rcases hS with ⟨b2, o2, rfl, hi2, hS⟩ | ⟨b2, o2, rfl, hi2, hS⟩ | ⟨hi2, hS⟩
      case' inl.inl | inl.inr.inl | inl.inr.inr =>
        go_wp2_with fail
        refine (DW.replace _ _ _ _ r q (hyr.below q.dq.below (Nat.le_refl _)) (Nat.le_refl _)).mono ?_
        rw [DS.replace_ok _ _ _ r _ (by rw [Hr.out]; omega)]
        rintro e w3 ⟨rfl, q3⟩
        have hc3 := (q3.dq.below.cell (p := ⟨b, off + i, none⟩) hbB).trans hcW
        go_wp2_with fail
        refine (Twin_any _ _ _ r _ W.heap.size (hyr.below q3.dq.below (Nat.le_refl _)) (by omega)).mono ?_
        rintro e w4 ⟨v4, rfl, ho4, hb4⟩
        have q4 := q3.fresh ho4 hb4
        have hcS := hS w4 q4.dq.below
        obtain ⟨L4, hL4⟩ : ∃ L4, Hid (r = L4) := ⟨_, rfl⟩
        obtain ⟨LL4, hLL4⟩ : ∃ LL4, m' = LL4 := ⟨_, rfl⟩
        have hlen4 : Hid (L4.length = LL4) := by unfold Hid; rw [← hL4.out, Hr.out, hLL4]
        have hlim4 : LL4 ≤ 200 * (i + 1) := by omega
        rw [hL4.out] at q4 ho4
        obtain ⟨A4, c4, rfl, hy4⟩ := own_by ho4 hlen4.out
        clear hLL4
        go_wp2_with fail
      case' inr.inl.inl | inr.inl.inr.inl | inr.inl.inr.inr | inr.inr.inl | inr.inr.inr.inl | inr.inr.inr.inr =>
        go_wp2_with fail
        refine (DW.append _ _ _ _ r q (hyr.below q.dq.below (Nat.le_refl _))).mono ?_
        rw [DS.append_ok _ _ _ r _ (by rw [Hr.out, hLL.out]; omega)]
        rintro e w3 ⟨rfl, q3⟩
        have hc3 := (q3.dq.below.cell (p := ⟨b, off + i, none⟩) hbB).trans hcW
        go_wp2_with (
          (at_builtin
           refine wpList_appBAt rfl (.tmp 75) (.tmp 79) rfl W.heap.size (.slice A9 LL c9) L rfl q3.own W.heap.size A' m' c' r rfl (hyr.below q3.dq.below (Nat.le_refl _)) (by rw [hLL.out]; omega) (Nat.le_of_lt q3.dq.size) ?_
           intro v4 w4 ho4 hg4 ha4
           have q4 := q3.grow ho4 hg4 ha4
           have hcS := hS w4 q4.dq.below
           obtain ⟨L4, hL4⟩ : ∃ L4, Hid (L ++ r = L4) := ⟨_, rfl⟩
           obtain ⟨LL4, hLL4⟩ : ∃ LL4, LL + m' = LL4 := ⟨_, rfl⟩
           have hlen4 : Hid (L4.length = LL4) := by unfold Hid; rw [← hL4.out, List.length_append, Hr.out, hLL.out, hLL4]
           have hlim4 : LL4 ≤ 200 * (i + 1) := by omega
           rw [hL4.out] at q4 ho4
           obtain ⟨A4, c4, rfl, hy4⟩ := own_by ho4 hlen4.out
           clear hLL4))
      all_goals first
        | (refine (DW.sync q4).mono ?_
           rw [DS.sync_ok]
           rintro e w5 ⟨rfl, q5⟩
           go_wp2_with fail)
        | have q5 := q4
      all_goals refine (DQ.read _ _ _ _ _ q5.dq).mono ?_
      all_goals rintro e w6 ⟨_, hb6, v6, rfl, ho⟩
      all_goals have q6 := q5.keep hb6
      all_goals have ho6 : OwnB w6 _ v6 L4 := ho
      all_goals obtain ⟨A6, c6, rfl, hy6⟩ := own_by ho6 hlen4.out
      all_goals obtain ⟨A7, c7, e7, hy7⟩ := own_by q6.own hlen4.out
      all_goals injection e7 with e7a _ e7c
      all_goals subst e7a e7c
      all_goals clear ho ho6
      all_goals go_wp2_with fail
      all_goals refine (Bytes_same _ _ _ _ _ _ L4 _ _ _ hy6 hy7).mono ?_
      all_goals rintro e w7 ⟨rfl, k7, rfl⟩
      all_goals have q7 : DW W (w6.drewN k7) W.heap.size W.heap.size _ _ _ := q6.keep ⟨rfl, rfl, rfl, Nat.le_refl _, fun _ _ => rfl⟩
      all_goals go_wp2_with fail
      all_goals refine (DQ.len _ _ _ _ _ q7.dq).mono ?_
      all_goals dsimp only
      all_goals rw [hlen4.out]
      all_goals rintro e w8 ⟨rfl, rfl⟩
      all_goals go_wp2_with fail
      all_goals refine (DQ.isOff _ _ _ _ _ q7.dq).mono ?_
      all_goals rintro e w9 ⟨rfl, rfl⟩
      all_goals go_wp2_with fail
      all_goals go_roundg (gk - 1)
      all_goals first
        | exact ⟨i + 1, _, L4, by have := Hig.out; omega, by go_num, by rw [hlen4.out]; exact hlim4, q7⟩
        | (have := Hig.out; omega)
    · go_wp2_with fail
      refine (wakes_any _).mono ?_
      rintro e w11 ⟨rfl, hb11⟩
      go_wp2_with fail
      go_ret
      exact ⟨rfl, q.dq.below.trans (hb11.mono (by have := q.dq.size; omega))⟩
end Go.Proofs.Ytlopeflgleplfaa
