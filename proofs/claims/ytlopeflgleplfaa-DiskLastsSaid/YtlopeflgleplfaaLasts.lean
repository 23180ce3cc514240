/-
  The walk of DiskLasts.
-/
import Derived.Test.YtlopeflgleplfaaHeavy
namespace Go.Proofs.Ytlopeflgleplfaa
open Go.RowKit
set_option maxRecDepth 100000 in
set_option maxHeartbeats 3200000 in
theorem lasts_walk (A0 : Option Addr) (n0 c0 : Nat) (l0 : List ActV) (W : World) (h0 : RdActs W W.heap.size A0 n0 c0 l0) :
    Calls Try.prog 6 #[.slice A0 n0 c0] W fun e w' => e = .returned (.bool true) ∧ Below W.heap.size W w' := by
  have hn0 : n0 ≤ 9223372036854775807 := by have := h0.2.1; have := h0.2.2.1; unfold maxLen at this; omega
  go_enter Try.func6, Try.ntmps6
  go_wp2_with fail
  refine (heavy_any _ _ _ _ _ _ h0).mono ?_
  rintro e w1 ⟨⟨hv, rfl⟩, rfl⟩
  cases hv
  case true =>
    go_wp2_with fail
    go_ret
    exact ⟨rfl, Below.refl _ _⟩
  go_wp2_with fail
  refine (DQ.new 65536 W (by omega)).mono ?_
  rintro e w1 ⟨rfl, v1, q1, hb1⟩
  go_wp2_with fail
  go_loopg [5, 6, 7, 8, 9, 10, 11, 12] n0 (fun g s5 s6 s7 _ _ _ _ _ wr => ∃ (i : Nat) (s : DS) (S A : Option Addr) (ns cs na ca : Nat) (ls la : List UInt8), i + g = n0 ∧ s5 = .slice S ns cs ∧ s6 = .slice A na ca ∧ s7 = .int .i64 i ∧ Fine s ls la ∧
    DX W wr W.heap.size W.heap.size s (fun w d f => ByF w d f S ns cs ls ∧ ByF w d f A na ca la))
  case atStart => exact ⟨0, _, none, none, 0, 0, 0, 0, [], [], by omega, rfl, rfl, rfl, ⟨rfl, rfl, rfl, rfl⟩, v1, q1, hb1, ⟨Rd.nil _ _ _, fun h => by omega⟩, ⟨Rd.nil _ _ _, fun h => by omega⟩⟩
  case round =>
    obtain ⟨i, s, S, A, ns, cs, na, ca, ls, la, hig, rfl, rfl, rfl, fn, q⟩ := hrel
    have him : i ≤ n0 := by omega
    have Hig := Lib.hid hig
    clear hig
    have hfin : Hid (Below W.heap.size W wr ∧ W.heap.size ≤ wr.heap.size) := ⟨q.dq.below, Nat.le_of_lt q.dq.size⟩
    by_cases hlt : i < n0
    case' pos => by_cases h3 : i < 300
    case neg =>
      go_wp2_with fail
      refine (wakes_any _).mono ?_
      rintro e w11 ⟨rfl, hb11⟩
      go_wp2_with fail
      go_ret
      exact ⟨rfl, hfin.out.1.trans (hb11.mono hfin.out.2)⟩
    case neg =>
      go_wp2_with fail
      refine (wakes_any _).mono ?_
      rintro e w11 ⟨rfl, hb11⟩
      go_wp2_with fail
      go_ret
      exact ⟨rfl, hfin.out.1.trans (hb11.mono hfin.out.2)⟩
    case pos =>
      obtain ⟨b, off, a, rfl, hbB, ha, _⟩ := h0.step hlt
      obtain ⟨hok, k0, k1, k2, B0, cB, k3, hyB⟩ := ha
      have kk : ∀ x, wr.cell? ⟨b, off + i * 4 + x, none⟩ = W.cell? ⟨b, off + i * 4 + x, none⟩ := fun x => q.dq.below.cell (p := ⟨b, off + i * 4 + x, none⟩) hbB
      have c0 : wr.cell? ⟨b, off + i * 4, none⟩ = some (.int .i64 a.what) := (kk 0).trans k0
      have c1 := (kk 1).trans k1
      have c2 := (kk 2).trans k2
      have c3 := (kk 3).trans k3
      clear kk
      go_wp2_with fail
      obtain ⟨k, hk⟩ : ∃ k, wr.heap.size = k := ⟨_, rfl⟩
      obtain ⟨w2, hw2⟩ : ∃ w2, wr.alloc (.cells #[.int .i64 a.what, .int .i64 a.n, .int .i64 a.keep, .slice B0 a.b.length cB] 45) = w2 := ⟨_, rfl⟩
      have q2 : DX W w2 W.heap.size W.heap.size s (fun w d f => (ByF w d f S ns cs ls ∧ ByF w d f A na ca la) ∧ BlkF w d f k (.cells #[.int .i64 a.what, .int .i64 a.n, .int .i64 a.keep, .slice B0 a.b.length cB] 45 (0, 0))) := by
        have hb2 : Below wr.heap.size wr w2 := by rw [← hw2]; exact (Below.refl _ _).alloc (Nat.le_refl _) _
        obtain ⟨v, g1, g2, g3⟩ := q
        refine ⟨v, g1.below hb2, g2.trans (hb2.mono (by have := hfin.out.2; omega)), ((stb_by _ _ _ _).and (stb_by _ _ _ _)) _ _ _ _ _ (FrmD.ofBelow hb2 _ _) (NewOr.refl _ _) g3, ?_, ?_, ?_⟩
        · rw [← hw2, ← hk]; exact heap_alloc_new wr _
        · have := (Array.getElem?_eq_some_iff.1 g1.cells).1; omega
        · intro e; have := (g1.file.lt _ e.symm).2; omega
      have hQ2 : Hid (Stb fun w d f => (ByF w d f S ns cs ls ∧ ByF w d f A na ca la) ∧ BlkF w d f k (.cells #[.int .i64 a.what, .int .i64 a.n, .int .i64 a.keep, .slice B0 a.b.length cB] 45 (0, 0))) :=
        ((stb_by _ _ _ _).and (stb_by _ _ _ _)).and (stb_blk _ _)
      have fok := q.dq.ok
      have hon := fn.on
      rw [hw2, hk]
      clear hw2 q c0 c1 c2 c3 k0 k1 k2 k3
      refine (DQ.isOff _ _ _ _ _ q2.dq).mono ?_
      rw [hon]
      rintro e w3 ⟨rfl, rfl⟩
      have cc : ∀ (w : World) (s : DS), DX W w W.heap.size W.heap.size s (fun w d f => (ByF w d f S ns cs ls ∧ ByF w d f A na ca la) ∧ BlkF w d f k (.cells #[.int .i64 a.what, .int .i64 a.n, .int .i64 a.keep, .slice B0 a.b.length cB] 45 (0, 0))) →
          w.cell? ⟨k, 0, none⟩ = some (.int .i64 a.what) ∧ w.cell? ⟨k, 1, none⟩ = some (.int .i64 a.n) ∧ w.cell? ⟨k, 2, none⟩ = some (.int .i64 a.keep) ∧ w.cell? ⟨k, 3, none⟩ = some (.slice B0 a.b.length cB) := fun w s h => by
        obtain ⟨_, _, _, _, h, _⟩ := h
        exact ⟨cell_of_row _ _ _ _ _ _ h, cell_of_row _ _ _ _ _ _ h, cell_of_row _ _ _ _ _ _ h, cell_of_row _ _ _ _ _ _ h⟩
      obtain ⟨c0, c1, c2, c3⟩ := cc _ _ q2
      have Hcc := Lib.hid cc
      clear cc
      have Hla : Hid (la.length = na) := by obtain ⟨_, _, _, ⟨_, g⟩, _⟩ := q2; exact g.1.len
      have Hlb : Hid (a.b.length ≤ 9223372036854775807) := hyB.n_le
      go_wp2_with fail
      all_goals first
        | (refine (DX.sync q2 hQ2.out).mono ?_
           rcases fn.sync fok with ⟨e1, hz⟩ | ⟨e1, hz⟩
           case' inl =>
             rw [show ((s.sync.1 : Nat) : Int) = 0 by rw [e1]; rfl]
             rintro e wz ⟨rfl, q4⟩
             clear e1
             go_wp2_with fail
             have qz : DX W wz W.heap.size W.heap.size s.sync.2 (fun w d f => ByF w d f A na ca la ∧ ByF w d f A na ca la) := q4.map fun _ _ _ h => ⟨h.1.2, h.1.2⟩
           case' inr =>
             rw [show ((s.sync.1 : Nat) : Int) = 4 by rw [e1]; rfl]
             rintro e wz ⟨rfl, q4⟩
             clear e1
             go_wp2_with fail
             have qz : DX W wz W.heap.size W.heap.size s.sync.2 (fun w d f => ByF w d f S ns cs ls ∧ ByF w d f A na ca la) := q4.map fun _ _ _ h => h.1)
        | (refine (DX.replace _ _ _ _ a.b q2 hQ2.out (hyB.below q2.dq.below (Nat.le_refl _)) (Nat.le_refl _)).mono ?_
           rcases fn.replace (lb := a.b) fok with ⟨e1, hz⟩ | ⟨e1, hz⟩ | ⟨e1, hz⟩
           case' inl =>
             rw [show (((s.replace a.b).1 : Nat) : Int) = 0 by rw [e1]; rfl]
             rintro e wz ⟨rfl, q4⟩
             clear e1
             have c43 := (Hcc.out _ _ q4).2.2.2
             go_wp2_with fail
             go_quiet (fail)
             have qz : DX W (wz.drewN nq) W.heap.size W.heap.size (s.replace a.b).2 (fun w d f => ByF w d f B0 a.b.length cB a.b ∧ ByF w d f B0 a.b.length cB a.b) := (q4.keep hQ2.out (below_drewN (Below.refl _ _) nq)).map fun _ g1 g2 _ => ⟨ByF.old g1 g2 hyB, ByF.old g1 g2 hyB⟩
             go_wp2_with fail
           case' inr.inl =>
             rw [show (((s.replace a.b).1 : Nat) : Int) = 4 by rw [e1]; rfl]
             rintro e wz ⟨rfl, q4⟩
             clear e1
             go_wp2_with fail
             have qz : DX W wz W.heap.size W.heap.size (s.replace a.b).2 (fun w d f => ByF w d f S ns cs ls ∧ ByF w d f A na ca la) := q4.map fun _ _ _ h => h.1
           case' inr.inr =>
             rw [show (((s.replace a.b).1 : Nat) : Int) = 5 by rw [e1]; rfl]
             rintro e wz ⟨rfl, q4⟩
             clear e1
             go_wp2_with fail
             have qz : DX W wz W.heap.size W.heap.size (s.replace a.b).2 (fun w d f => ByF w d f S ns cs ls ∧ ByF w d f A na ca la) := q4.map fun _ _ _ h => h.1)
        | (refine (DX.trip _ _ q2 hQ2.out hok.n hok.keep).mono ?_
           rintro e wz ⟨rfl, q4⟩
           have hz := fn.trip a.n a.keep
           go_wp2_with fail
           have qz : DX W wz W.heap.size W.heap.size (s.setTrip a.n a.keep) (fun w d f => ByF w d f S ns cs ls ∧ ByF w d f A na ca la) := q4.map fun _ _ _ h => h.1)
        | (refine (DX.crash _ q2 hQ2.out).mono ?_
           rintro e wz ⟨rfl, q4⟩
           have hz := fn.crash fok a.keep
           go_wp2_with fail
           have qz : DX W wz W.heap.size W.heap.size (s.crash a.keep) (fun w d f => ByF w d f S ns cs ls ∧ ByF w d f A na ca la) := q4.map fun _ _ _ h => h.1)
        | (refine (DX.start q2 hQ2.out).mono ?_
           rintro e wz ⟨rfl, q4⟩
           have hz := fn.start
           go_wp2_with fail
           have qz : DX W wz W.heap.size W.heap.size s.start (fun w d f => ByF w d f S ns cs ls ∧ ByF w d f A na ca la) := q4.map fun _ _ _ h => h.1)
        | (refine (DX.append _ _ _ _ a.b q2 hQ2.out (hyB.below q2.dq.below (Nat.le_refl _))).mono ?_
           have hs := fn.append (lb := a.b) fok
           have hfil : Hid ((s.append a.b).1 ≠ 5 → na + a.b.length ≤ 65536) := fun h5 => by
             have h1 := fok.room
             have h2 := fn.room
             have h3 := fn.file
             have h4 := Hla.out
             by_cases hb : s.room < s.file.length + a.b.length
             · exact absurd (by simp [DS.append, fn.on, hb]) h5
             · rw [h2, h3, h4] at hb; omega
           rcases hs with ⟨e1, hz⟩ | ⟨e1, hz⟩ | ⟨e1, hz⟩
           case' inr.inr =>
             rw [show (((s.append a.b).1 : Nat) : Int) = 5 by rw [e1]; rfl]
             rintro e wz ⟨rfl, q4⟩
             clear e1 hfil
             go_wp2_with fail
             have qz : DX W wz W.heap.size W.heap.size (s.append a.b).2 (fun w d f => ByF w d f S ns cs ls ∧ ByF w d f A na ca la) := q4.map fun _ _ _ h => h.1
           case' inl | inr.inl =>
             first
               | rw [show (((s.append a.b).1 : Nat) : Int) = 0 by rw [e1]; rfl]
               | rw [show (((s.append a.b).1 : Nat) : Int) = 4 by rw [e1]; rfl]
             have hsum : na + a.b.length ≤ 65536 := hfil.out (by rw [e1]; decide)
             rintro e w4 ⟨rfl, q4⟩
             clear e1 hfil
             have hz4 := q4.dq.size
             have hy4 : By w4 w4.heap.size A na ca la := by obtain ⟨_, _, _, ⟨_, g⟩, _⟩ := q4; exact g.1
             have Hc3 : Hid (∀ w', Below w4.heap.size w4 w' → w'.cell? ⟨k, 3, none⟩ = some (.slice B0 a.b.length cB)) := fun w' hb => by
               obtain ⟨_, _, _, _, g, _⟩ := q4
               exact (hb.cell (p := ⟨k, 3, none⟩) (Array.getElem?_eq_some_iff.1 g).1).trans (cell_of_row _ _ _ _ _ _ g)
             go_wp2_with fail
             go_region_held3 (fun w' => w'.cell? ⟨k, 3, none⟩ = some (.slice B0 a.b.length cB))
               ((first | assumption | exact Hc3.out _ (Below.drew (Below.refl _ _)) | exact Hc3.out _ hb12' | exact Hc3.out _ hb13))
               ((first
                 | (go_at_call 22
                    refine (Twin_any _ _ _ la _ w4.heap.size (hy4.below (Below.drew (Below.refl _ _)) (Nat.le_refl _)) (by omega)).mono ?_
                    rintro e w12 ⟨v12, rfl, ho12, hb12⟩
                    obtain ⟨A12, c12, rfl, hy12⟩ := own_by ho12 Hla.out
                    have hb12' : Below w4.heap.size w4 w12 := (Below.drew (Below.refl _ _)).trans hb12)
                 | (refine step_appB rfl (.tmp 60) (.tmp 62) rfl w4.heap.size (.slice A12 na c12) la rfl ho12 W.heap.size B0 a.b.length cB a.b rfl (hyB.below (q4.dq.below.trans (hb12'.mono (Nat.le_of_lt hz4))) (Nat.le_refl _)) (by rw [Hla.out]; omega) hb12'.size ?_
                    intro v13 wz ho13 hg13
                    have hb13 : Below w4.heap.size w4 wz := hb12'.grown hg13 hb12'.size (fun k hk => (ho12.lt k hk).1)
                    obtain ⟨A13, c13, rfl, hy13⟩ := own_by ho13 (n := na + a.b.length) (by simp [Hla.out]))))
             have qz : DX W wz W.heap.size W.heap.size (s.append a.b).2 (fun w d f => ByF w d f S ns cs ls ∧ ByF w d f A13 (na + a.b.length) c13 (la ++ a.b)) := by
               obtain ⟨v4, g1, g2, ⟨gS, gA⟩, gB⟩ := q4
               exact ⟨v4, g1.below hb13, g2.trans (hb13.mono (Nat.le_of_lt hz4)), stb_by _ _ _ _ _ _ _ _ _ (FrmD.ofBelow hb13 _ _) (NewOr.refl _ _) gS, ByF.fresh g1 ho13 (by simp [Hla.out])⟩
             clear hb12 hb12' hb13 ho12 ho13 hy12 hy13 hy4 hg13 hz4
             go_wp2_with fail)
      all_goals clear c0 c1 c2 c3 hQ2 q2 q4 Hcc
      all_goals refine (DQ.isOff _ _ _ _ _ qz.dq).mono ?_
      all_goals first
        | (have hon2 := hz.on
           rw [hon2]
           rintro e w5 ⟨rfl, rfl⟩
           clear hon2
           go_wp2_with fail
           go_roundg (gk - 1)
           case' rel => exact ⟨i + 1, _, _, _, _, _, _, _, _, _, by have := Hig.out; omega, rfl, rfl, by go_num, hz, qz⟩
           case' measure => (have := Hig.out; omega))
        | (obtain ⟨bz, hz⟩ := hz
           rw [hz.off]
           rintro e w5 ⟨rfl, rfl⟩
           go_wp2_with fail
           refine (DX.start qz ((stb_by _ _ _ _).and (stb_by _ _ _ _))).mono ?_
           rintro e w6 ⟨rfl, q6⟩
           have fz := hz.start
           obtain ⟨nb, hnb⟩ : ∃ nb, Hid (bz.length = nb) := ⟨_, rfl⟩
           go_wp2_with fail
           refine (DX.readOn q6 ((stb_by _ _ _ _).and (stb_by _ _ _ _)) fz.on fz.file hnb.out).mono ?_
           rintro e w7 ⟨q7, hb7, A7, c7, rfl, ho7⟩
           have hw6 := q6.dq.size
           obtain ⟨v6, g61, g62, _⟩ := q6
           have gb := ByF.fresh g61 ho7 hnb.out
           have q8 : DX W w7 W.heap.size W.heap.size _ (fun w d f => ByF w d f A7 nb c7 bz ∧ ByF w d f A7 nb c7 bz) := ⟨v6, g61.below hb7, g62.trans (hb7.mono (Nat.le_of_lt hw6)), gb, gb⟩
           obtain ⟨v7, g1, g2, gS, gA⟩ := q7
           have hle1 := gS.le hnb.out hz.least
           have hge1 := gA.ge hnb.out hz.most
           obtain ⟨A8, c8, hsl8, hy8⟩ := By.cutH (P := Try.prog) 22 5 Try.underlying22 size_u8 gA.1 nb (nb : Int) rfl hge1
           have hpre := hz.pre
           rw [hnb.out] at hpre
           rw [hpre] at hy8
           have hcap8 := gA.1.n_le
           clear hpre gS gA g1 g2 g61 g62 qz ho7 hb7
           go_wp2_with fail
           refine (Bytes_same _ _ _ _ _ _ bz _ _ _ gb.1 hy8).mono ?_
           rintro e w9 ⟨rfl, k9, rfl⟩
           have q9 := q8.keep ((stb_by _ _ _ _).and (stb_by _ _ _ _)) (below_drewN (Below.refl _ _) k9)
           go_wp2_with fail
           go_roundg (gk - 1)
           case' rel => exact ⟨i + 1, _, _, _, _, _, _, _, _, _, by have := Hig.out; omega, rfl, rfl, by go_num, fz, q9⟩
           case' measure => (have := Hig.out; omega))
end Go.Proofs.Ytlopeflgleplfaa
