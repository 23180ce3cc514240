/-
  The walks of skerrylaw03.few and FrameCuts.
-/
import Derived.Test.YtbhckbhdjdmgaaaMany
namespace Go.Proofs.Ytbhckbhdjdmgaaa
open Go.RowKit
set_option maxHeartbeats 800000 in
theorem few_any (A : Option Addr) (n cap : Nat) (l : List (List UInt8)) (w : World) (B : Nat) (hb : RdRows w B A n cap l) :
    Calls Try.prog 23 #[.slice A n cap] w fun e w' => e = .returned (.bool (fewB l)) ∧ w = w' := by
  have h1 : n ≤ 9223372036854775807 := by have := hb.caps; unfold maxLen at this; omega
  have hlen := hb.len
  by_cases hn : 60 < n
  · have hr : fewB l = false := by simp [fewB]; omega
    rw [hr]
    clear hr hlen
    go_enter Try.func23, Try.ntmps23
    go_wp2_with fail
    go_ret
    exact ⟨rfl, rfl⟩
  have Hl := Lib.hid hlen
  clear hlen
  go_enter Try.func23, Try.ntmps23
  go_wp2_with fail
  go_loopg [3] n (fun m s3 wr => w = wr ∧ ∃ k : Nat, k + m = n ∧ s3 = .int .i64 k ∧ (l.take k).all (fun p => decide (p.length ≤ 500)) = true)
  case atStart => exact ⟨rfl, 0, by omega, rfl, by simp⟩
  case round =>
    obtain ⟨rfl, k, hk, rfl, hall⟩ := hrel
    have hkn : k ≤ n := by omega
    have Hk := Lib.hid hk
    have Ha := Lib.hid hall
    clear hk hall
    by_cases hlt : k < n
    · obtain ⟨b, off, A1, m1, c1, r, rfl, hbB, hc, hy, Hc⟩ := hb.step hlt
      have hm1 : m1 ≤ 9223372036854775807 := by have := hy.2.1; have := hy.2.2.1; unfold maxLen at this; omega
      have Hr : Hid (r.length = m1) := hy.len
      by_cases h5 : 500 < m1
      · go_wp2_with fail
        go_ret
        refine ⟨ret_bool ?_, rfl⟩
        symm
        have hmem : r ∈ l := List.mem_of_getElem? Hc.out.1
        simp only [fewB, Bool.and_eq_false_iff]
        right
        rw [List.all_eq_false]
        exact ⟨r, hmem, by simp [Hr.out]; omega⟩
      · go_wp2_with fail
        go_roundg (gk - 1)
        case rel =>
          refine ⟨rfl, k + 1, by have := Hk.out; omega, by go_num, ?_⟩
          rw [Hc.out.2, List.all_append, Ha.out]
          simp [Hr.out]
          omega
        case measure => have := Hk.out; omega
    · go_wp2_with fail
      go_ret
      refine ⟨ret_bool ?_, rfl⟩
      have e1 : l.take k = l := List.take_of_length_le (by have := Hl.out; omega)
      have ha := Ha.out
      rw [e1] at ha
      have := Hl.out
      simp [fewB, ha]
      omega
theorem few_all {l : List (List UInt8)} (h : fewB l = true) : l.length ≤ 60 ∧ ∀ p ∈ l, p.length ≤ 500 := by
  simp only [fewB, Bool.and_eq_true, decide_eq_true_eq, List.all_eq_true] at h
  exact h
theorem info_int : (Try.prog.info? 3).map (fun i => (i.zero, i.size, i.bytes)) = some (some (.int .i64 0), 1, 8) := by kernel_rfl
/-- A row of numbers of the call's own. -/
def iv (k : Nat) : Value := .int .i64 (k : Int)
def OwnI (w : World) (base : Nat) (v : Value) (l : List Nat) : Prop := w.ownsRow base 3 1 v l.length (l.map iv)
/-- Where the frames end. -/
def ends (l : List (List UInt8)) : List Nat := (List.range (l.length + 1)).map fun j => (frms (l.take j)).length
theorem ends_snoc (l : List (List UInt8)) (p : List UInt8) : ends (l ++ [p]) = ends l ++ [(frms (l ++ [p])).length] := by
  unfold ends
  rw [List.length_append, List.length_singleton, List.range_succ, List.map_append]
  congr 1
  · apply List.map_congr_left
    intro j hj
    rw [List.take_append_of_le_length (by simp at hj; omega)]
  · simp [List.take_of_length_le]
theorem ends_at (l : List (List UInt8)) (j : Nat) (h : j ≤ l.length) : (ends l)[j]? = some (frms (l.take j)).length := by
  simp [ends, show j < l.length + 1 by omega]
theorem scan_cut (l : List (List UInt8)) (cut k : Nat) (h : ∀ p ∈ l, p.length ≤ 500) (hk : k ≤ l.length) (h1 : (frms (l.take k)).length ≤ cut) (h2 : k = l.length ∨ cut < (frms (l.take (k + 1))).length) :
    scan ((frms l).take cut) = (l.take k, (frms (l.take k)).length) := by
  have e : frms l = frms (l.take k) ++ frms (l.drop k) := by
    unfold frms
    rw [← List.flatMap_append, List.take_append_drop]
  rw [e, List.take_append, List.take_of_length_le h1, scan_frms _ _ (fun p hp => h p (List.mem_of_mem_take hp))]
  have hz : scan ((frms (l.drop k)).take (cut - (frms (l.take k)).length)) = ([], 0) := by
    rcases h2 with h2 | h2
    · subst h2
      simp [frms, scan_nil]
    · by_cases hkl : k < l.length
      · have hd : l.drop k = l[k] :: l.drop (k + 1) := List.drop_eq_getElem_cons hkl
        have e2 : frms (l.drop k) = frm l[k] ++ frms (l.drop (k + 1)) := by unfold frms; rw [hd, List.flatMap_cons]
        have e3 : frms (l.take (k + 1)) = frms (l.take k) ++ frm l[k] := by rw [List.take_succ_eq_append_getElem hkl, frms_snoc]
        rw [e3, List.length_append, frm_length] at h2
        have hp := h l[k] (by simp)
        rw [e2]
        exact scan_none (first_cut _ _ _ (by omega) (by omega))
      · rw [List.drop_of_length_le (by omega)]
        simp [frms, scan_nil]
  rw [hz]
  simp
theorem wrap_u64_nn (x : Int) : 0 ≤ IntKind.u64.wrap x := by simp [IntKind.wrap, IntKind.bits, IntKind.signed]; omega
theorem ints_one (w : World) : OwnI (w.alloc (.cells #[.int .i64 0] 3)) w.heap.size (.slice (some ⟨w.heap.size, 0, none⟩) 1 1) (ends []) :=
  ⟨rfl, .inr ⟨w.heap.size, 1, _, rfl, Nat.le_refl _, heap_alloc_new w _, Nat.le_refl _, by decide, rfl, rfl⟩⟩
theorem ivs_one {l : List Nat} : ∀ u ∈ l.map iv, u.oneCell' = true := by
  intro u hu
  obtain ⟨c, _, rfl⟩ := List.mem_map.1 hu
  rfl
def CutRel (w : World) (l : List (List UInt8)) (k : Nat) (v5 v6 : Value) (wr : World) : Prop :=
  Below w.heap.size w wr ∧ OwnB wr w.heap.size v5 (frms (l.take k)) ∧ OwnI wr w.heap.size v6 (ends (l.take k))
set_option maxRecDepth 100000 in
set_option maxHeartbeats 3200000 in
theorem cuts_walk (A : Option Addr) (n cap : Nat) (l : List (List UInt8)) (x1 : Int) (w : World) (hb : RdRows w w.heap.size A n cap l) :
    Calls Try.prog 7 #[.slice A n cap, .int .i64 x1] w fun e w' => e = .returned (.bool true) ∧ Below w.heap.size w w' := by
  obtain ⟨i0, hi, hz0, hz1, hz2⟩ := info_parts info_int
  obtain ⟨D, hD⟩ : ∃ D, fewB l = D := ⟨_, rfl⟩
  have hfew := few_any A n cap l w _ hb
  rw [hD] at hfew
  have hlen := hb.len
  have hcaps := hb.caps
  have Hfew := Lib.hid hfew
  clear hfew
  cases D
  · clear hD hlen
    go_enter Try.func7, Try.ntmps7
    go_wp2_with (go_at_call 23; refine Hfew.out.mono ?_; rintro e w1 ⟨rfl, rfl⟩)
    go_ret
    exact ⟨rfl, Below.refl _ _⟩
  obtain ⟨hn60, hall⟩ := few_all hD
  have hn : n ≤ 60 := by omega
  have Hall := Lib.hid hall
  have Hl := Lib.hid hlen
  have hLk : ∀ k, (frms (l.take k)).length ≤ 30540 := fun k => by
    have h1 := frms_len (l.take k) (fun p hp => hall p (List.mem_of_mem_take hp))
    have h2 : (l.take k).length ≤ 60 := by simp; omega
    omega
  have HLk := Lib.hid hLk
  clear hD hlen hall hLk hn60
  go_enter Try.func7, Try.ntmps7
  go_wp2_with (go_at_call 23; refine Hfew.out.mono ?_; rintro e w1 ⟨rfl, rfl⟩)
  clear Hfew
  go_loopg [5, 6, 7] n (fun m s5 s6 s7 wr => ∃ k : Nat, k + m = n ∧ s7 = .int .i64 k ∧ CutRel w l k s5 s6 wr)
  case atStart => exact ⟨0, by omega, rfl, (Below.refl _ _).alloc (Nat.le_refl _) _, World.ownsRow_nil _ _ _ _, ints_one w⟩
  case round =>
    obtain ⟨k, hk, rfl, hbw, ho5, ho6⟩ := hrel
    have hkn : k ≤ n := by omega
    have Hk := Lib.hid hk
    clear hk
    have hbr := hb.below hbw (Nat.le_refl _)
    by_cases hlt : k < n
    · obtain ⟨b, off, A1, m1, c1, r, rfl, hbB, hc, hy, Hc⟩ := hbr.step hlt
      have hmem : r ∈ l := List.mem_of_getElem? Hc.out.1
      have Hr : Hid (r.length = m1) := hy.len
      have hm1 : m1 ≤ 500 := by have := Hall.out r hmem; have := Hr.out; omega
      have Hf : Hid (frms (l.take (k + 1)) = frms (l.take k) ++ frm r) := by unfold Hid; rw [Hc.out.2, frms_snoc]
      have He : Hid (ends (l.take (k + 1)) = ends (l.take k) ++ [(frms (l.take (k + 1))).length]) := by unfold Hid; rw [Hc.out.2, ends_snoc]
      have hL0 := HLk.out k
      have hL1 := HLk.out (k + 1)
      obtain ⟨L, hL⟩ : ∃ L, Hid ((frms (l.take (k + 1))).length = L) := ⟨_, rfl⟩
      rw [hL.out] at hL1
      have hel : Hid ((ends (l.take k)).length = k + 1) := by unfold Hid ends; simp; have := Hl.out; omega
      clear hmem
      go_wp2_with fail
      refine (Seal_any _ _ _ _ _ _ hbw.size hy (by omega)).mono ?_
      rintro e w2 ⟨v2, rfl, ho2, hb2⟩
      obtain ⟨A2, c2, rfl, hy2⟩ := own_by ho2 (n := m1 + 9) (by rw [frm_length, Hr.out])
      have hbw2 := hbw.trans (hb2.mono hbw.size)
      have ho52 := ho5.below hb2
      have ho62 : OwnI w2 w.heap.size u6 (ends (l.take k)) := own_below ho6 hb2
      go_wp2_with (first
        | (at_builtin
           refine wpList_appB rfl (.tmp 34) (.tmp 35) rfl w.heap.size u5 _ rfl ho52 w2.heap.size A2 (m1 + 9) c2 (frm r) rfl hy2 (by omega) hbw2.size ?_
           intro v3 w3 ho3 hg3
           rw [← Hf.out] at ho3
           obtain ⟨A3, c3, rfl, hy3⟩ := own_by ho3 hL.out
           have hbw3 : Below w.heap.size w w3 := hbw2.grown hg3 hbw2.size (fun j hj => (ho52.lt j hj).1)
           have ho63 : OwnI w3 w.heap.size u6 (ends (l.take k)) := World.ownsRow.kept ho62 hg3 (own_ne (e := 3) ho62 ho52 (by decide)))
        | (at_builtin
           refine wpList_app rfl (.tmp 37) (.tmp 40) _ rfl w.heap.size 3 i0 _ 1 8 Try.underlying45 hi hz0 hz1 hz2 rfl (by omega) u6 _ _ rfl (World.ownsRow.alloc ho63 _) (w3.heap.size + 1) (some ⟨w3.heap.size, 0, none⟩) 1 1 [.int .i64 L] rfl (rd_one _ _ _) (one_one rfl) ?c3 ?c4 ?c5 ?_
           case c3 => rw [hel.out]; simp only [maxLen]; omega
           case c4 => rw [hel.out]; omega
           case c5 => simp; have := hbw3.size; omega
           intro v4 w4 ho4 hg4 _))
      have ho4' : OwnI w4 w.heap.size v4 (ends (l.take (k + 1))) := by
        unfold OwnI
        rw [He.out, hL.out, List.length_append, List.map_append]
        exact ho4
      have ho34 : OwnB w4 w.heap.size (.slice A3 L c3) (frms (l.take (k + 1))) := World.ownsRow.kept (World.ownsRow.alloc ho3 _) hg4 (own_ne (e := 5) ho3 ho63 (by decide))
      have hbw4 : Below w.heap.size w w4 := (hbw3.alloc hbw3.size _).grown hg4 (by simp; have := hbw3.size; omega) (fun j hj => (ho63.lt j hj).1)
      go_roundg (gk - 1)
      case rel => exact ⟨k + 1, by have := Hk.out; omega, by go_num, hbw4, ho34, ho4'⟩
      case measure => have := Hk.out; omega
    · obtain rfl : k = n := by omega
      have e1 : l.take k = l := List.take_of_length_le (by have := Hl.out; omega)
      have hL0 := HLk.out k
      rw [e1] at ho5 ho6 hL0
      clear e1
      obtain ⟨L, hL⟩ : ∃ L, Hid ((frms l).length = L) := ⟨_, rfl⟩
      rw [hL.out] at hL0
      obtain ⟨A5, c5, rfl, hy5⟩ := own_by ho5 hL.out
      obtain ⟨T, hT, hat⟩ : ∃ T : Nat, T ≤ L ∧ (IntKind.u64.wrap x1).tmod ((L : Int) + 1) = (T : Int) := by
        have e : (IntKind.u64.wrap x1).tmod ((L : Int) + 1) = (IntKind.u64.wrap x1) % ((L : Int) + 1) := Int.tmod_eq_emod_of_nonneg (wrap_u64_nn x1)
        rw [e]
        have a := Int.emod_nonneg (IntKind.u64.wrap x1) (show ((L : Int) + 1) ≠ 0 by omega)
        have b := Int.emod_lt_of_pos (IntKind.u64.wrap x1) (show (0 : Int) < (L : Int) + 1 by omega)
        exact ⟨((IntKind.u64.wrap x1) % ((L : Int) + 1)).toNat, by omega, by omega⟩
      have hel6 : (ends l).length = k + 1 := by unfold ends; simp; have := Hl.out; omega
      unfold OwnI at ho6
      rw [hel6] at ho6
      obtain ⟨A6, c6, rfl, hr6⟩ := Rd.of_own ho6
      clear hel6
      have hE : ∀ j, j ≤ k → ∃ b off E, A6 = some ⟨b, off, none⟩ ∧ wr.cell? ⟨b, off + j, none⟩ = some (.int .i64 (E : Nat)) ∧ Hid ((frms (l.take j)).length = E) := by
        intro j hj
        obtain ⟨b, off, rfl, _, hc⟩ := hr6.2.2.2 (by omega)
        have h := ends_at l j (by have := Hl.out; omega)
        exact ⟨b, off, _, rfl, hc j (iv _) (by rw [List.getElem?_map, h]; rfl), rfl⟩
      obtain ⟨b6, off6, _, rfl, _, _⟩ := hE 0 (by omega)
      have HE := Lib.hid hE
      clear hE
      go_wp2_with fail
      go_loopg [11] k (fun m s11 wr2 => wr = wr2 ∧ ∃ j : Nat, j + m = k ∧ s11 = .int .i64 j ∧ (frms (l.take j)).length ≤ T)
      case atStart => exact ⟨rfl, 0, by omega, rfl, by simp [frms]⟩
      case round =>
        obtain ⟨rfl, j, hj, rfl, hjT⟩ := hrel
        have HjT := Lib.hid hjT
        have hjk : j ≤ k := by omega
        have Hj := Lib.hid hj
        clear hj hjT
        obtain ⟨b0, off0, E0, e0, hc0, hE0⟩ := HE.out j hjk
        injection e0 with e0
        injection e0 with e1 e2
        subst e1 e2
        by_cases hcont : j < k ∧ (frms (l.take (j + 1))).length ≤ T
        · obtain ⟨hlt, hle⟩ := hcont
          obtain ⟨b1, off1, E1, e0, hc1, hE1⟩ := HE.out (j + 1) (by omega)
          injection e0 with e0
          injection e0 with e1 e2
          subst e1 e2
          rw [hE1.out] at hle
          have hc1' := hc1
          rw [← Nat.add_assoc] at hc1'
          go_wp2_with fail
          go_roundg (gk - 1)
          case rel => exact ⟨rfl, j + 1, by have := Hj.out; omega, by go_num, by rw [hE1.out]; exact hle⟩
          case measure => have := Hj.out; omega
        · have hsc : Hid (scan ((frms l).take T) = (l.take j, E0)) := by
            have := scan_cut l T j Hall.out (by have := Hl.out; omega) HjT.out (by have := Hl.out; omega)
            rw [hE0.out] at this
            exact this
          have hyT := Rd.take hy5 T (by omega)
          have hyT' : By wr wr.heap.size A5 T c5 ((frms l).take T) := by unfold By; simpa using hyT
          clear hyT
          have hslT := run_sliceH (P := Try.prog) 22 5 Try.underlying22 size_u8 A5 L c5 T (T : Int) rfl (by have := hy5.2.1; omega)
          have hslk := run_sliceH (P := Try.prog) 40 22 Try.underlying40 (by kernel_rfl) A k cap j (j : Int) rfl (by omega)
          have hEE : ((E0 : Int) == (E0 : Int)) = true := by simp
          have Hjl : Hid ((l.take j).length = j) := by unfold Hid; rw [List.length_take]; have := Hl.out; omega
          by_cases hlt : j < k
          case' pos =>
            obtain ⟨b1, off1, E1, e0, hc1, hE1⟩ := HE.out (j + 1) (by omega)
            injection e0 with e0
            injection e0 with e1 e2
            subst e1 e2
            have hc1' := hc1
            rw [← Nat.add_assoc] at hc1'
            have hnle : ¬ ((E1 : Int) ≤ (T : Int)) := by have := hE1.out; omega
            clear hcont
            go_wp2_with fail
          case' neg =>
            clear hcont
            go_wp2_with fail
          all_goals
            refine (Scan_any _ _ _ _ _ _ (Nat.le_refl _) hyT' (by omega)).mono ?_
            rw [hsc.out]
            rintro e w5 ⟨v5, rfl, ho5', hb5⟩
            obtain ⟨A7, c7, rfl, hr7⟩ := ho5'.rd Hjl.out
            have hbw5 := hbw.trans (hb5.mono hbw.size)
            have hc05 : w5.cell? ⟨b6, off6 + j, none⟩ = some (.int .i64 (E0 : Int)) := (hb5.cell (p := ⟨b6, off6 + j, none⟩) (World.block_lt_of_cell? _ _ hc0)).trans hc0
            go_wp2_with fail
            refine (Rows_same _ _ _ _ _ _ _ _ _ _ hr7 ((hb.below hbw5 (Nat.le_refl _)).take j (by omega))).mono ?_
            rintro e w8 ⟨rfl, k8, rfl⟩
            go_wp2_with fail
            refine (wakes_any _).mono ?_
            rintro e w9 ⟨rfl, hb9⟩
            go_wp2_with fail
            go_ret
            have hbf := below_drewN hbw5 k8
            exact ⟨rfl, hbf.trans (hb9.mono hbf.size)⟩
end Go.Proofs.Ytbhckbhdjdmgaaa
