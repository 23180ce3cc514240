/-
  The walk of ReportLogs.
-/
import Derived.Test.YtkckncggiicciaaDoorRlogs
import Derived.Test.YtkckncggiicciaaDoorRlag
namespace Go.Proofs.YtkckncggiicciaaDoor
open Go.RowKit
set_option maxRecDepth 100000
set_option maxHeartbeats 12800000 in
theorem logs_walk (h : Hd) (S : Option Addr) (sn sc : Nat) (A : Option Addr) (m c : Nat) (es : List En) (v : Va) (W : World) (hy : EnRows W W.heap.size A m c es) (hl : es.length = m) (hin : ∀ e ∈ es, e.In) (hst : ∀ e ∈ es, e.Str)
    (_hbase : In64 h.base) (hvx : v.x < 18446744073709551616) (hvs : v.s.size ≤ maxLen) (hT : TzAt W) (hI : ItAt W) :
    Calls Tryd.prog 5 #[.agg #[.int .i64 h.term, .int .i64 h.vote, .int .i64 h.base, .int .i64 h.bt, .int .i64 h.full, .int .i64 h.wit, .int .i64 h.learn, .int .i64 h.lw, .slice S sn sc, .slice A m c], .agg #[.int .i64 v.k, .float .f64 v.x, .string v.s]] W
      fun e w' => e = .returned (.bool true) ∧ Below W.heap.size W w' := by
  have hcap : m ≤ c := hy.2.1
  obtain ⟨W2, hW2⟩ : ∃ W2, (W.alloc (.cells #[.int .i64 h.term, .int .i64 h.vote, .int .i64 h.base, .int .i64 h.bt, .int .i64 h.full, .int .i64 h.wit, .int .i64 h.learn, .int .i64 h.lw, .slice S sn sc, .slice A m c] 29)).alloc (.cells #[.int .i64 v.k, .float .f64 v.x, .string v.s] 56) = W2 := ⟨_, rfl⟩
  have hb2 : Below W.heap.size W W2 := by rw [← hW2]; exact two_below _ _ _
  have hz2 : W2.heap.size = W.heap.size + 2 := by rw [← hW2]; simp
  have hr0 : W2.heap[W.heap.size]? = some (.cells #[.int .i64 h.term, .int .i64 h.vote, .int .i64 h.base, .int .i64 h.bt, .int .i64 h.full, .int .i64 h.wit, .int .i64 h.learn, .int .i64 h.lw, .slice S sn sc, .slice A m c] 29 (0, 0)) := by
    rw [← hW2, Below.heap_alloc _ _ _ (by simp)]
    exact heap_alloc_new W _
  have hr1 : W2.heap[W.heap.size + 1]? = some (.cells #[.int .i64 v.k, .float .f64 v.x, .string v.s] 56 (0, 0)) := by
    rw [← hW2]
    exact heap_alloc2_new W _ _
  have HR : Hid (∀ w', Below W2.heap.size W2 w' → w'.heap[W.heap.size]? = some (.cells #[.int .i64 h.term, .int .i64 h.vote, .int .i64 h.base, .int .i64 h.bt, .int .i64 h.full, .int .i64 h.wit, .int .i64 h.learn, .int .i64 h.lw, .slice S sn sc, .slice A m c] 29 (0, 0))) := fun w' hb => (hb.block _ (by omega)).trans hr0
  have Hrow : Hid (∀ w', Below W2.heap.size W2 w' → w'.cell? ⟨W.heap.size, 2, none⟩ = some (.int .i64 h.base) ∧ w'.cell? ⟨W.heap.size, 9, none⟩ = some (.slice A m c) ∧ w'.cell? ⟨W.heap.size + 1, 0, none⟩ = some (.int .i64 v.k) ∧ w'.cell? ⟨W.heap.size + 1, 1, none⟩ = some (.float .f64 v.x) ∧ w'.cell? ⟨W.heap.size + 1, 2, none⟩ = some (.string v.s)) := fun w' hb => by
    have q0 := (hb.block W.heap.size (by omega)).trans hr0
    have q1 := (hb.block (W.heap.size + 1) (by omega)).trans hr1
    exact ⟨cell_of_row _ _ _ _ _ _ q0, cell_of_row _ _ _ _ _ _ q0, cell_of_row _ _ _ _ _ _ q1, cell_of_row _ _ _ _ _ _ q1, cell_of_row _ _ _ _ _ _ q1⟩
  have Hup : Hid (∀ w', Below W2.heap.size W2 w' → Below W.heap.size W w') := fun w' hb => hb2.trans (hb.mono (by omega))
  have HY : Hid (∀ w', Below W2.heap.size W2 w' → EnRows w' w'.heap.size A m c es) := fun w' hb => (Rd.below hy (Hup.out w' hb) (Nat.le_refl _)).mono (Hup.out w' hb).size
  have HHv : Hid (∀ w', Below W2.heap.size W2 w' → Calls Tryd.prog 23 #[.agg #[.int .i64 h.term, .int .i64 h.vote, .int .i64 h.base, .int .i64 h.bt, .int .i64 h.full, .int .i64 h.wit, .int .i64 h.learn, .int .i64 h.lw, .slice S sn sc, .slice A m c]] w' (HvPost m w')) := fun w' hb =>
    Heavy_any (h.cells S sn sc A m c) h.base h.bt A m c S sn sc es w' (h.at S sn sc A m c) (HY.out w' hb) hl hst
  have HLg : Hid (m ≤ 1000 → ∀ w', Below W2.heap.size W2 w' → Calls Tryd.prog 16 #[.agg (h.raft S sn sc A m c).toArray] w' (RlogPost h.base es w')) := fun hm w' hb =>
    RLog_any (h.raft S sn sc A m c) 0 h.term h.base h.bt 0 0 0 A m c es w' (h.raft_at S sn sc A m c) (HY.out w' hb) hl hm hin (hI.below (Hup.out w' hb))
  have HWK : Hid (∀ w', Below W2.heap.size W2 w' → Calls Tryd.prog 9 #[] w' fun e w'' => e = .returned (.bool true) ∧ Below w'.heap.size w' w'') := fun w' hb => rwakes_any w' (hI.below (Hup.out w' hb))
  have HW2 := Lib.hid hW2
  have hbq : Below W2.heap.size W2 W2 := Below.refl _ _
  have hvs' := hvs
  unfold maxLen at hvs'
  have Hfin : Hid (∀ w', Below W2.heap.size W2 w' → (Ending.returned (Value.bool true)) = .returned (.bool true) ∧ Below W.heap.size W w') := fun w' hb => ⟨rfl, Hup.out w' hb⟩
  clear hW2 hr0 hr1
  have Hl := Lib.hid hl
  have HIn := Lib.hid hin
  have HT := Lib.hid hT
  have HI := Lib.hid hI
  clear hy hl hin hst hT hI
  go_enter Tryd.func5, Tryd.ntmps5
  go_wp2_with fail
  rw [HW2.out]
  refine (HHv.out _ hbq).mono ?_
  rintro e w3 ⟨⟨hv, rfl, hm⟩, hb3⟩
  have hbq3 := bstep hbq hb3
  have Hm := Lib.hid hm
  obtain ⟨y0, y1, y2, y3, y4⟩ := Hrow.out _ hbq3
  clear hb3 hm hbq
  cases hv
  case' true =>
    go_wp2_with fail
    go_ret
    exact ⟨rfl, Hup.out _ hbq3⟩
  rcases Decidable.em (2000 < v.s.size) with hbig | hbig
  · go_wp2_with fail
    go_ret
    exact ⟨rfl, Hup.out _ hbq3⟩
  have hm2 : m ≤ 200 := Hm.out rfl
  clear Hm
  go_wp2_with (refine wpList_load_row rfl 29 (.tmp 2) rfl W.heap.size rfl 29 _ (0, 0) _ (HR.out _ hbq3) Tryd.underlying29 rfl size10 ?_)
  refine (HLg.out (by omega) _ hbq3).mono ?_
  intro e w4 hpost
  unfold RlogPost at hpost
  obtain ⟨hpost, hb4⟩ := hpost
  have hbq4 := bstep hbq3 hb4
  obtain ⟨z0, z1, z2, z3, z4⟩ := Hrow.out _ hbq4
  rcases Decidable.em (0 ≤ h.base ∧ h.base ≤ 1099511627776) with hinb | hinb
  case' inr =>
    have hlb : logB h.base = false := by unfold logB; simp; omega
    rw [if_neg (by rw [hlb]; decide)] at hpost
    subst hpost
    clear hlb y0 y1 y2 y3 y4 HLg HHv HY hb4
    rcases Decidable.em (h.base < 0) with hn | hn
    case' inr => have hg : 1099511627776 < h.base := by omega
    all_goals
      clear hinb
      go_wp2_with (refine (HWK.out _ hbq4).mono ?_; rintro e w9 ⟨rfl, hb9⟩)
      go_ret
      exact ⟨rfl, Hup.out _ (bstep hbq4 hb9)⟩
  have hlb : logB h.base = true := by unfold logB; simp; omega
  rw [if_pos hlb] at hpost
  obtain ⟨vv, rfl, ho⟩ := hpost
  obtain ⟨A4, c4, rfl, hr4⟩ := ownS_rd ho (n := m) (by rw [logL_len, Hl.out])
  have HYe := Lib.hid (HY.out _ hbq4)
  have HA : Hid (∀ i, i < m → ∃ b4 off4 e b off, A4 = some ⟨b4, off4, none⟩ ∧ b4 < w4.heap.size ∧ w4.cell? ⟨b4, off4 + i, none⟩ = some (.string ⟨(entL (h.base + i + 1) e).toArray⟩) ∧ A = some ⟨b, off, none⟩ ∧ b < w4.heap.size ∧ w4.cell? ⟨b, off + i * 16, none⟩ = some (.int .i64 e.term) ∧ e.In) := fun i hi => by
    obtain ⟨b, off, e, q1, q2, q3, q4, q5, q6⟩ := en_row HYe.out Hl.out hi
    obtain ⟨_, _, _, hrr⟩ := hr4
    obtain ⟨b4, off4, rfl, hb4', hcell⟩ := hrr (by omega)
    refine ⟨b4, off4, e, b, off, rfl, hb4', ?_, q1, q2, ?_, HIn.out e q5⟩
    · refine hcell i _ ?_
      unfold logL
      rw [List.getElem?_map, List.getElem?_map, List.getElem?_range (by rw [Hl.out]; exact hi)]
      show some (sV (entL (h.base + i + 1) (es.getD i e0))) = _
      rw [q4]
      rfl
    · have := q6 0 _ (show e.cells[0]? = some (.int .i64 e.term) from rfl)
      rwa [Nat.add_zero] at this
  obtain ⟨hi0, hi1⟩ := hinb
  have Hr4 := Lib.hid hr4.1
  have hmc : m ≤ c4 := hr4.2.1
  clear hlb ho hr4 y0 y1 y2 y3 y4 HLg HHv HY hb4 HYe HR
  go_wp2_with fail
  go_loopg [6, 7] m (fun g s6 s7 wr => ∃ i : Nat, i + g = m ∧ s6 = .int .i64 i ∧ Below w4.heap.size w4 wr)
  case atStart => exact ⟨0, by omega, rfl, Below.refl _ _⟩
  case round =>
    obtain ⟨i, hig, rfl, hb5⟩ := hrel
    have Hig := Lib.hid hig
    have him : i ≤ m := by omega
    clear hig z0 z1 z2 z3 z4
    have hbq5 := bstep hbq4 hb5
    by_cases hlt : i < m
    · obtain ⟨b4, off4, e, b, off, rfl, hb4, hc4, rfl, hbb, hce, hei⟩ := HA.out i hlt
      have hidx : In64 (h.base + (i : Int) + 1) := by unfold In64; omega
      have hll := entL_len hidx hei
      obtain ⟨r, hsp⟩ := ent_words (h.base + i + 1) e
      have hrp := cutW_pos r []
      obtain ⟨LB, hLB⟩ : ∃ LB, (⟨(entL (h.base + i + 1) e).toArray⟩ : ByteArray) = LB := ⟨_, rfl⟩
      have hLd : LB.data.toList = entL (h.base + i + 1) e := by rw [← hLB]
      have hLz : LB.size ≤ 4000 := by
        rw [← hLB]
        show (entL _ e).toArray.size ≤ 4000
        rw [List.size_toArray]
        omega
      rw [hLB] at hc4
      have hq1 := (hb5.cell (p := ⟨b4, off4 + i, none⟩) hb4).trans hc4
      have HWD : Hid (∀ w', Calls Tryd.prog 24 #[.string LB] w' (WordsPost LB.data.toList w')) := fun w' => Words_any LB w' hLz
      have hz5 := hb5.size
      have HCE : Hid (∀ w', Below w4.heap.size w4 w' → w'.cell? ⟨b, off + i * 16, none⟩ = some (.int .i64 e.term)) := fun w' hb => (hb.cell (p := ⟨b, off + i * 16, none⟩) hbb).trans hce
      have hterm : In64 e.term := hei.term
      have HI5 : Hid (∀ w', Below W2.heap.size W2 w' → ItAt w') := fun w' hb => HI.out.below (Hup.out w' hb)
      have HN1 : Hid (∀ w', Below W2.heap.size W2 w' → Calls Tryd.prog 8 #[.int .i64 (h.base + (i : Int) + 1)] w' fun e w'' => e = .returned (.string ⟨(Lib.itoa (h.base + (i : Int) + 1)).toArray⟩) ∧ Below w'.heap.size w' w'') := fun w' hb => Itoa_any _ w' hidx (HI5.out _ hb)
      have HN2 : Hid (∀ w', Below W2.heap.size W2 w' → Calls Tryd.prog 8 #[.int .i64 e.term] w' fun e' w'' => e' = .returned (.string ⟨(Lib.itoa e.term).toArray⟩) ∧ Below w'.heap.size w' w'') := fun w' hb => Itoa_any _ w' hterm (HI5.out _ hb)
      obtain ⟨B1, hB1⟩ : ∃ B1, (⟨(Lib.itoa (h.base + (i : Int) + 1)).toArray⟩ : ByteArray) = B1 := ⟨_, rfl⟩
      obtain ⟨B2, hB2⟩ : ∃ B2, (⟨(Lib.itoa e.term).toArray⟩ : ByteArray) = B2 := ⟨_, rfl⟩
      rw [hB1] at HN1
      rw [hB2] at HN2
      obtain ⟨tm, htm⟩ : ∃ tm, e.term = tm := ⟨_, rfl⟩
      have HSP : Hid (∀ w' base v, OwnS w' base v (splitL LB.data.toList) → ∃ q b7 off7 c7, v = .slice (some ⟨b7, off7, none⟩) (q + 3) c7 ∧ q + 3 ≤ c7 ∧ b7 < w'.heap.size ∧ w'.cell? ⟨b7, off7, none⟩ = some (.string B1) ∧ w'.cell? ⟨b7, off7 + 1, none⟩ = some (.string B2)) := fun w' base v ho => by
        rw [hLd, hsp] at ho
        obtain ⟨q, hq⟩ : ∃ q, (cutW [] r).length = q + 1 := ⟨(cutW [] r).length - 1, by omega⟩
        obtain ⟨A7, c7, rfl, _, h7, _, hr7⟩ := ownS_rd ho (n := q + 3) (by rw [List.length_cons, List.length_cons, hq])
        obtain ⟨b7, off7, rfl, hb7, hcell⟩ := hr7 (by omega)
        refine ⟨q, b7, off7, c7, rfl, h7, hb7, ?_, ?_⟩
        · have := hcell 0 _ rfl
          rw [Nat.add_zero] at this
          rw [this]
          show some (sV _) = _
          unfold sV
          rw [hB1]
        · have := hcell 1 _ rfl
          rw [this]
          show some (sV _) = _
          unfold sV
          rw [hB2]
      rw [htm] at HCE HN2
      clear hc4 hce hei hll hsp hrp hLB hLd hLz hz5 hterm hB1 hB2 htm HA hbb
      go_wp2_with fail
      refine (HWD.out _).mono ?_
      rintro _ w6 ⟨⟨v6, rfl, ho6⟩, hb6⟩
      obtain ⟨q, b7, off7, c7, rfl, hqc, hb7, hk0, hk1⟩ := HSP.out _ _ _ ho6
      have hb56 : Below w4.heap.size w4 w6 := bstep hb5 hb6
      have hbq6 := bstep hbq5 hb6
      have HS : Hid (∀ w', Below w6.heap.size w6 w' → w'.cell? ⟨b7, off7, none⟩ = some (.string B1) ∧ w'.cell? ⟨b7, off7 + 1, none⟩ = some (.string B2) ∧ w'.cell? ⟨W.heap.size, 2, none⟩ = some (.int .i64 h.base) ∧ w'.cell? ⟨W.heap.size, 9, none⟩ = some (.slice (some ⟨b, off, none⟩) m c) ∧ w'.cell? ⟨b, off + i * 16, none⟩ = some (.int .i64 tm)) := fun w' hb => by
        obtain ⟨p0, p1, _⟩ := Hrow.out _ (bstep hbq6 hb)
        exact ⟨(hb.cell (p := ⟨b7, off7, none⟩) hb7).trans hk0, (hb.cell (p := ⟨b7, off7 + 1, none⟩) hb7).trans hk1, p0, p1, HCE.out _ (bstep hb56 hb)⟩
      have hbz : Below w6.heap.size w6 w6 := Below.refl _ _
      have HN1' : Hid (∀ w', Below w6.heap.size w6 w' → Calls Tryd.prog 8 #[.int .i64 (h.base + (i : Int) + 1)] w' fun e w'' => e = .returned (.string B1) ∧ Below w'.heap.size w' w'') := fun w' hb => HN1.out _ (bstep hbq6 hb)
      have HN2' : Hid (∀ w', Below w6.heap.size w6 w' → Calls Tryd.prog 8 #[.int .i64 tm] w' fun e w'' => e = .returned (.string B2) ∧ Below w'.heap.size w' w'') := fun w' hb => HN2.out _ (bstep hbq6 hb)
      obtain ⟨y0, y1, y2, y3, y4⟩ := HS.out _ hbz
      clear hq1 ho6 hk0 hk1 HN1 HN2 HSP HWD HCE
      have m0 : decide (((q + 3 : Nat) : Int) < 3) = false := by simp; omega
      have m1 : ¬ ((q : Int) + 3 < 3) := by omega
      have i0 : (0 : Int) < (q : Int) + 3 := by omega
      have i1 : (1 : Int) < (q : Int) + 3 := by omega
      have j0 : 0 < q + 3 := by omega
      have j1 : 1 < q + 3 := by omega
      have wr1 : IntKind.i64.wrap (h.base + (i : Int)) = h.base + (i : Int) := IntWalk.i64_in _ (by omega)
      have wr2 : IntKind.i64.wrap (h.base + (i : Int) + 1) = h.base + (i : Int) + 1 := IntWalk.i64_in _ (by omega)
      have e1 : (B1.toList == B1.toList) = true := by simp
      have e2 : (B2.toList == B2.toList) = true := by simp
      go_wp2_with fail
      go_region_held3 (fun w' => w'.cell? ⟨b7, off7, none⟩ = some (.string B1) ∧ w'.cell? ⟨b7, off7 + 1, none⟩ = some (.string B2) ∧ w'.cell? ⟨W.heap.size, 2, none⟩ = some (.int .i64 h.base) ∧ w'.cell? ⟨W.heap.size, 9, none⟩ = some (.slice (some ⟨b, off, none⟩) m c) ∧ w'.cell? ⟨b, off + i * 16, none⟩ = some (.int .i64 tm))
        ((first | assumption | exact HS.out _ (by assumption) | exact HS.out _ (Below.drew (by assumption))))
        ((first
          | (go_at_call 8
             (with_reducible refine (HN1'.out _ (by first | assumption | exact Below.drew (by assumption))).mono ?_)
             rintro e w7 ⟨rfl, hb7'⟩
             have hb7q : Below w6.heap.size w6 w7 := Below.trans (by first | assumption | exact Below.drew (by assumption)) (hb7'.mono (Below.size (by first | assumption | exact Below.drew (by assumption)))))
          | (go_at_call 8
             (with_reducible refine (HN2'.out _ (by first | assumption | exact Below.drew (by assumption))).mono ?_)
             rintro e w8 ⟨rfl, hb8'⟩
             have hb8q : Below w6.heap.size w6 w8 := Below.trans (by first | assumption | exact Below.drew (by assumption)) (hb8'.mono (Below.size (by first | assumption | exact Below.drew (by assumption)))))))
      all_goals
        clear y0 y1 y2 y3 y4 m0 m1 i0 i1 j0 j1 wr1 wr2 e1 e2
        go_wp2_with fail
        go_roundg (gk - 1)
      all_goals first
        | exact ⟨i + 1, by have := Hig.out; omega, by go_num, bstep hb56 (by assumption)⟩
        | (have := Hig.out; omega)
    · obtain rfl : i = m := by omega
      obtain ⟨z0, z1, z2, z3, z4⟩ := Hrow.out _ hbq5
      have HRP : Hid (∀ w', Below W2.heap.size W2 w' → Calls Tryd.prog 21 #[.agg #[.slice (some ⟨w'.heap.size, 0, none⟩) 1 1, .slice none 0 0]] (w'.alloc (.cells #[.string ⟨#[97]⟩, .int .i64 v.k, .float .f64 v.x, .string v.s] 66)) fun e w'' => (∃ b7 off7 c7, e = .returned (.slice (some ⟨b7, off7, none⟩) 1 c7) ∧ 1 ≤ c7 ∧ b7 < w''.heap.size ∧ w''.cell? ⟨b7, off7, none⟩ = some (.string ⟨(pairL (⟨#[97]⟩, v)).toArray⟩)) ∧ Below w'.heap.size w' w'') := fun w' hb => by
        have hzp : (w'.alloc (.cells (prC (⟨#[97]⟩, v)).toArray 66)).heap.size = w'.heap.size + 1 := by simp
        have hpr : PrRows (w'.alloc (.cells (prC (⟨#[97]⟩, v)).toArray 66)) (w'.alloc (.cells (prC (⟨#[97]⟩, v)).toArray 66)).heap.size (some ⟨w'.heap.size, 0, none⟩) 1 1 [(⟨#[97]⟩, v)] := by
          rw [hzp]
          exact rd_struct w' (prC (⟨#[97]⟩, v)) _
        refine (RPairs_any (some ⟨w'.heap.size, 0, none⟩) 1 1 none 0 0 [(⟨#[97]⟩, v)] _ hpr rfl (by decide) ?_ ?_).mono ?_
        · intro p hp
          have : p = (⟨#[97]⟩, v) := by simpa using hp
          subst this
          exact ⟨show (1 : Nat) ≤ 2000 by decide, hvx, hvs⟩
        · exact HT.out.below ((Hup.out w' hb).trans ((alloc_below w' _).mono (Hup.out w' hb).size))
        · rintro e w'' ⟨⟨vv, rfl, ho⟩, hb'⟩
          obtain ⟨A7, c7, rfl, _, h7, _, hr7⟩ := ownS_rd ho (n := 1) rfl
          obtain ⟨b7, off7, rfl, hb7, hcell⟩ := hr7 (by decide)
          have hc0 := hcell 0 _ rfl
          rw [Nat.add_zero] at hc0
          exact ⟨⟨b7, off7, c7, rfl, h7, hb7, hc0⟩, (alloc_below w' _).trans (hb'.mono (by simp))⟩
      have HCK : Hid (∀ w', Calls Tryd.prog 25 #[.agg #[.int .i64 v.k, .float .f64 v.x, .string v.s]] w' fun e w'' => e = .returned (.int .i64 (chkVa v)) ∧ Below w'.heap.size w' w'') := fun w' => RCheck_any v w' hvx hvs
      have hpq := pair_q v
      obtain ⟨PB, hPB⟩ : ∃ PB, (⟨(pairL (⟨#[97]⟩, v)).toArray⟩ : ByteArray) = PB := ⟨_, rfl⟩
      rw [hPB] at HRP hpq
      obtain ⟨ck, hck⟩ : ∃ ck, chkVa v = ck := ⟨_, rfl⟩
      rw [hck] at HCK hpq
      clear HA hlt hPB hck hbig
      go_wp2_with fail
      refine (HRP.out _ hbq5).mono ?_
      rintro _ w6 ⟨⟨b7, off7, c7, rfl, h7c, hb7, hk0⟩, hb6⟩
      have hbq6 := bstep hbq5 hb6
      have HS : Hid (∀ w', Below w6.heap.size w6 w' → w'.cell? ⟨b7, off7, none⟩ = some (.string PB) ∧ w'.cell? ⟨W.heap.size + 1, 0, none⟩ = some (.int .i64 v.k) ∧ w'.cell? ⟨W.heap.size + 1, 1, none⟩ = some (.float .f64 v.x) ∧ w'.cell? ⟨W.heap.size + 1, 2, none⟩ = some (.string v.s)) := fun w' hb => by
        obtain ⟨_, _, p2, p3, p4⟩ := Hrow.out _ (bstep hbq6 hb)
        exact ⟨(hb.cell (p := ⟨b7, off7, none⟩) hb7).trans hk0, p2, p3, p4⟩
      have hbz : Below w6.heap.size w6 w6 := Below.refl _ _
      have HWK' : Hid (∀ w', Below w6.heap.size w6 w' → Calls Tryd.prog 9 #[] w' fun e w'' => e = .returned (.bool true) ∧ Below w'.heap.size w' w'') := fun w' hb => HWK.out _ (bstep hbq6 hb)
      obtain ⟨y0, y2, y3, y4⟩ := HS.out _ hbz
      clear hk0 HRP HWK z0 z1 z2 z3 z4
      rcases Decidable.em (ck = 0) with hz | hz
      case' inl =>
        subst hz
        have hpq' : (PB.toList == [107, 54, 49, 32, 63]) = false := hpq
      case' inr =>
        have hpq' : (PB.toList == [107, 54, 49, 32, 63]) = true := by rw [hpq]; simpa using hz
      all_goals
        clear hpq
        go_wp2_with fail
        go_region_held3 (fun w' => w'.cell? ⟨b7, off7, none⟩ = some (.string PB) ∧ w'.cell? ⟨W.heap.size + 1, 0, none⟩ = some (.int .i64 v.k) ∧ w'.cell? ⟨W.heap.size + 1, 1, none⟩ = some (.float .f64 v.x) ∧ w'.cell? ⟨W.heap.size + 1, 2, none⟩ = some (.string v.s))
          ((first | assumption | exact HS.out _ (by assumption) | exact HS.out _ (Below.drew (by assumption))))
          ((first
            | (go_at_call 25
               (with_reducible refine (HCK.out _).mono ?_)
               rintro e w7 ⟨rfl, hb7'⟩
               have hb7q : Below w6.heap.size w6 w7 := Below.trans (by first | assumption | exact Below.drew (by assumption)) (hb7'.mono (Below.size (by first | assumption | exact Below.drew (by assumption)))))
            | (go_at_call 9
               (with_reducible refine (HWK'.out _ (by first | assumption | exact Below.drew (by assumption))).mono ?_)
               rintro e w8 ⟨rfl, hb8'⟩
               have hb8q : Below w6.heap.size w6 w8 := Below.trans (by first | assumption | exact Below.drew (by assumption)) (hb8'.mono (Below.size (by first | assumption | exact Below.drew (by assumption)))))))
      all_goals
        go_wp2_with fail
        go_ret
        first
          | exact ⟨rfl, Hup.out _ (bstep hbq6 (by assumption))⟩
          | exact ⟨ret_bool (show (ck != 0) = true by simpa using hz), Hup.out _ (bstep hbq6 (by assumption))⟩
end Go.Proofs.YtkckncggiicciaaDoor
