/-
  Joined texts, part 6: the lemmas and walks that the row stands on.
-/
import Derived.Test.YtkckncggiicciaaDoorV2
import Derived.Test.YtkckncggiicciaaDoorV4
import Derived.Test.YtkckncggiicciaaDoorV5
import Derived.Test.YtkckncggiicciaaDoorV3
import Derived.Test.YtkckncggiicciaaDoorV1
import Derived.SizedLaws
import Derived.OpenShut
/-
  The walk of ReportLogs.
-/
namespace Go.Proofs.YtkckncggiicciaaDoor
open Go.RowKit
set_option maxRecDepth 100000
set_option maxHeartbeats 12800000 in
theorem logs_walk (h : Hd) (S : Option Addr) (sn sc : Nat) (A : Option Addr) (m c : Nat) (es : List En) (v : Va) (W : World) (hy : EnRows W W.heap.size A m c es) (hl : es.length = m) (hin : ∀ e ∈ es, e.In) (hst : ∀ e ∈ es, e.Str)
    (_hbase : In64 h.base) (hvx : v.x < 18446744073709551616) (hvs : v.s.size ≤ maxLen) (hT : TzAt W) (hI : ItAt W) :
    Calls Tryd.prog 5 #[.agg #[.int .i64 h.term, .int .i64 h.vote, .int .i64 h.base, .int .i64 h.bt, .int .i64 h.full, .int .i64 h.wit, .int .i64 h.learn, .int .i64 h.lw, .slice S sn sc, .slice A m c], .agg #[.int .i64 v.k, .float .f64 v.x, .string v.s]] W
      fun e w' => e = .returned (.bool true) ∧ Below W.heap.size W w' := by
  have hcap : m ≤ c := hy.2.1
  obtain ⟨W2, hW2⟩ : ∃ W2, (W.alloc (.cells #[.int .i64 h.term, .int .i64 h.vote, .int .i64 h.base, .int .i64 h.bt, .int .i64 h.full, .int .i64 h.wit, .int .i64 h.learn, .int .i64 h.lw, .slice S sn sc, .slice A m c] 29)).alloc (.cells #[.int .i64 v.k, .float .f64 v.x, .string v.s] 56) = W2 := ⟨_, rfl⟩
  have hb2 : Below W.heap.size W W2 := by rw [← hW2]; exact two_below _ _ _
  have hz2 : W2.heap.size = W.heap.size + 2 := by rw [← hW2]; simp
  have hr0 : W2.heap[W.heap.size]? = some (.cells #[.int .i64 h.term, .int .i64 h.vote, .int .i64 h.base, .int .i64 h.bt, .int .i64 h.full, .int .i64 h.wit, .int .i64 h.learn, .int .i64 h.lw, .slice S sn sc, .slice A m c] 29 (0, 0)) := by
    rw [← hW2, Below.heap_alloc _ _ _ (by simp)]
    exact heap_alloc_new W _
  have hr1 : W2.heap[W.heap.size + 1]? = some (.cells #[.int .i64 v.k, .float .f64 v.x, .string v.s] 56 (0, 0)) := by
    rw [← hW2]
    exact heap_alloc2_new W _ _
  have HR : Hid (∀ w', Below W2.heap.size W2 w' → w'.heap[W.heap.size]? = some (.cells #[.int .i64 h.term, .int .i64 h.vote, .int .i64 h.base, .int .i64 h.bt, .int .i64 h.full, .int .i64 h.wit, .int .i64 h.learn, .int .i64 h.lw, .slice S sn sc, .slice A m c] 29 (0, 0))) := fun w' hb => (hb.block _ (by omega)).trans hr0
  have Hrow : Hid (∀ w', Below W2.heap.size W2 w' → w'.cell? ⟨W.heap.size, 2, none⟩ = some (.int .i64 h.base) ∧ w'.cell? ⟨W.heap.size, 9, none⟩ = some (.slice A m c) ∧ w'.cell? ⟨W.heap.size + 1, 0, none⟩ = some (.int .i64 v.k) ∧ w'.cell? ⟨W.heap.size + 1, 1, none⟩ = some (.float .f64 v.x) ∧ w'.cell? ⟨W.heap.size + 1, 2, none⟩ = some (.string v.s)) := fun w' hb => by
    have q0 := (hb.block W.heap.size (by omega)).trans hr0
    have q1 := (hb.block (W.heap.size + 1) (by omega)).trans hr1
    exact ⟨cell_of_row _ _ _ _ _ _ q0, cell_of_row _ _ _ _ _ _ q0, cell_of_row _ _ _ _ _ _ q1, cell_of_row _ _ _ _ _ _ q1, cell_of_row _ _ _ _ _ _ q1⟩
  have Hup : Hid (∀ w', Below W2.heap.size W2 w' → Below W.heap.size W w') := fun w' hb => hb2.trans (hb.mono (by omega))
  have HY : Hid (∀ w', Below W2.heap.size W2 w' → EnRows w' w'.heap.size A m c es) := fun w' hb => (Rd.below hy (Hup.out w' hb) (Nat.le_refl _)).mono (Hup.out w' hb).size
  have HHv : Hid (∀ w', Below W2.heap.size W2 w' → Calls Tryd.prog 23 #[.agg #[.int .i64 h.term, .int .i64 h.vote, .int .i64 h.base, .int .i64 h.bt, .int .i64 h.full, .int .i64 h.wit, .int .i64 h.learn, .int .i64 h.lw, .slice S sn sc, .slice A m c]] w' (HvPost m w')) := fun w' hb =>
    Heavy_any (h.cells S sn sc A m c) h.base h.bt A m c S sn sc es w' (h.at S sn sc A m c) (HY.out w' hb) hl hst
  have HLg : Hid (m ≤ 1000 → ∀ w', Below W2.heap.size W2 w' → Calls Tryd.prog 16 #[.agg (h.raft S sn sc A m c).toArray] w' (RlogPost h.base es w')) := fun hm w' hb =>
    RLog_any (h.raft S sn sc A m c) 0 h.term h.base h.bt 0 0 0 A m c es w' (h.raft_at S sn sc A m c) (HY.out w' hb) hl hm hin (hI.below (Hup.out w' hb))
  have HWK : Hid (∀ w', Below W2.heap.size W2 w' → Calls Tryd.prog 9 #[] w' fun e w'' => e = .returned (.bool true) ∧ Below w'.heap.size w' w'') := fun w' hb => rwakes_any w' (hI.below (Hup.out w' hb))
  have HW2 := Lib.hid hW2
  have hbq : Below W2.heap.size W2 W2 := Below.refl _ _
  have hvs' := hvs
  unfold maxLen at hvs'
  have Hfin : Hid (∀ w', Below W2.heap.size W2 w' → (Ending.returned (Value.bool true)) = .returned (.bool true) ∧ Below W.heap.size W w') := fun w' hb => ⟨rfl, Hup.out w' hb⟩
  clear hW2 hr0 hr1
  have Hl := Lib.hid hl
  have HIn := Lib.hid hin
  have HT := Lib.hid hT
  have HI := Lib.hid hI
  clear hy hl hin hst hT hI
  go_enter Tryd.func5, Tryd.ntmps5
  go_wp2_with fail
  rw [HW2.out]
  refine (HHv.out _ hbq).mono ?_
  rintro e w3 ⟨⟨hv, rfl, hm⟩, hb3⟩
  have hbq3 := bstep hbq hb3
  have Hm := Lib.hid hm
  obtain ⟨y0, y1, y2, y3, y4⟩ := Hrow.out _ hbq3
  clear hb3 hm hbq
  cases hv
  case' true =>
    go_wp2_with fail
    go_ret
    exact ⟨rfl, Hup.out _ hbq3⟩
  rcases Decidable.em (2000 < v.s.size) with hbig | hbig
  · go_wp2_with fail
    go_ret
    exact ⟨rfl, Hup.out _ hbq3⟩
  have hm2 : m ≤ 200 := Hm.out rfl
  clear Hm
  go_wp2_with (refine wpList_load_row rfl 29 (.tmp 2) rfl W.heap.size rfl 29 _ (0, 0) _ (HR.out _ hbq3) Tryd.underlying29 rfl size10 ?_)
  refine (HLg.out (by omega) _ hbq3).mono ?_
  intro e w4 hpost
  unfold RlogPost at hpost
  obtain ⟨hpost, hb4⟩ := hpost
  have hbq4 := bstep hbq3 hb4
  obtain ⟨z0, z1, z2, z3, z4⟩ := Hrow.out _ hbq4
  rcases Decidable.em (0 ≤ h.base ∧ h.base ≤ 1099511627776) with hinb | hinb
  case' inr =>
    have hlb : logB h.base = false := by unfold logB; simp; omega
    rw [if_neg (by rw [hlb]; decide)] at hpost
    subst hpost
    clear hlb y0 y1 y2 y3 y4 HLg HHv HY hb4
    rcases Decidable.em (h.base < 0) with hn | hn
    case' inr => have hg : 1099511627776 < h.base := by omega
    all_goals
      clear hinb
      go_wp2_with (refine (HWK.out _ hbq4).mono ?_; rintro e w9 ⟨rfl, hb9⟩)
      go_ret
      exact ⟨rfl, Hup.out _ (bstep hbq4 hb9)⟩
  have hlb : logB h.base = true := by unfold logB; simp; omega
  rw [if_pos hlb] at hpost
  obtain ⟨vv, rfl, ho⟩ := hpost
  obtain ⟨A4, c4, rfl, hr4⟩ := ownS_rd ho (n := m) (by rw [logL_len, Hl.out])
  have HYe := Lib.hid (HY.out _ hbq4)
  have HA : Hid (∀ i, i < m → ∃ b4 off4 e b off, A4 = some ⟨b4, off4, none⟩ ∧ b4 < w4.heap.size ∧ w4.cell? ⟨b4, off4 + i, none⟩ = some (.string ⟨(entL (h.base + i + 1) e).toArray⟩) ∧ A = some ⟨b, off, none⟩ ∧ b < w4.heap.size ∧ w4.cell? ⟨b, off + i * 16, none⟩ = some (.int .i64 e.term) ∧ e.In) := fun i hi => by
    obtain ⟨b, off, e, q1, q2, q3, q4, q5, q6⟩ := en_row HYe.out Hl.out hi
    obtain ⟨_, _, _, hrr⟩ := hr4
    obtain ⟨b4, off4, rfl, hb4', hcell⟩ := hrr (by omega)
    refine ⟨b4, off4, e, b, off, rfl, hb4', ?_, q1, q2, ?_, HIn.out e q5⟩
    · refine hcell i _ ?_
      unfold logL
      rw [List.getElem?_map, List.getElem?_map, List.getElem?_range (by rw [Hl.out]; exact hi)]
      show some (sV (entL (h.base + i + 1) (es.getD i e0))) = _
      rw [q4]
      rfl
    · have := q6 0 _ (show e.cells[0]? = some (.int .i64 e.term) from rfl)
      rwa [Nat.add_zero] at this
  obtain ⟨hi0, hi1⟩ := hinb
  have Hr4 := Lib.hid hr4.1
  have hmc : m ≤ c4 := hr4.2.1
  clear hlb ho hr4 y0 y1 y2 y3 y4 HLg HHv HY hb4 HYe HR
  go_wp2_with fail
  go_loopg [6, 7] m (fun g s6 s7 wr => ∃ i : Nat, i + g = m ∧ s6 = .int .i64 i ∧ Below w4.heap.size w4 wr)
  case atStart => exact ⟨0, by omega, rfl, Below.refl _ _⟩
  case round =>
    obtain ⟨i, hig, rfl, hb5⟩ := hrel
    have Hig := Lib.hid hig
    have him : i ≤ m := by omega
    clear hig z0 z1 z2 z3 z4
    have hbq5 := bstep hbq4 hb5
    by_cases hlt : i < m
    · obtain ⟨b4, off4, e, b, off, rfl, hb4, hc4, rfl, hbb, hce, hei⟩ := HA.out i hlt
      have hidx : In64 (h.base + (i : Int) + 1) := by unfold In64; omega
      have hll := entL_len hidx hei
      obtain ⟨r, hsp⟩ := ent_words (h.base + i + 1) e
      have hrp := cutW_pos r []
      obtain ⟨LB, hLB⟩ : ∃ LB, (⟨(entL (h.base + i + 1) e).toArray⟩ : ByteArray) = LB := ⟨_, rfl⟩
      have hLd : LB.data.toList = entL (h.base + i + 1) e := by rw [← hLB]
      have hLz : LB.size ≤ 4000 := by
        rw [← hLB]
        show (entL _ e).toArray.size ≤ 4000
        rw [List.size_toArray]
        omega
      rw [hLB] at hc4
      have hq1 := (hb5.cell (p := ⟨b4, off4 + i, none⟩) hb4).trans hc4
      have HWD : Hid (∀ w', Calls Tryd.prog 24 #[.string LB] w' (WordsPost LB.data.toList w')) := fun w' => Words_any LB w' hLz
      have hz5 := hb5.size
      have HCE : Hid (∀ w', Below w4.heap.size w4 w' → w'.cell? ⟨b, off + i * 16, none⟩ = some (.int .i64 e.term)) := fun w' hb => (hb.cell (p := ⟨b, off + i * 16, none⟩) hbb).trans hce
      have hterm : In64 e.term := hei.term
      have HI5 : Hid (∀ w', Below W2.heap.size W2 w' → ItAt w') := fun w' hb => HI.out.below (Hup.out w' hb)
      have HN1 : Hid (∀ w', Below W2.heap.size W2 w' → Calls Tryd.prog 8 #[.int .i64 (h.base + (i : Int) + 1)] w' fun e w'' => e = .returned (.string ⟨(Lib.itoa (h.base + (i : Int) + 1)).toArray⟩) ∧ Below w'.heap.size w' w'') := fun w' hb => Itoa_any _ w' hidx (HI5.out _ hb)
      have HN2 : Hid (∀ w', Below W2.heap.size W2 w' → Calls Tryd.prog 8 #[.int .i64 e.term] w' fun e' w'' => e' = .returned (.string ⟨(Lib.itoa e.term).toArray⟩) ∧ Below w'.heap.size w' w'') := fun w' hb => Itoa_any _ w' hterm (HI5.out _ hb)
      obtain ⟨B1, hB1⟩ : ∃ B1, (⟨(Lib.itoa (h.base + (i : Int) + 1)).toArray⟩ : ByteArray) = B1 := ⟨_, rfl⟩
      obtain ⟨B2, hB2⟩ : ∃ B2, (⟨(Lib.itoa e.term).toArray⟩ : ByteArray) = B2 := ⟨_, rfl⟩
      rw [hB1] at HN1
      rw [hB2] at HN2
      obtain ⟨tm, htm⟩ : ∃ tm, e.term = tm := ⟨_, rfl⟩
      have HSP : Hid (∀ w' base v, OwnS w' base v (splitL LB.data.toList) → ∃ q b7 off7 c7, v = .slice (some ⟨b7, off7, none⟩) (q + 3) c7 ∧ q + 3 ≤ c7 ∧ b7 < w'.heap.size ∧ w'.cell? ⟨b7, off7, none⟩ = some (.string B1) ∧ w'.cell? ⟨b7, off7 + 1, none⟩ = some (.string B2)) := fun w' base v ho => by
        rw [hLd, hsp] at ho
        obtain ⟨q, hq⟩ : ∃ q, (cutW [] r).length = q + 1 := ⟨(cutW [] r).length - 1, by omega⟩
        obtain ⟨A7, c7, rfl, _, h7, _, hr7⟩ := ownS_rd ho (n := q + 3) (by rw [List.length_cons, List.length_cons, hq])
        obtain ⟨b7, off7, rfl, hb7, hcell⟩ := hr7 (by omega)
        refine ⟨q, b7, off7, c7, rfl, h7, hb7, ?_, ?_⟩
        · have := hcell 0 _ rfl
          rw [Nat.add_zero] at this
          rw [this]
          show some (sV _) = _
          unfold sV
          rw [hB1]
        · have := hcell 1 _ rfl
          rw [this]
          show some (sV _) = _
          unfold sV
          rw [hB2]
      rw [htm] at HCE HN2
      clear hc4 hce hei hll hsp hrp hLB hLd hLz hz5 hterm hB1 hB2 htm HA hbb
      go_wp2_with fail
      refine (HWD.out _).mono ?_
      rintro _ w6 ⟨⟨v6, rfl, ho6⟩, hb6⟩
      obtain ⟨q, b7, off7, c7, rfl, hqc, hb7, hk0, hk1⟩ := HSP.out _ _ _ ho6
      have hb56 : Below w4.heap.size w4 w6 := bstep hb5 hb6
      have hbq6 := bstep hbq5 hb6
      have HS : Hid (∀ w', Below w6.heap.size w6 w' → w'.cell? ⟨b7, off7, none⟩ = some (.string B1) ∧ w'.cell? ⟨b7, off7 + 1, none⟩ = some (.string B2) ∧ w'.cell? ⟨W.heap.size, 2, none⟩ = some (.int .i64 h.base) ∧ w'.cell? ⟨W.heap.size, 9, none⟩ = some (.slice (some ⟨b, off, none⟩) m c) ∧ w'.cell? ⟨b, off + i * 16, none⟩ = some (.int .i64 tm)) := fun w' hb => by
        obtain ⟨p0, p1, _⟩ := Hrow.out _ (bstep hbq6 hb)
        exact ⟨(hb.cell (p := ⟨b7, off7, none⟩) hb7).trans hk0, (hb.cell (p := ⟨b7, off7 + 1, none⟩) hb7).trans hk1, p0, p1, HCE.out _ (bstep hb56 hb)⟩
      have hbz : Below w6.heap.size w6 w6 := Below.refl _ _
      have HN1' : Hid (∀ w', Below w6.heap.size w6 w' → Calls Tryd.prog 8 #[.int .i64 (h.base + (i : Int) + 1)] w' fun e w'' => e = .returned (.string B1) ∧ Below w'.heap.size w' w'') := fun w' hb => HN1.out _ (bstep hbq6 hb)
      have HN2' : Hid (∀ w', Below w6.heap.size w6 w' → Calls Tryd.prog 8 #[.int .i64 tm] w' fun e w'' => e = .returned (.string B2) ∧ Below w'.heap.size w' w'') := fun w' hb => HN2.out _ (bstep hbq6 hb)
      obtain ⟨y0, y1, y2, y3, y4⟩ := HS.out _ hbz
      clear hq1 ho6 hk0 hk1 HN1 HN2 HSP HWD HCE
      have m0 : decide (((q + 3 : Nat) : Int) < 3) = false := by simp; omega
      have m1 : ¬ ((q : Int) + 3 < 3) := by omega
      have i0 : (0 : Int) < (q : Int) + 3 := by omega
      have i1 : (1 : Int) < (q : Int) + 3 := by omega
      have j0 : 0 < q + 3 := by omega
      have j1 : 1 < q + 3 := by omega
      have wr1 : IntKind.i64.wrap (h.base + (i : Int)) = h.base + (i : Int) := IntWalk.i64_in _ (by omega)
      have wr2 : IntKind.i64.wrap (h.base + (i : Int) + 1) = h.base + (i : Int) + 1 := IntWalk.i64_in _ (by omega)
      have e1 : (B1.toList == B1.toList) = true := by simp
      have e2 : (B2.toList == B2.toList) = true := by simp
      go_wp2_with fail
      go_region_held3 (fun w' => w'.cell? ⟨b7, off7, none⟩ = some (.string B1) ∧ w'.cell? ⟨b7, off7 + 1, none⟩ = some (.string B2) ∧ w'.cell? ⟨W.heap.size, 2, none⟩ = some (.int .i64 h.base) ∧ w'.cell? ⟨W.heap.size, 9, none⟩ = some (.slice (some ⟨b, off, none⟩) m c) ∧ w'.cell? ⟨b, off + i * 16, none⟩ = some (.int .i64 tm))
        ((first | assumption | exact HS.out _ (by assumption) | exact HS.out _ (Below.drew (by assumption))))
        ((first
          | (go_at_call 8
             (with_reducible refine (HN1'.out _ (by first | assumption | exact Below.drew (by assumption))).mono ?_)
             rintro e w7 ⟨rfl, hb7'⟩
             have hb7q : Below w6.heap.size w6 w7 := Below.trans (by first | assumption | exact Below.drew (by assumption)) (hb7'.mono (Below.size (by first | assumption | exact Below.drew (by assumption)))))
          | (go_at_call 8
             (with_reducible refine (HN2'.out _ (by first | assumption | exact Below.drew (by assumption))).mono ?_)
             rintro e w8 ⟨rfl, hb8'⟩
             have hb8q : Below w6.heap.size w6 w8 := Below.trans (by first | assumption | exact Below.drew (by assumption)) (hb8'.mono (Below.size (by first | assumption | exact Below.drew (by assumption)))))))
      all_goals
        clear y0 y1 y2 y3 y4 m0 m1 i0 i1 j0 j1 wr1 wr2 e1 e2
        go_wp2_with fail
        go_roundg (gk - 1)
      all_goals first
        | exact ⟨i + 1, by have := Hig.out; omega, by go_num, bstep hb56 (by assumption)⟩
        | (have := Hig.out; omega)
    · obtain rfl : i = m := by omega
      obtain ⟨z0, z1, z2, z3, z4⟩ := Hrow.out _ hbq5
      have HRP : Hid (∀ w', Below W2.heap.size W2 w' → Calls Tryd.prog 21 #[.agg #[.slice (some ⟨w'.heap.size, 0, none⟩) 1 1, .slice none 0 0]] (w'.alloc (.cells #[.string ⟨#[97]⟩, .int .i64 v.k, .float .f64 v.x, .string v.s] 66)) fun e w'' => (∃ b7 off7 c7, e = .returned (.slice (some ⟨b7, off7, none⟩) 1 c7) ∧ 1 ≤ c7 ∧ b7 < w''.heap.size ∧ w''.cell? ⟨b7, off7, none⟩ = some (.string ⟨(pairL (⟨#[97]⟩, v)).toArray⟩)) ∧ Below w'.heap.size w' w'') := fun w' hb => by
        have hzp : (w'.alloc (.cells (prC (⟨#[97]⟩, v)).toArray 66)).heap.size = w'.heap.size + 1 := by simp
        have hpr : PrRows (w'.alloc (.cells (prC (⟨#[97]⟩, v)).toArray 66)) (w'.alloc (.cells (prC (⟨#[97]⟩, v)).toArray 66)).heap.size (some ⟨w'.heap.size, 0, none⟩) 1 1 [(⟨#[97]⟩, v)] := by
          rw [hzp]
          exact rd_struct w' (prC (⟨#[97]⟩, v)) _
        refine (RPairs_any (some ⟨w'.heap.size, 0, none⟩) 1 1 none 0 0 [(⟨#[97]⟩, v)] _ hpr rfl (by decide) ?_ ?_).mono ?_
        · intro p hp
          have : p = (⟨#[97]⟩, v) := by simpa using hp
          subst this
          exact ⟨show (1 : Nat) ≤ 2000 by decide, hvx, hvs⟩
        · exact HT.out.below ((Hup.out w' hb).trans ((alloc_below w' _).mono (Hup.out w' hb).size))
        · rintro e w'' ⟨⟨vv, rfl, ho⟩, hb'⟩
          obtain ⟨A7, c7, rfl, _, h7, _, hr7⟩ := ownS_rd ho (n := 1) rfl
          obtain ⟨b7, off7, rfl, hb7, hcell⟩ := hr7 (by decide)
          have hc0 := hcell 0 _ rfl
          rw [Nat.add_zero] at hc0
          exact ⟨⟨b7, off7, c7, rfl, h7, hb7, hc0⟩, (alloc_below w' _).trans (hb'.mono (by simp))⟩
      have HCK : Hid (∀ w', Calls Tryd.prog 25 #[.agg #[.int .i64 v.k, .float .f64 v.x, .string v.s]] w' fun e w'' => e = .returned (.int .i64 (chkVa v)) ∧ Below w'.heap.size w' w'') := fun w' => RCheck_any v w' hvx hvs
      have hpq := pair_q v
      obtain ⟨PB, hPB⟩ : ∃ PB, (⟨(pairL (⟨#[97]⟩, v)).toArray⟩ : ByteArray) = PB := ⟨_, rfl⟩
      rw [hPB] at HRP hpq
      obtain ⟨ck, hck⟩ : ∃ ck, chkVa v = ck := ⟨_, rfl⟩
      rw [hck] at HCK hpq
      clear HA hlt hPB hck hbig
      go_wp2_with fail
      refine (HRP.out _ hbq5).mono ?_
      rintro _ w6 ⟨⟨b7, off7, c7, rfl, h7c, hb7, hk0⟩, hb6⟩
      have hbq6 := bstep hbq5 hb6
      have HS : Hid (∀ w', Below w6.heap.size w6 w' → w'.cell? ⟨b7, off7, none⟩ = some (.string PB) ∧ w'.cell? ⟨W.heap.size + 1, 0, none⟩ = some (.int .i64 v.k) ∧ w'.cell? ⟨W.heap.size + 1, 1, none⟩ = some (.float .f64 v.x) ∧ w'.cell? ⟨W.heap.size + 1, 2, none⟩ = some (.string v.s)) := fun w' hb => by
        obtain ⟨_, _, p2, p3, p4⟩ := Hrow.out _ (bstep hbq6 hb)
        exact ⟨(hb.cell (p := ⟨b7, off7, none⟩) hb7).trans hk0, p2, p3, p4⟩
      have hbz : Below w6.heap.size w6 w6 := Below.refl _ _
      have HWK' : Hid (∀ w', Below w6.heap.size w6 w' → Calls Tryd.prog 9 #[] w' fun e w'' => e = .returned (.bool true) ∧ Below w'.heap.size w' w'') := fun w' hb => HWK.out _ (bstep hbq6 hb)
      obtain ⟨y0, y2, y3, y4⟩ := HS.out _ hbz
      clear hk0 HRP HWK z0 z1 z2 z3 z4
      rcases Decidable.em (ck = 0) with hz | hz
      case' inl =>
        subst hz
        have hpq' : (PB.toList == [107, 54, 49, 32, 63]) = false := hpq
      case' inr =>
        have hpq' : (PB.toList == [107, 54, 49, 32, 63]) = true := by rw [hpq]; simpa using hz
      all_goals
        clear hpq
        go_wp2_with fail
        go_region_held3 (fun w' => w'.cell? ⟨b7, off7, none⟩ = some (.string PB) ∧ w'.cell? ⟨W.heap.size + 1, 0, none⟩ = some (.int .i64 v.k) ∧ w'.cell? ⟨W.heap.size + 1, 1, none⟩ = some (.float .f64 v.x) ∧ w'.cell? ⟨W.heap.size + 1, 2, none⟩ = some (.string v.s))
          ((first | assumption | exact HS.out _ (by assumption) | exact HS.out _ (Below.drew (by assumption))))
          ((first
            | (go_at_call 25
               (with_reducible refine (HCK.out _).mono ?_)
               rintro e w7 ⟨rfl, hb7'⟩
               have hb7q : Below w6.heap.size w6 w7 := Below.trans (by first | assumption | exact Below.drew (by assumption)) (hb7'.mono (Below.size (by first | assumption | exact Below.drew (by assumption)))))
            | (go_at_call 9
               (with_reducible refine (HWK'.out _ (by first | assumption | exact Below.drew (by assumption))).mono ?_)
               rintro e w8 ⟨rfl, hb8'⟩
               have hb8q : Below w6.heap.size w6 w8 := Below.trans (by first | assumption | exact Below.drew (by assumption)) (hb8'.mono (Below.size (by first | assumption | exact Below.drew (by assumption)))))))
      all_goals
        go_wp2_with fail
        go_ret
        first
          | exact ⟨rfl, Hup.out _ (bstep hbq6 (by assumption))⟩
          | exact ⟨ret_bool (show (ck != 0) = true by simpa using hz), Hup.out _ (bstep hbq6 (by assumption))⟩
end Go.Proofs.YtkckncggiicciaaDoor
/-
  A log that came in; written by genlawh.py.
-/
namespace Go.Proofs.YtkckncggiicciaaDoor
open Go.RowKit Go.ChangeShapes Go.WideShapes Go.ChangeAt
set_option maxRecDepth 100000
theorem cut_at {α : Type} (cs : List α) {k n m : Nat} (h : k + n = m) : cs.drop k = (cs.drop k).take n ++ cs.drop m := by
  subst h
  rw [← List.drop_drop]
  exact (List.take_append_drop n _).symm
theorem s_int : Tryd.prog.cellsOf 3 = 1 := by kernel_rfl
theorem s_string : Tryd.prog.cellsOf 9 = 1 := by kernel_rfl
theorem s_float64 : Tryd.prog.cellsOf 35 = 1 := by kernel_rfl
theorem s_sl_uint8 : Tryd.prog.cellsOf 26 = 1 := by kernel_rfl
theorem s_sl_api_Entry : Tryd.prog.cellsOf 27 = 1 := by kernel_rfl
theorem s_api_Value : Tryd.prog.cellsOf 56 = 3 := by kernel_rfl
theorem s_api_Conf : Tryd.prog.cellsOf 25 = 4 := by kernel_rfl
theorem s_api_Cmd : Tryd.prog.cellsOf 60 = 8 := by kernel_rfl
theorem s_api_Call : Tryd.prog.cellsOf 62 = 10 := by kernel_rfl
theorem s_api_Entry : Tryd.prog.cellsOf 64 = 16 := by kernel_rfl
theorem s_api_Hard : Tryd.prog.cellsOf 29 = 10 := by kernel_rfl
theorem cells_va {H : Type} {enc : TypeId × Value → H} {W : World} {fuel : Nat} {cs : List Value} {x : DataW H × List MemPlace} (h : DataW.trod enc Tryd.prog W 0 (fun _ => true) true fuel 56 cs = some x) :
    ∃ (k : Int) (x0 : Nat) (s : ByteArray), cs = [.int .i64 k, .float .f64 x0, .string s] ∧ In64 k ∧ x0 < 18446744073709551616 ∧ s.size ≤ maxLen := by
  obtain ⟨xs, n', _, _, hl, hxl, hfs⟩ := DataW.trod_struct Tryd.underlying56 h
  rw [s_api_Value] at hl
  have hxl2 : xs.length = 3 := hxl
  have f0 : DataW.trod enc Tryd.prog W 0 (fun _ => true) true n' 3 ((cs.drop 0).take (Tryd.prog.cellsOf 3)) = xs[0]? := hfs 0 _ rfl
  rw [List.getElem?_eq_getElem (by omega), s_int] at f0
  have f1 : DataW.trod enc Tryd.prog W 0 (fun _ => true) true n' 35 ((cs.drop 1).take (Tryd.prog.cellsOf 35)) = xs[1]? := hfs 1 _ rfl
  rw [List.getElem?_eq_getElem (by omega), s_float64] at f1
  have f2 : DataW.trod enc Tryd.prog W 0 (fun _ => true) true n' 9 ((cs.drop 2).take (Tryd.prog.cellsOf 9)) = xs[2]? := hfs 2 _ rfl
  rw [List.getElem?_eq_getElem (by omega), s_string] at f2
  obtain ⟨k, e0, _, hk⟩ := DataW.trod_int Tryd.underlying3 f0
  obtain ⟨x0, e1, hx0⟩ := trod_float f1
  obtain ⟨s, e2, _, hs⟩ := DataW.trod_string Tryd.underlying9 f2
  refine ⟨k, x0, s, ?_, law_i64 hk, hx0, hs⟩
  show cs.drop 0 = _
  rw [cut_at cs (k := 0) (n := 1) (m := 1) rfl, e0, cut_at cs (k := 1) (n := 1) (m := 2) rfl, e1, cut_at cs (k := 2) (n := 1) (m := 3) rfl, e2, List.drop_eq_nil_of_le (by omega)]
  rfl
theorem cells_conf {H : Type} {enc : TypeId × Value → H} {W : World} {fuel : Nat} {cs : List Value} {x : DataW H × List MemPlace} (h : DataW.trod enc Tryd.prog W 0 (fun _ => true) true fuel 25 cs = some x) :
    ∃ (a : Int) (b : Int) (c : Int) (d : Int), cs = [.int .i64 a, .int .i64 b, .int .i64 c, .int .i64 d] ∧ In64 a ∧ In64 b ∧ In64 c ∧ In64 d := by
  obtain ⟨xs, n', _, _, hl, hxl, hfs⟩ := DataW.trod_struct Tryd.underlying25 h
  rw [s_api_Conf] at hl
  have hxl2 : xs.length = 4 := hxl
  have f0 : DataW.trod enc Tryd.prog W 0 (fun _ => true) true n' 3 ((cs.drop 0).take (Tryd.prog.cellsOf 3)) = xs[0]? := hfs 0 _ rfl
  rw [List.getElem?_eq_getElem (by omega), s_int] at f0
  have f1 : DataW.trod enc Tryd.prog W 0 (fun _ => true) true n' 3 ((cs.drop 1).take (Tryd.prog.cellsOf 3)) = xs[1]? := hfs 1 _ rfl
  rw [List.getElem?_eq_getElem (by omega), s_int] at f1
  have f2 : DataW.trod enc Tryd.prog W 0 (fun _ => true) true n' 3 ((cs.drop 2).take (Tryd.prog.cellsOf 3)) = xs[2]? := hfs 2 _ rfl
  rw [List.getElem?_eq_getElem (by omega), s_int] at f2
  have f3 : DataW.trod enc Tryd.prog W 0 (fun _ => true) true n' 3 ((cs.drop 3).take (Tryd.prog.cellsOf 3)) = xs[3]? := hfs 3 _ rfl
  rw [List.getElem?_eq_getElem (by omega), s_int] at f3
  obtain ⟨a, e0, _, ha⟩ := DataW.trod_int Tryd.underlying3 f0
  obtain ⟨b, e1, _, hb⟩ := DataW.trod_int Tryd.underlying3 f1
  obtain ⟨c, e2, _, hc⟩ := DataW.trod_int Tryd.underlying3 f2
  obtain ⟨d, e3, _, hd⟩ := DataW.trod_int Tryd.underlying3 f3
  refine ⟨a, b, c, d, ?_, law_i64 ha, law_i64 hb, law_i64 hc, law_i64 hd⟩
  show cs.drop 0 = _
  rw [cut_at cs (k := 0) (n := 1) (m := 1) rfl, e0, cut_at cs (k := 1) (n := 1) (m := 2) rfl, e1, cut_at cs (k := 2) (n := 1) (m := 3) rfl, e2, cut_at cs (k := 3) (n := 1) (m := 4) rfl, e3, List.drop_eq_nil_of_le (by omega)]
  rfl
theorem cells_cmd {H : Type} {enc : TypeId × Value → H} {W : World} {fuel : Nat} {cs : List Value} {x : DataW H × List MemPlace} (h : DataW.trod enc Tryd.prog W 0 (fun _ => true) true fuel 60 cs = some x) :
    ∃ (ck : Int) (key : ByteArray) (ok : Int) (ox0 : Nat) (os : ByteArray) (vk : Int) (vx0 : Nat) (vs : ByteArray), cs = [.int .i64 ck, .string key, .int .i64 ok, .float .f64 ox0, .string os, .int .i64 vk, .float .f64 vx0, .string vs] ∧ In64 ck ∧ key.size ≤ maxLen ∧ In64 ok ∧ ox0 < 18446744073709551616 ∧ os.size ≤ maxLen ∧ In64 vk ∧ vx0 < 18446744073709551616 ∧ vs.size ≤ maxLen := by
  obtain ⟨xs, n', _, _, hl, hxl, hfs⟩ := DataW.trod_struct Tryd.underlying60 h
  rw [s_api_Cmd] at hl
  have hxl2 : xs.length = 4 := hxl
  have f0 : DataW.trod enc Tryd.prog W 0 (fun _ => true) true n' 3 ((cs.drop 0).take (Tryd.prog.cellsOf 3)) = xs[0]? := hfs 0 _ rfl
  rw [List.getElem?_eq_getElem (by omega), s_int] at f0
  have f1 : DataW.trod enc Tryd.prog W 0 (fun _ => true) true n' 9 ((cs.drop 1).take (Tryd.prog.cellsOf 9)) = xs[1]? := hfs 1 _ rfl
  rw [List.getElem?_eq_getElem (by omega), s_string] at f1
  have f2 : DataW.trod enc Tryd.prog W 0 (fun _ => true) true n' 56 ((cs.drop 2).take (Tryd.prog.cellsOf 56)) = xs[2]? := hfs 2 _ rfl
  rw [List.getElem?_eq_getElem (by omega), s_api_Value] at f2
  have f3 : DataW.trod enc Tryd.prog W 0 (fun _ => true) true n' 56 ((cs.drop 5).take (Tryd.prog.cellsOf 56)) = xs[3]? := hfs 3 _ rfl
  rw [List.getElem?_eq_getElem (by omega), s_api_Value] at f3
  obtain ⟨ck, e0, _, hck⟩ := DataW.trod_int Tryd.underlying3 f0
  obtain ⟨key, e1, _, hkey⟩ := DataW.trod_string Tryd.underlying9 f1
  obtain ⟨ok, ox0, os, e2, p2_0, p2_1, p2_2⟩ := cells_va f2
  obtain ⟨vk, vx0, vs, e3, p3_0, p3_1, p3_2⟩ := cells_va f3
  refine ⟨ck, key, ok, ox0, os, vk, vx0, vs, ?_, law_i64 hck, hkey, p2_0, p2_1, p2_2, p3_0, p3_1, p3_2⟩
  show cs.drop 0 = _
  rw [cut_at cs (k := 0) (n := 1) (m := 1) rfl, e0, cut_at cs (k := 1) (n := 1) (m := 2) rfl, e1, cut_at cs (k := 2) (n := 3) (m := 5) rfl, e2, cut_at cs (k := 5) (n := 3) (m := 8) rfl, e3, List.drop_eq_nil_of_le (by omega)]
  rfl
theorem cells_call {H : Type} {enc : TypeId × Value → H} {W : World} {fuel : Nat} {cs : List Value} {x : DataW H × List MemPlace} (h : DataW.trod enc Tryd.prog W 0 (fun _ => true) true fuel 62 cs = some x) :
    ∃ (cl : Int) (sq : Int) (mck : Int) (mkey : ByteArray) (mok : Int) (mox0 : Nat) (mos : ByteArray) (mvk : Int) (mvx0 : Nat) (mvs : ByteArray), cs = [.int .i64 cl, .int .i64 sq, .int .i64 mck, .string mkey, .int .i64 mok, .float .f64 mox0, .string mos, .int .i64 mvk, .float .f64 mvx0, .string mvs] ∧ In64 cl ∧ In64 sq ∧ In64 mck ∧ mkey.size ≤ maxLen ∧ In64 mok ∧ mox0 < 18446744073709551616 ∧ mos.size ≤ maxLen ∧ In64 mvk ∧ mvx0 < 18446744073709551616 ∧ mvs.size ≤ maxLen := by
  obtain ⟨xs, n', _, _, hl, hxl, hfs⟩ := DataW.trod_struct Tryd.underlying62 h
  rw [s_api_Call] at hl
  have hxl2 : xs.length = 3 := hxl
  have f0 : DataW.trod enc Tryd.prog W 0 (fun _ => true) true n' 3 ((cs.drop 0).take (Tryd.prog.cellsOf 3)) = xs[0]? := hfs 0 _ rfl
  rw [List.getElem?_eq_getElem (by omega), s_int] at f0
  have f1 : DataW.trod enc Tryd.prog W 0 (fun _ => true) true n' 3 ((cs.drop 1).take (Tryd.prog.cellsOf 3)) = xs[1]? := hfs 1 _ rfl
  rw [List.getElem?_eq_getElem (by omega), s_int] at f1
  have f2 : DataW.trod enc Tryd.prog W 0 (fun _ => true) true n' 60 ((cs.drop 2).take (Tryd.prog.cellsOf 60)) = xs[2]? := hfs 2 _ rfl
  rw [List.getElem?_eq_getElem (by omega), s_api_Cmd] at f2
  obtain ⟨cl, e0, _, hcl⟩ := DataW.trod_int Tryd.underlying3 f0
  obtain ⟨sq, e1, _, hsq⟩ := DataW.trod_int Tryd.underlying3 f1
  obtain ⟨mck, mkey, mok, mox0, mos, mvk, mvx0, mvs, e2, p2_0, p2_1, p2_2, p2_3, p2_4, p2_5, p2_6, p2_7⟩ := cells_cmd f2
  refine ⟨cl, sq, mck, mkey, mok, mox0, mos, mvk, mvx0, mvs, ?_, law_i64 hcl, law_i64 hsq, p2_0, p2_1, p2_2, p2_3, p2_4, p2_5, p2_6, p2_7⟩
  show cs.drop 0 = _
  rw [cut_at cs (k := 0) (n := 1) (m := 1) rfl, e0, cut_at cs (k := 1) (n := 1) (m := 2) rfl, e1, cut_at cs (k := 2) (n := 8) (m := 10) rfl, e2, List.drop_eq_nil_of_le (by omega)]
  rfl
theorem cells_ent0 {H : Type} {enc : TypeId × Value → H} {W : World} {fuel : Nat} {cs : List Value} {x : DataW H × List MemPlace} (h : DataW.trod enc Tryd.prog W 0 (fun _ => true) true fuel 64 cs = some x) :
    ∃ (term : Int) (kind : Int) (qcl : Int) (qsq : Int) (qmck : Int) (qmkey : ByteArray) (qmok : Int) (qmox0 : Nat) (qmos : ByteArray) (qmvk : Int) (qmvx0 : Nat) (qmvs : ByteArray) (ga : Int) (gb : Int) (gc : Int) (gd : Int), cs = [.int .i64 term, .int .i64 kind, .int .i64 qcl, .int .i64 qsq, .int .i64 qmck, .string qmkey, .int .i64 qmok, .float .f64 qmox0, .string qmos, .int .i64 qmvk, .float .f64 qmvx0, .string qmvs, .int .i64 ga, .int .i64 gb, .int .i64 gc, .int .i64 gd] ∧ In64 term ∧ In64 kind ∧ In64 qcl ∧ In64 qsq ∧ In64 qmck ∧ qmkey.size ≤ maxLen ∧ In64 qmok ∧ qmox0 < 18446744073709551616 ∧ qmos.size ≤ maxLen ∧ In64 qmvk ∧ qmvx0 < 18446744073709551616 ∧ qmvs.size ≤ maxLen ∧ In64 ga ∧ In64 gb ∧ In64 gc ∧ In64 gd := by
  obtain ⟨xs, n', _, _, hl, hxl, hfs⟩ := DataW.trod_struct Tryd.underlying64 h
  rw [s_api_Entry] at hl
  have hxl2 : xs.length = 4 := hxl
  have f0 : DataW.trod enc Tryd.prog W 0 (fun _ => true) true n' 3 ((cs.drop 0).take (Tryd.prog.cellsOf 3)) = xs[0]? := hfs 0 _ rfl
  rw [List.getElem?_eq_getElem (by omega), s_int] at f0
  have f1 : DataW.trod enc Tryd.prog W 0 (fun _ => true) true n' 3 ((cs.drop 1).take (Tryd.prog.cellsOf 3)) = xs[1]? := hfs 1 _ rfl
  rw [List.getElem?_eq_getElem (by omega), s_int] at f1
  have f2 : DataW.trod enc Tryd.prog W 0 (fun _ => true) true n' 62 ((cs.drop 2).take (Tryd.prog.cellsOf 62)) = xs[2]? := hfs 2 _ rfl
  rw [List.getElem?_eq_getElem (by omega), s_api_Call] at f2
  have f3 : DataW.trod enc Tryd.prog W 0 (fun _ => true) true n' 25 ((cs.drop 12).take (Tryd.prog.cellsOf 25)) = xs[3]? := hfs 3 _ rfl
  rw [List.getElem?_eq_getElem (by omega), s_api_Conf] at f3
  obtain ⟨term, e0, _, hterm⟩ := DataW.trod_int Tryd.underlying3 f0
  obtain ⟨kind, e1, _, hkind⟩ := DataW.trod_int Tryd.underlying3 f1
  obtain ⟨qcl, qsq, qmck, qmkey, qmok, qmox0, qmos, qmvk, qmvx0, qmvs, e2, p2_0, p2_1, p2_2, p2_3, p2_4, p2_5, p2_6, p2_7, p2_8, p2_9⟩ := cells_call f2
  obtain ⟨ga, gb, gc, gd, e3, p3_0, p3_1, p3_2, p3_3⟩ := cells_conf f3
  refine ⟨term, kind, qcl, qsq, qmck, qmkey, qmok, qmox0, qmos, qmvk, qmvx0, qmvs, ga, gb, gc, gd, ?_, law_i64 hterm, law_i64 hkind, p2_0, p2_1, p2_2, p2_3, p2_4, p2_5, p2_6, p2_7, p2_8, p2_9, p3_0, p3_1, p3_2, p3_3⟩
  show cs.drop 0 = _
  rw [cut_at cs (k := 0) (n := 1) (m := 1) rfl, e0, cut_at cs (k := 1) (n := 1) (m := 2) rfl, e1, cut_at cs (k := 2) (n := 10) (m := 12) rfl, e2, cut_at cs (k := 12) (n := 4) (m := 16) rfl, e3, List.drop_eq_nil_of_le (by omega)]
  rfl
theorem cells_ent {H : Type} {enc : TypeId × Value → H} {W : World} {fuel : Nat} {cs : List Value} {x : DataW H × List MemPlace} (h : DataW.trod enc Tryd.prog W 0 (fun _ => true) true fuel 64 cs = some x) : ∃ e : En, cs = e.cells ∧ e.In ∧ e.Str := by
  obtain ⟨term, kind, qcl, qsq, qmck, qmkey, qmok, qmox0, qmos, qmvk, qmvx0, qmvs, ga, gb, gc, gd, e, p0, p1, p2, p3, p4, p5, p6, p7, p8, p9, p10, p11, p12, p13, p14, p15⟩ := cells_ent0 h
  exact ⟨⟨term, kind, qcl, qsq, qmck, qmkey, ⟨qmok, qmox0, qmos⟩, ⟨qmvk, qmvx0, qmvs⟩, ga, gb, gc, gd⟩, e, ⟨p0, p2, p3, p12, p13, p14, p15⟩, ⟨p5, p8, p11⟩⟩
theorem flat_len (es : List En) : (es.map En.cells).flatten.length = es.length * 16 := by
  induction es with
  | nil => rfl
  | cons e r ih => rw [List.map_cons, List.flatten_cons, List.length_append, ih, e.cells_len, List.length_cons]; omega
theorem flat_get (es : List En) : ∀ (i j : Nat) (e : En), j < 16 → es[i]? = some e → (es.map En.cells).flatten[i * 16 + j]? = e.cells[j]? := by
  induction es with
  | nil => intro i j e _ h; simp at h
  | cons a r ih =>
    intro i j e hj h
    rw [List.map_cons, List.flatten_cons]
    cases i with
    | zero =>
      simp at h
      subst h
      rw [Nat.zero_mul, Nat.zero_add, List.getElem?_append_left (by rw [a.cells_len]; exact hj)]
    | succ i =>
      rw [List.getElem?_append_right (by rw [a.cells_len]; omega), a.cells_len, show (i + 1) * 16 + j - 16 = i * 16 + j by omega]
      exact ih i j e hj (by simpa using h)
theorem cells_ents {H : Type} {enc : TypeId × Value → H} {W : World} {fuel : Nat} {cs : List Value} {x : DataW H × List MemPlace} (hf : DataW.trod enc Tryd.prog W 0 (fun _ => true) true fuel 27 cs = some x) :
    ∃ A m c es, cs = [.slice A m c] ∧ EnRows W W.heap.size A m c es ∧ es.length = m ∧ (∀ e ∈ es, e.In) ∧ (∀ e ∈ es, e.Str) := by
  rcases DataW.trod_slice Tryd.underlying27 hf with ⟨hcs, _⟩ | ⟨a, len, cap, elems, rest, fl, _, hcs, _, _, hl, hm, hel, hat, _, _⟩
  · exact ⟨none, 0, 0, [], hcs, Rd.nil _ _ _, rfl, by simp, by simp⟩
  · have each : ∀ i, i < len → ∃ e : En, e.In ∧ e.Str ∧ ∀ j, j < 16 → ∃ u, e.cells[j]? = some u ∧ W.cell? ((a.add (i * 16)).add j) = some u := by
      intro i hi
      have h1 := hat i hi
      rw [s_api_Entry, List.getElem?_eq_getElem (by omega), Option.bind_eq_some_iff] at h1
      obtain ⟨cs', h2, h3⟩ := h1
      obtain ⟨_, hlen, hcell⟩ := World.cells?_some h2
      obtain ⟨e, rfl, h4, h5⟩ := cells_ent h3
      refine ⟨e, h4, h5, fun j hj => ?_⟩
      have hj' : j < e.cells.length := hj
      exact ⟨e.cells[j], List.getElem?_eq_getElem hj', by rw [hcell j hj, List.getElem?_eq_getElem hj']⟩
    by_cases h0 : 0 < len
    · obtain ⟨_, _, _, hu0⟩ := each 0 h0
      obtain ⟨_, _, hu0⟩ := hu0 0 (by decide)
      obtain ⟨b, off, spot⟩ := a
      have hspot : spot = none := by simpa [Addr.add] using World.cell?_spot hu0
      subst hspot
      have hblt : b < W.heap.size := World.block_lt_of_cell? _ _ (by simpa [Addr.add] using hu0)
      obtain ⟨es, hes⟩ : ∃ es : List En, es = (List.range len).map fun i => if h : i < len then Classical.choose (each i h) else e0 := ⟨_, rfl⟩
      have hel2 : es.length = len := by rw [hes]; simp
      have hget : ∀ i e, es[i]? = some e → i < len ∧ e.In ∧ e.Str ∧ ∀ j, j < 16 → ∃ u, e.cells[j]? = some u ∧ W.cell? ⟨b, off + i * 16 + j, none⟩ = some u := fun i e he => by
        have hi : i < len := by have := (List.getElem?_eq_some_iff.1 he).1; omega
        rw [hes] at he
        simp [hi] at he
        have hs := Classical.choose_spec (each i hi)
        rw [he] at hs
        refine ⟨hi, hs.1, hs.2.1, fun j hj => ?_⟩
        obtain ⟨u, h1, h2⟩ := hs.2.2 j hj
        rw [addr_add, addr_add] at h2
        exact ⟨u, h1, h2⟩
      have hmem : ∀ e ∈ es, e.In ∧ e.Str := fun e he => by
        obtain ⟨i, hi⟩ := List.getElem?_of_mem he
        obtain ⟨_, h1, h2, _⟩ := hget i e hi
        exact ⟨h1, h2⟩
      have hfl : (es.map En.cells).flatten.length = len * 16 := by
        rw [← hel2]
        exact flat_len es
      refine ⟨_, _, _, es, hcs, ⟨hfl, hl, hm, fun _ => ⟨b, off, rfl, hblt, fun j u hu => ?_⟩⟩, hel2, fun e he => (hmem e he).1, fun e he => (hmem e he).2⟩
      have hj : j < len * 16 := by have := (List.getElem?_eq_some_iff.1 hu).1; omega
      obtain ⟨e, he⟩ : ∃ e, es[j / 16]? = some e := ⟨_, List.getElem?_eq_getElem (by omega)⟩
      obtain ⟨_, _, _, h3⟩ := hget _ e he
      obtain ⟨u', h4, h5⟩ := h3 (j % 16) (by omega)
      have h6 := flat_get es (j / 16) (j % 16) e (by omega) he
      rw [show j / 16 * 16 + j % 16 = j by omega, hu, h4] at h6
      injection h6 with h6
      subst h6
      rw [← h5]
      congr 2
      omega
    · obtain rfl : len = 0 := by omega
      exact ⟨_, _, _, [], hcs, ⟨rfl, hl, hm, fun h => by omega⟩, rfl, by simp, by simp⟩
theorem cells_bslice {H : Type} {enc : TypeId × Value → H} {W : World} {fuel : Nat} {cs : List Value} {x : DataW H × List MemPlace} (hf : DataW.trod enc Tryd.prog W 0 (fun _ => true) true fuel 26 cs = some x) : ∃ A n c, cs = [.slice A n c] := by
  rcases DataW.trod_slice Tryd.underlying26 hf with ⟨hcs, _⟩ | ⟨a, len, cap, elems, rest, fl, _, hcs, _⟩
  · exact ⟨_, _, _, hcs⟩
  · exact ⟨_, _, _, hcs⟩
theorem cells_hard {H : Type} {enc : TypeId × Value → H} {W : World} {fuel : Nat} {cs : List Value} {x : DataW H × List MemPlace} (h : DataW.trod enc Tryd.prog W 0 (fun _ => true) true fuel 29 cs = some x) :
    ∃ (g : Hd) (S : Option Addr) (sn sc : Nat) (A : Option Addr) (m c : Nat) (es : List En), cs = g.cells S sn sc A m c ∧ EnRows W W.heap.size A m c es ∧ es.length = m ∧ (∀ e ∈ es, e.In) ∧ (∀ e ∈ es, e.Str) ∧ In64 g.base := by
  obtain ⟨xs, n', _, _, hl, hxl, hfs⟩ := DataW.trod_struct Tryd.underlying29 h
  rw [s_api_Hard] at hl
  have hxl2 : xs.length = 7 := hxl
  have f0 : DataW.trod enc Tryd.prog W 0 (fun _ => true) true n' 3 ((cs.drop 0).take (Tryd.prog.cellsOf 3)) = xs[0]? := hfs 0 _ rfl
  rw [List.getElem?_eq_getElem (by omega), s_int] at f0
  have f1 : DataW.trod enc Tryd.prog W 0 (fun _ => true) true n' 3 ((cs.drop 1).take (Tryd.prog.cellsOf 3)) = xs[1]? := hfs 1 _ rfl
  rw [List.getElem?_eq_getElem (by omega), s_int] at f1
  have f2 : DataW.trod enc Tryd.prog W 0 (fun _ => true) true n' 3 ((cs.drop 2).take (Tryd.prog.cellsOf 3)) = xs[2]? := hfs 2 _ rfl
  rw [List.getElem?_eq_getElem (by omega), s_int] at f2
  have f3 : DataW.trod enc Tryd.prog W 0 (fun _ => true) true n' 3 ((cs.drop 3).take (Tryd.prog.cellsOf 3)) = xs[3]? := hfs 3 _ rfl
  rw [List.getElem?_eq_getElem (by omega), s_int] at f3
  have f4 : DataW.trod enc Tryd.prog W 0 (fun _ => true) true n' 25 ((cs.drop 4).take (Tryd.prog.cellsOf 25)) = xs[4]? := hfs 4 _ rfl
  rw [List.getElem?_eq_getElem (by omega), s_api_Conf] at f4
  have f5 : DataW.trod enc Tryd.prog W 0 (fun _ => true) true n' 26 ((cs.drop 8).take (Tryd.prog.cellsOf 26)) = xs[5]? := hfs 5 _ rfl
  rw [List.getElem?_eq_getElem (by omega), s_sl_uint8] at f5
  have f6 : DataW.trod enc Tryd.prog W 0 (fun _ => true) true n' 27 ((cs.drop 9).take (Tryd.prog.cellsOf 27)) = xs[6]? := hfs 6 _ rfl
  rw [List.getElem?_eq_getElem (by omega), s_sl_api_Entry] at f6
  obtain ⟨t, e0, _, _⟩ := DataW.trod_int Tryd.underlying3 f0
  obtain ⟨v, e1, _, _⟩ := DataW.trod_int Tryd.underlying3 f1
  obtain ⟨b, e2, _, hb⟩ := DataW.trod_int Tryd.underlying3 f2
  obtain ⟨bt, e3, _, _⟩ := DataW.trod_int Tryd.underlying3 f3
  obtain ⟨a1, a2, a3, a4, e4, _⟩ := cells_conf f4
  obtain ⟨S, sn, sc, e5⟩ := cells_bslice f5
  obtain ⟨A, m, c, es, e6, h1, h2, h3, h4⟩ := cells_ents f6
  refine ⟨⟨t, v, b, bt, a1, a2, a3, a4⟩, S, sn, sc, A, m, c, es, ?_, h1, h2, h3, h4, law_i64 hb⟩
  show cs.drop 0 = _
  rw [cut_at cs (k := 0) (n := 1) (m := 1) rfl, e0, cut_at cs (k := 1) (n := 1) (m := 2) rfl, e1, cut_at cs (k := 2) (n := 1) (m := 3) rfl, e2, cut_at cs (k := 3) (n := 1) (m := 4) rfl, e3, cut_at cs (k := 4) (n := 4) (m := 8) rfl, e4, cut_at cs (k := 8) (n := 1) (m := 9) rfl, e5, cut_at cs (k := 9) (n := 1) (m := 10) rfl, e6, List.drop_eq_nil_of_le (by omega)]
  rfl
theorem law_hard {H : Type} {enc : TypeId × Value → H} {W : World} {base : Nat} {v : Value} {d : DataW H} {ps : List MemPlace} (hv : Value.okWide Tryd.prog W .any base 29 v)
    (h : DataW.Trod enc Tryd.prog W 0 (fun _ => true) true 29 v d ps) :
    ∃ (g : Hd) (S : Option Addr) (sn sc : Nat) (A : Option Addr) (m c : Nat) (es : List En), v = .agg #[.int .i64 g.term, .int .i64 g.vote, .int .i64 g.base, .int .i64 g.bt, .int .i64 g.full, .int .i64 g.wit, .int .i64 g.learn, .int .i64 g.lw, .slice S sn sc, .slice A m c] ∧ EnRows W W.heap.size A m c es ∧ es.length = m ∧ (∀ e ∈ es, e.In) ∧ (∀ e ∈ es, e.Str) ∧ In64 g.base := by
  obtain ⟨cs, rfl, hsz⟩ := okWide_struct Tryd.underlying29 hv
  obtain ⟨fuel, hf⟩ := h
  have hcs : (Value.agg cs).cells = cs := rfl
  rw [hcs] at hf
  obtain ⟨g, S, sn, sc, A, m, c, es, e, h1⟩ := cells_hard hf
  exact ⟨g, S, sn, sc, A, m, c, es, by rw [← Array.toArray_toList (xs := cs), e]; rfl, h1⟩
theorem law_val {H : Type} {enc : TypeId × Value → H} {W : World} {base : Nat} {v : Value} {d : DataW H} {ps : List MemPlace} (hv : Value.okWide Tryd.prog W .any base 56 v)
    (h : DataW.Trod enc Tryd.prog W 0 (fun _ => true) true 56 v d ps) : ∃ a : Va, v = .agg #[.int .i64 a.k, .float .f64 a.x, .string a.s] ∧ In64 a.k ∧ a.x < 18446744073709551616 ∧ a.s.size ≤ maxLen := by
  obtain ⟨cs, rfl, hsz⟩ := okWide_struct Tryd.underlying56 hv
  obtain ⟨fuel, hf⟩ := h
  have hcs : (Value.agg cs).cells = cs := rfl
  rw [hcs] at hf
  obtain ⟨k, m, s, e, hk, hm, hz⟩ := cells_va hf
  exact ⟨⟨k, m, s⟩, by rw [← Array.toArray_toList (xs := cs), e], hk, hm, hz⟩
end Go.Proofs.YtkckncggiicciaaDoor
/-
  The walk of ref25.Lags; written by genflags.py.
-/
namespace Go.Proofs.YtkckncggiicciaaDoor
open Go.RowKit
set_option maxRecDepth 100000
theorem line_say (id k : Int) : sayB ⟨#[108, 97, 103]⟩ [id, k] = (⟨(lineL id k).toArray⟩ : ByteArray) := by
  refine bytes_ext ?_
  simp only [sayB, List.foldl_cons, List.foldl_nil, ByteArray.data_append, Array.toList_append]
  unfold lineL wordsL
  rw [Lib.join_cons]
  simp [Lib.joinTail]
/-- The greatest so far: nought ahead of all. -/
def topI (c0 : Int) (l : List Int) : Int := if l = [] then 0 else topL c0 l
set_option maxHeartbeats 12800000 in
theorem RfLags_any (A : Option Addr) (n cap : Nat) (xss : List (List Value)) (ids cs : List Int) (ks : List Nat) (w : World) (hy : Rd w w.heap.size 40 A n cap xss.flatten) (hx : xss.length = n) (hi : ids.length = n) (hc : cs.length = n) (hk : ks.length = n)
    (hok : ∀ (i : Nat) x, xss[i]? = some x → ∃ id c, ids[i]? = some id ∧ cs[i]? = some c ∧ RfOk x id c) (hid : ∀ id ∈ ids, In64 id) (hc64 : ∀ c ∈ cs, In64 c)
    (hks : okC cs = true → ∀ (i : Nat) c, cs[i]? = some c → ∃ k : Nat, ks[i]? = some k ∧ (k : Int) = topL (cs.headD 0) cs - c) (hn : n ≤ 1000) (hI : ItAt w) :
    Calls Tryd.prog 19 #[.slice A n cap] w (LagsPost ids cs ks w) := by
  rcases Nat.eq_zero_or_pos n with h0 | hpos
  · subst h0
    obtain rfl : cs = [] := List.eq_nil_of_length_eq_zero hc
    obtain rfl : ids = [] := List.eq_nil_of_length_eq_zero hi
    obtain rfl : ks = [] := List.eq_nil_of_length_eq_zero hk
    have HP : Hid (∀ w', Below w.heap.size w w' → LagsPost [] [] [] w (.returned (.tuple #[.slice none 0 0, .float .f64 (meanV [])])) w') := fun w' hb => by
      unfold LagsPost
      rw [if_pos (show okC [] = true from rfl)]
      exact ⟨⟨_, rfl, ownS_nil _ _⟩, hb⟩
    have HM : Hid (∀ w, Calls Tryd.prog 45 #[.slice none 0 0] w (Qt w (.float .f64 (meanV [])))) := fun w => RefMean_any none 0 0 0 [] w (Rd.nil _ _ _)
    unfold Qt at HM
    obtain ⟨M, hM⟩ : ∃ M, meanV [] = M := ⟨_, rfl⟩
    obtain ⟨J, hJ⟩ : ∃ J, LagsPost [] [] [] w = J := ⟨_, rfl⟩
    rw [hM] at HM HP
    rw [hJ] at HP ⊢
    clear hy hx hi hc hk hok hid hks hI hc64 hn hM hJ
    go_enter Tryd.func19, Tryd.ntmps19
    go_wp2_with fail
    go_loopg [4, 5] 0 (fun g s4 s5 wr => g = 0 ∧ s5 = .int .i64 0 ∧ s4 = .int .i64 0 ∧ Below w.heap.size w wr)
    case atStart => exact ⟨rfl, rfl, rfl, Below.refl _ _⟩
    case round =>
      obtain ⟨_, rfl, rfl, hbr⟩ := hrel
      go_wp2_with fail
      go_loopg [6, 7, 8] 0 (fun g s6 s7 s8 wr => g = 0 ∧ s8 = .int .i64 0 ∧ s6 = .slice none 0 0 ∧ s7 = .slice none 0 0 ∧ Below w.heap.size w wr)
      case atStart => exact ⟨rfl, rfl, rfl, rfl, hbr⟩
      case round =>
        clear hbr
        obtain ⟨_, rfl, rfl, rfl, hbr⟩ := hrel
        go_wp2_with (refine (HM.out _).mono ?_; rintro e w1 ⟨rfl, k, rfl⟩)
        exact HP.out _ (below_drewN hbr _)
  obtain ⟨c0, hc0⟩ : ∃ c0, cs.headD 0 = c0 := ⟨_, rfl⟩
  have hcs0 : cs[0]? = some c0 := by
    cases cs with
    | nil => simp at hc; omega
    | cons a r => simp at hc0 ⊢; exact hc0
  rw [hc0] at hks
  have Hc0 := Lib.hid (List.mem_of_getElem? hcs0)
  have hl40 : ∀ x ∈ xss, x.length = 40 := fun x hx' => by
    obtain ⟨i, hi', rfl⟩ := List.mem_iff_getElem.1 hx'
    obtain ⟨id, c, _, _, h⟩ := hok i _ (List.getElem?_eq_getElem hi')
    exact h.len
  -- the k-th replica, in a world that came of this
  have HE : Hid (∀ i, i < n → ∃ b off id c, A = some ⟨b, off, none⟩ ∧ b < w.heap.size ∧ In64 id ∧ In64 c ∧ ids[i]? = some id ∧ cs[i]? = some c ∧ w.cell? ⟨b, off + i * 40, none⟩ = some (.int .i64 id) ∧ w.cell? ⟨b, off + i * 40 + 11, none⟩ = some (.int .i64 c)) := fun i hin => by
    obtain ⟨b, off, x, h1, h2, h3, h4, h5⟩ := rd_row hy hl40 hx hin
    obtain ⟨id, c, q1, q2, q3⟩ := hok i x h3
    have h0 := h5 0 _ q3.id
    rw [Nat.add_zero] at h0
    exact ⟨b, off, id, c, h1, h2, hid id (List.mem_of_getElem? q1), hc64 c (List.mem_of_getElem? q2), q1, q2, h0, h5 11 _ q3.commit⟩
  have HNo : Hid (okC cs = false → ∀ w', Below w.heap.size w w' → LagsPost ids cs ks w (.returned (.tuple #[.slice none 0 0, .float .f64 9221120237041090561])) w') := fun h w' hb => by
    unfold LagsPost
    rw [if_neg (by rw [h]; decide), meanV_nil]
    exact ⟨rfl, hb⟩
  have HYes : Hid (okC cs = true → ∀ w' v, OwnS w' w.heap.size v (linesL ids ks) → Below w.heap.size w w' → LagsPost ids cs ks w (.returned (.tuple #[v, .float .f64 (meanV (ks.map fi))])) w') := fun h w' v ho hb => by
    unfold LagsPost
    rw [if_pos h]
    exact ⟨⟨v, rfl, ho⟩, hb⟩
  obtain ⟨J, hJ⟩ : ∃ J, LagsPost ids cs ks w = J := ⟨_, rfl⟩
  rw [hJ] at HNo HYes ⊢
  have HM : Hid (∀ w, Calls Tryd.prog 44 #[] w fun e w' => e = .returned (.float .f64 9221120237041090561) ∧ w = w') := fun w => RefNaN_any w
  obtain ⟨M, hM⟩ : ∃ M, M = 9221120237041090561 := ⟨_, rfl⟩
  rw [← hM] at HM HNo
  have HI := Lib.hid hI
  have Hks := Lib.hid hks
  have Hlk := Lib.hid hk
  have Hli := Lib.hid hi
  have Hlc := Lib.hid hc
  obtain ⟨b, off, id, c, rfl, hb, _, h64, _, hce, _, _⟩ := HE.out 0 hpos
  obtain rfl : c = c0 := by rw [hcs0] at hce; injection hce with hce; exact hce.symm
  have HSay : Hid (∀ s cs A n c w', Rd w' w'.heap.size 1 A n c (cs.map fun x => .int .i64 x) → (∀ c ∈ cs, In64 c) → n ≤ 100 → s.size ≤ 1000000 → Below w.heap.size w w' → Calls Tryd.prog 37 #[.string s, .slice A n c] w' fun e w'' => e = .returned (.string (sayB s cs)) ∧ Below w'.heap.size w' w'') :=
        fun s cs A n c w' h1 h2 h3 h4 hb => say_any s A n c cs w' h1 h2 h3 h4 (HI.out.below hb)
  have hcap : n ≤ cap := hy.2.1
  have Hcs0 := Lib.hid hcs0
  clear hJ hI hks hk hi hc hce hok hid hx hy hl40 hcs0 hc0 hc64 h64 hM
  go_enter Tryd.func19, Tryd.ntmps19
  go_wp2_with fail
  go_loopg [4, 5] n (fun g s4 s5 wr => ∃ i : Nat, i + g = n ∧ s5 = .int .i64 i ∧ s4 = .int .i64 (topI c (cs.take i)) ∧ okC (cs.take i) = true ∧ Below w.heap.size w wr)
  case atStart => exact ⟨0, by omega, rfl, rfl, rfl, Below.refl _ _⟩
  case round =>
    obtain ⟨i, hig, rfl, rfl, hokc, hbr⟩ := hrel
    have Hig := Lib.hid hig
    have Hokc := Lib.hid hokc
    have hin : i ≤ n := by omega
    clear hig hokc
    by_cases hlt : i < n
    · obtain ⟨b', off', id, ci, he, hb', h64i, h64, hide, hce, y0, y11⟩ := HE.out i hlt
      injection he with he
      injection he with e1 e2 _
      subst e1 e2
      have x11 := (hbr.cell (p := ⟨b, off + i * 40 + 11, none⟩) hb).trans y11
      have Htk : Hid (cs.take (i + 1) = cs.take i ++ [ci]) := by
        unfold Hid
        rw [List.take_add_one, hce]
        rfl
      have Hne : Hid (i ≠ 0 → topI c (cs.take i) = topL c (cs.take i)) := fun h => by
        unfold topI
        rw [if_neg]
        intro h'
        have := congrArg List.length h'
        rw [List.length_take, Hlc.out] at this
        simp at this
        omega
      have Htp : Hid (topI c (cs.take (i + 1)) = if i = 0 then ci else max (topI c (cs.take i)) ci) := by
        unfold Hid
        have h1 : topI c (cs.take (i + 1)) = max (topL c (cs.take i)) ci := by
          unfold topI
          rw [Htk.out, if_neg (by simp), topL_snoc]
        rw [h1]
        by_cases h0 : i = 0
        · rw [if_pos h0]
          subst h0
          have := Hcs0.out
          rw [hce] at this
          injection this with this
          subst this
          show max (topL ci []) ci = ci
          unfold topL
          simp
        · rw [if_neg h0, Hne.out h0]
      obtain ⟨tp, htp⟩ : ∃ tp, topI c (cs.take i) = tp := ⟨_, rfl⟩
      rw [htp] at Htp ⊢
      have Hmem : Hid (ci ∈ cs) := List.mem_of_getElem? hce
      have i0 : (0 : Int) ≤ (i : Int) := by omega
      have i1 : (i : Int) < (n : Int) := by omega
      clear htp hide hce y0 y11 Hne
      rcases Decidable.em (-1099511627776 ≤ ci ∧ ci ≤ 1099511627776) with hci | hci
      · have Hok2 : Hid (okC (cs.take (i + 1)) = true) := by
          unfold Hid
          rw [Htk.out]
          exact okC_snoc _ _ Hokc.out hci
        obtain ⟨hlo, hhi⟩ := hci
        rcases Decidable.em (i = 0) with hz | hz
        · have hzi : ((i : Int) == 0) = true := by simp; omega
          have Ht2 : Hid (topI c (cs.take (i + 1)) = ci) := by unfold Hid; rw [Htp.out, if_pos hz]
          clear hz
          go_wp2_with fail
          go_roundg (gk - 1)
          case rel => exact ⟨i + 1, by have := Hig.out; omega, by go_num, by rw [Ht2.out], Hok2.out, hbr⟩
          case measure => have := Hig.out; omega
        · have hzi : ((i : Int) == 0) = false := by simp; omega
          rcases Decidable.em (tp < ci) with hgt | hgt
          · have Ht2 : Hid (topI c (cs.take (i + 1)) = ci) := by unfold Hid; rw [Htp.out, if_neg hz, Int.max_eq_right (by omega)]
            clear hz
            go_wp2_with fail
            go_roundg (gk - 1)
            case rel => exact ⟨i + 1, by have := Hig.out; omega, by go_num, by rw [Ht2.out], Hok2.out, hbr⟩
            case measure => have := Hig.out; omega
          · have Ht2 : Hid (topI c (cs.take (i + 1)) = tp) := by unfold Hid; rw [Htp.out, if_neg hz, Int.max_eq_left (by omega)]
            clear hz
            go_wp2_with fail
            go_roundg (gk - 1)
            case rel => exact ⟨i + 1, by have := Hig.out; omega, by go_num, by rw [Ht2.out], Hok2.out, hbr⟩
            case measure => have := Hig.out; omega
      · have hno : Hid (okC cs = false) := okC_no Hmem.out hci
        rcases Decidable.em (ci < -1099511627776) with hlo | hlo
        case' inr => have hhi : 1099511627776 < ci := by omega
        all_goals
          clear hci
          go_wp2_with (go_at_call 44; refine (HM.out _).mono ?_; rintro e w6 ⟨rfl, rfl⟩)
          exact HNo.out hno.out _ hbr
    · obtain rfl : i = n := by omega
      have hokA : okC cs = true := by
        have := Hokc.out
        rwa [List.take_of_length_le (by rw [Hlc.out]; exact Nat.le_refl _)] at this
      have hall : cs.take i = cs := List.take_of_length_le (by rw [Hlc.out]; exact Nat.le_refl _)
      rw [hall]
      have hti : topI c cs = topL c cs := by
        unfold topI
        rw [if_neg]
        intro h'
        have := congrArg List.length h'
        rw [Hlc.out] at this
        simp at this
        omega
      rw [hti]
      have Hks2 := Lib.hid (Hks.out hokA)
      have HY2 := Lib.hid (HYes.out hokA)
      have Hat : Hid (∀ ci ∈ cs, -1099511627776 ≤ ci ∧ ci ≤ 1099511627776) := fun ci hm => okC_at hokA hm
      have Htb : Hid (topL c cs ∈ cs) := by
        rcases topL_mem c cs with h | h
        · unfold Hid
          rw [h]
          exact Hc0.out
        · exact h
      obtain ⟨T, hT⟩ : ∃ T, topL c cs = T := ⟨_, rfl⟩
      rw [hT] at Hks2 Htb ⊢
      have htb := Hat.out T Htb.out
      obtain ⟨htb1, htb2⟩ := htb
      clear hokA hall hti Hokc Hks HYes HNo hT Hig hin hlt HM
      go_wp2_with fail
      go_loopg [6, 7, 8] i (fun g s6 s7 s8 wr => ∃ j : Nat, j + g = i ∧ s8 = .int .i64 j ∧ OwnS wr w.heap.size s6 (linesL (ids.take j) (ks.take j)) ∧ OwnF wr w.heap.size s7 ((ks.take j).map fi) ∧ Below w.heap.size w wr)
      case atStart => exact ⟨0, by omega, rfl, ownS_nil _ _, ownF_nil _ _, hbr⟩
      case round =>
        clear hbr
        obtain ⟨j, hjg, rfl, ho4, ho5, hbr⟩ := hrel
        have Hjg := Lib.hid hjg
        have hjn : j ≤ i := by omega
        have Ho4 := Lib.hid ho4
        have Ho5 := Lib.hid ho5
        clear hjg ho4 ho5
        by_cases hlt : j < i
        · obtain ⟨b', off', id, ci, he, hb', h64i, h64, hide, hce, y0, y11⟩ := HE.out j hlt
          injection he with he
          injection he with e1 e2 _
          subst e1 e2
          obtain ⟨k, hke, hkv⟩ := Hks2.out j ci hce
          have hci := Hat.out ci (List.mem_of_getElem? hce)
          obtain ⟨hci1, hci2⟩ := hci
          have HC : Hid (∀ w', Below wr.heap.size wr w' → w'.cell? ⟨b, off + j * 40, none⟩ = some (.int .i64 id) ∧ w'.cell? ⟨b, off + j * 40 + 11, none⟩ = some (.int .i64 ci)) := fun w' hb' => by
            have hbw := bstep hbr hb'
            exact ⟨(hbw.cell (p := ⟨b, off + j * 40, none⟩) hb).trans y0, (hbw.cell (p := ⟨b, off + j * 40 + 11, none⟩) hb).trans y11⟩
          have Hti : Hid (ids.take (j + 1) = ids.take j ++ [id]) := by unfold Hid; rw [List.take_add_one, hide]; rfl
          have Htk : Hid (ks.take (j + 1) = ks.take j ++ [k]) := by unfold Hid; rw [List.take_add_one, hke]; rfl
          have Hlen : Hid ((ids.take j).length = (ks.take j).length ∧ (ks.take j).length = j) := by
            have := Hli.out
            have := Hlk.out
            unfold Hid
            rw [List.length_take, List.length_take]
            omega
          have hsub : T - ci = (k : Int) := hkv.symm
          have hfi := fi_eq k
          have hkb : (k : Int) ≤ 2199023255552 := by omega
          have hk0 : (0 : Int) ≤ (k : Int) := by omega
          have h64k : In64 (k : Int) := by unfold In64; omega
          have HLs : Hid (sayB ⟨#[108, 97, 103]⟩ [id, (k : Int)] = (⟨(lineL id (k : Int)).toArray⟩ : ByteArray)) := line_say _ _
          have HS2 : Hid (∀ A c w', Rd w' w'.heap.size 1 A 2 c [.int .i64 id, .int .i64 (k : Int)] → Below wr.heap.size wr w' → Calls Tryd.prog 37 #[.string ⟨#[108, 97, 103]⟩, .slice A 2 c] w' fun e w'' => e = .returned (.string (sayB ⟨#[108, 97, 103]⟩ [id, (k : Int)])) ∧ Below w'.heap.size w' w'') :=
            fun A c w' h1 hb => HSay.out _ [id, (k : Int)] A 2 c w' h1 (by
              intro x hx
              simp at hx
              rcases hx with rfl | rfl
              · exact h64i
              · exact h64k) (by decide) (by decide) (bstep hbr hb)
          obtain ⟨LB, hLB⟩ : ∃ LB, sayB ⟨#[108, 97, 103]⟩ [id, (k : Int)] = LB := ⟨_, rfl⟩
          rw [hLB] at HLs HS2
          have j0 : (0 : Int) ≤ (j : Int) := by omega
          have j1 : (j : Int) < (i : Int) := by omega
          have Hbr := Lib.hid hbr
          obtain ⟨kk, hkk⟩ : ∃ kk : Int, (k : Int) = kk := ⟨_, rfl⟩
          rw [hkk] at hsub HS2 hkb hk0
          have Hkk := Lib.hid hkk
          obtain ⟨fl, hfl⟩ : ∃ fl, (ks.take j).map fi = fl := ⟨_, rfl⟩
          have Ho6 : Hid (OwnF wr w.heap.size u7 fl) := by
            rw [← hfl]
            exact Ho5.out
          have Hfl := Lib.hid hfl
          clear hide hce hke hkv h64k h64i h64 hLB y0 y11 hbr hkk hfi hfl Ho5
          go_wp2_with fail
          with_reducible refine wp_region_app 16 rfl (by kernel_rfl) (by kernel_rfl) (by kernel_rfl) (by kernel_rfl) [.val (u6),
      .val (.slice (some ⟨b, off, none⟩) i cap),
      .val (.int .i64 (j : Int)),
      .val (.pointer (some ⟨b, off + j * 40, none⟩)),
      .val (.pointer (some ⟨b, off + j * 40, none⟩)),
      .val (.int .i64 id),
      .val (.int .i64 T),
      .val (.slice (some ⟨b, off, none⟩) i cap),
      .val (.int .i64 (j : Int)),
      .val (.pointer (some ⟨b, off + j * 40, none⟩)),
      .val (.pointer (some ⟨b, off + j * 40 + 11, none⟩)),
      .val (.int .i64 ci),
      .val (.int .i64 kk),
      .rd (2) ([.int .i64 id, .int .i64 kk]),
      .val (.string LB),
      .rd (1) ([.string LB])] (fun v w2 => OwnS w2 w.heap.size v (linesL (ids.take (j + 1)) (ks.take (j + 1))) ∧ OwnF w2 w.heap.size u7 fl ∧ Below w.heap.size w w2) ?mk (fun f => ?hmk) ?f0 ?h0 ?hput ?hstep ?happ ?hasg ?hend
          case hmk =>
            simp only [putOps, Act.put, List.setIfInBounds_toArray, List.set_cons_succ, List.set_cons_zero, Nat.zero_add, Nat.reduceAdd]
            rfl
          case f0 => exact fun k => ([u52, u53, u54, u55, u56, u57, u58, u59, u60, u61, u62, u63, u64, u65, u66, u67, u68, u6] : List Value).getD k undef
          case h0 => exact rfl
          case hput =>
            repeat (refine ⟨fun f v => rfl, ?_⟩)
            exact trivial
          case hstep =>
            refine ⟨fun _ f w1 hb1 hu hd => ?_, ?_⟩
            · have qu : f 17 = u6 := hu
              clear hu
              clear hd
              go_wp2_with fail
              exact ⟨_, by first | rfl | simp only [qu, Act.put, List.setIfInBounds_toArray, List.set_cons_succ, List.set_cons_zero], Below.refl _ _, rfl⟩
            refine ⟨fun _ f w1 hb1 hu hd => ?_, ?_⟩
            · have qu : f 17 = u6 := hu
              clear hu
              clear hd
              go_wp2_with fail
              exact ⟨_, by first | rfl | simp only [qu, Act.put, List.setIfInBounds_toArray, List.set_cons_succ, List.set_cons_zero], Below.refl _ _, rfl⟩
            refine ⟨fun _ f w1 hb1 hu hd => ?_, ?_⟩
            · have qu : f 17 = u6 := hu
              clear hu
              clear hd
              go_wp2_with fail
              exact ⟨_, by first | rfl | simp only [qu, Act.put, List.setIfInBounds_toArray, List.set_cons_succ, List.set_cons_zero], Below.refl _ _, rfl⟩
            refine ⟨fun _ f w1 hb1 hu hd => ?_, ?_⟩
            · have qu : f 17 = u6 := hu
              clear hu
              obtain ⟨d0, d1, -⟩ := hd
              have q1 : f 1 = .slice (some ⟨b, off, none⟩) i cap := d0
              have q2 : f 2 = .int .i64 (j : Int) := d1
              clear d0 d1
              go_wp2_with fail
              exact ⟨_, by first | rfl | simp only [qu, q1, q2, Act.put, List.setIfInBounds_toArray, List.set_cons_succ, List.set_cons_zero], Below.refl _ _, rfl⟩
            refine ⟨fun _ f w1 hb1 hu hd => ?_, ?_⟩
            · have qu : f 17 = u6 := hu
              clear hu
              obtain ⟨d0, -⟩ := hd
              have q3 : f 3 = .pointer (some ⟨b, off + j * 40, none⟩) := d0
              clear d0
              go_wp2_with fail
              exact ⟨_, by first | rfl | simp only [qu, q3, Act.put, List.setIfInBounds_toArray, List.set_cons_succ, List.set_cons_zero], Below.refl _ _, rfl⟩
            refine ⟨fun _ f w1 hb1 hu hd => ?_, ?_⟩
            · have qu : f 17 = u6 := hu
              clear hu
              obtain ⟨d0, -⟩ := hd
              have q4 : f 4 = .pointer (some ⟨b, off + j * 40, none⟩) := d0
              clear d0
              obtain ⟨y0, y1⟩ := HC.out w1 hb1
              go_wp2_with fail
              exact ⟨_, by first | rfl | simp only [qu, q4, Act.put, List.setIfInBounds_toArray, List.set_cons_succ, List.set_cons_zero], Below.refl _ _, rfl⟩
            refine ⟨fun _ f w1 hb1 hu hd => ?_, ?_⟩
            · have qu : f 17 = u6 := hu
              clear hu
              clear hd
              go_wp2_with fail
              exact ⟨_, by first | rfl | simp only [qu, Act.put, List.setIfInBounds_toArray, List.set_cons_succ, List.set_cons_zero], Below.refl _ _, rfl⟩
            refine ⟨fun _ f w1 hb1 hu hd => ?_, ?_⟩
            · have qu : f 17 = u6 := hu
              clear hu
              clear hd
              go_wp2_with fail
              exact ⟨_, by first | rfl | simp only [qu, Act.put, List.setIfInBounds_toArray, List.set_cons_succ, List.set_cons_zero], Below.refl _ _, rfl⟩
            refine ⟨fun _ f w1 hb1 hu hd => ?_, ?_⟩
            · have qu : f 17 = u6 := hu
              clear hu
              clear hd
              go_wp2_with fail
              exact ⟨_, by first | rfl | simp only [qu, Act.put, List.setIfInBounds_toArray, List.set_cons_succ, List.set_cons_zero], Below.refl _ _, rfl⟩
            refine ⟨fun _ f w1 hb1 hu hd => ?_, ?_⟩
            · have qu : f 17 = u6 := hu
              clear hu
              obtain ⟨d0, d1, -⟩ := hd
              have q7 : f 7 = .slice (some ⟨b, off, none⟩) i cap := d0
              have q8 : f 8 = .int .i64 (j : Int) := d1
              clear d0 d1
              go_wp2_with fail
              exact ⟨_, by first | rfl | simp only [qu, q7, q8, Act.put, List.setIfInBounds_toArray, List.set_cons_succ, List.set_cons_zero], Below.refl _ _, rfl⟩
            refine ⟨fun _ f w1 hb1 hu hd => ?_, ?_⟩
            · have qu : f 17 = u6 := hu
              clear hu
              obtain ⟨d0, -⟩ := hd
              have q9 : f 9 = .pointer (some ⟨b, off + j * 40, none⟩) := d0
              clear d0
              go_wp2_with fail
              exact ⟨_, by first | rfl | simp only [qu, q9, Act.put, List.setIfInBounds_toArray, List.set_cons_succ, List.set_cons_zero], Below.refl _ _, rfl⟩
            refine ⟨fun _ f w1 hb1 hu hd => ?_, ?_⟩
            · have qu : f 17 = u6 := hu
              clear hu
              obtain ⟨d0, -⟩ := hd
              have q10 : f 10 = .pointer (some ⟨b, off + j * 40 + 11, none⟩) := d0
              clear d0
              obtain ⟨y0, y1⟩ := HC.out w1 hb1
              go_wp2_with fail
              exact ⟨_, by first | rfl | simp only [qu, q10, Act.put, List.setIfInBounds_toArray, List.set_cons_succ, List.set_cons_zero], Below.refl _ _, rfl⟩
            refine ⟨fun _ f w1 hb1 hu hd => ?_, ?_⟩
            · have qu : f 17 = u6 := hu
              clear hu
              obtain ⟨d0, d1, -⟩ := hd
              have q6 : f 6 = .int .i64 T := d0
              have q11 : f 11 = .int .i64 ci := d1
              clear d0 d1
              go_wp2_with fail
              exact ⟨_, by first | rfl | simp only [qu, q6, q11, Act.put, List.setIfInBounds_toArray, List.set_cons_succ, List.set_cons_zero], Below.refl _ _, rfl⟩
            refine ⟨fun _ f w1 hb1 hu hd => ?_, ?_⟩
            · have qu : f 17 = u6 := hu
              clear hu
              obtain ⟨d0, d1, -⟩ := hd
              have q5 : f 5 = .int .i64 id := d0
              have q12 : f 12 = .int .i64 kk := d1
              clear d0 d1
              go_wp2_with fail
              exact ⟨_, by first | rfl | simp only [qu, q5, q12, Act.put, List.setIfInBounds_toArray, List.set_cons_succ, List.set_cons_zero], alloc_below _ _, sp_lits w1 [.int .i64 id, .int .i64 kk] 3 (by simp)⟩
            refine ⟨fun _ f w1 hb1 hu hd => ?_, ?_⟩
            · have qu : f 17 = u6 := hu
              clear hu
              obtain ⟨d0, -⟩ := hd
              obtain ⟨A13, c13, q13, r13⟩ := d0
              have HV := Lib.hid (HS2.out A13 c13 w1 r13 hb1)
              rw [q13]
              clear r13
              go_wp2_with (with_reducible refine HV.out.mono ?_; rintro e w2 ⟨rfl, hb2⟩)
              exact ⟨_, by first | rfl | simp only [qu, Act.put, List.setIfInBounds_toArray, List.set_cons_succ, List.set_cons_zero], hb2, rfl⟩
            refine ⟨fun _ f w1 hb1 hu hd => ?_, ?_⟩
            · have qu : f 17 = u6 := hu
              clear hu
              obtain ⟨d0, -⟩ := hd
              have q14 : f 14 = .string LB := d0
              clear d0
              go_wp2_with fail
              exact ⟨_, by first | rfl | simp only [qu, q14, Act.put, List.setIfInBounds_toArray, List.set_cons_succ, List.set_cons_zero], alloc_below _ _, sp_lits w1 [.string LB] 9 (by simp)⟩
            refine ⟨fun h => absurd h (by decide), ?_⟩
            refine ⟨fun h => absurd h (by decide), ?_⟩
            exact trivial
          case happ =>
            refine ⟨fun h => absurd h (by decide), ?_⟩
            refine ⟨fun h => absurd h (by decide), ?_⟩
            refine ⟨fun h => absurd h (by decide), ?_⟩
            refine ⟨fun h => absurd h (by decide), ?_⟩
            refine ⟨fun h => absurd h (by decide), ?_⟩
            refine ⟨fun h => absurd h (by decide), ?_⟩
            refine ⟨fun h => absurd h (by decide), ?_⟩
            refine ⟨fun h => absurd h (by decide), ?_⟩
            refine ⟨fun h => absurd h (by decide), ?_⟩
            refine ⟨fun h => absurd h (by decide), ?_⟩
            refine ⟨fun h => absurd h (by decide), ?_⟩
            refine ⟨fun h => absurd h (by decide), ?_⟩
            refine ⟨fun h => absurd h (by decide), ?_⟩
            refine ⟨fun h => absurd h (by decide), ?_⟩
            refine ⟨fun h => absurd h (by decide), ?_⟩
            refine ⟨fun h => absurd h (by decide), ?_⟩
            refine ⟨fun _ f w1 hb1 hu hd => ?_, ?_⟩
            · have qu : f 17 = u6 := hu
              clear hu
              have q0 : f 0 = u6 := hd 0 (by decide)
              obtain ⟨A15, c15, q15, r15⟩ := hd 15 (by decide)
              have Hbw : Hid (Below w.heap.size w w1) := bstep Hbr.out hb1
              have Hob : Hid (OwnS w1 w.heap.size u6 (linesL (ids.take j) (ks.take j))) := own_below Ho4.out hb1
              have Hof : Hid (OwnF w1 w.heap.size u7 fl) := own_below Ho6.out hb1
              have HR : Hid (Rd w1 w1.heap.size 1 A15 1 c15 [sV (lineL id (k : Int))]) := by
                rw [HLs.out] at r15
                exact r15
              clear r15
              rw [q0, q15]
              go_wp2_with (
                (at_builtin
                 refine wpList_appSA rfl (.tmp 52) (.tmp 67) rfl w.heap.size u6 _ rfl Hob.out w1.heap.size A15 c15 _ rfl HR.out (by rw [linesL_len _ _ Hlen.out.1, Hlen.out.2]; omega) Hbw.out.size ?_
                 intro v4 w4 ho4 hg4 ha4))
              exact ⟨_, by first | rfl | simp only [qu, q0, q15, Act.put, List.setIfInBounds_toArray, List.set_cons_succ, List.set_cons_zero], by rw [Hti.out, Htk.out, linesL_snoc _ _ _ _ Hlen.out.1]; exact ho4, World.ownsRow.kept Hof.out hg4 (own_ne Hof.out Hob.out (by decide)), Hbw.out.grown hg4 Hbw.out.size (fun q hq => (World.ownsRow.lt Hob.out q hq).1)⟩
            refine ⟨fun h => absurd h (by decide), ?_⟩
            exact trivial
          case hasg =>
            refine ⟨fun h => absurd h (by decide), ?_⟩
            refine ⟨fun h => absurd h (by decide), ?_⟩
            refine ⟨fun h => absurd h (by decide), ?_⟩
            refine ⟨fun h => absurd h (by decide), ?_⟩
            refine ⟨fun h => absurd h (by decide), ?_⟩
            refine ⟨fun h => absurd h (by decide), ?_⟩
            refine ⟨fun h => absurd h (by decide), ?_⟩
            refine ⟨fun h => absurd h (by decide), ?_⟩
            refine ⟨fun h => absurd h (by decide), ?_⟩
            refine ⟨fun h => absurd h (by decide), ?_⟩
            refine ⟨fun h => absurd h (by decide), ?_⟩
            refine ⟨fun h => absurd h (by decide), ?_⟩
            refine ⟨fun h => absurd h (by decide), ?_⟩
            refine ⟨fun h => absurd h (by decide), ?_⟩
            refine ⟨fun h => absurd h (by decide), ?_⟩
            refine ⟨fun h => absurd h (by decide), ?_⟩
            refine ⟨fun h => absurd h (by decide), ?_⟩
            refine ⟨fun _ f w1 => ?_, ?_⟩
            · go_wp2_with fail
              exact ⟨rfl, rfl⟩
            exact trivial
          case hend =>
            intro f w1 hv he
            obtain ⟨hv1, hv2, hv3⟩ := hv
            have hfe : f 17 = f 16 := he
            obtain ⟨u, hu⟩ : ∃ u, f 16 = u := ⟨_, rfl⟩
            rw [hu] at hv1 hfe
            have Hv1 := Lib.hid hv1
            have Hv2 := Lib.hid hv2
            have Hv3 := Lib.hid hv3
            have hfi := fi_eq k
            rw [Hkk.out] at hfi
            have z11 : w1.cell? ⟨b, off + j * 40 + 11, none⟩ = some (.int .i64 ci) := (hv3.cell (p := ⟨b, off + j * 40 + 11, none⟩) hb).trans ((Hbr.out.cell (p := ⟨b, off + j * 40 + 11, none⟩) hb).symm.trans (HC.out wr (Below.refl _ _)).2)
            clear he hv1 hv2 hv3
            have HFd : Hid (∀ w7 : World, Rd (w7.alloc (.cells #[.float .f64 (fi k)] 35)) (w7.heap.size + 1) 1 (some ⟨w7.heap.size, 0, none⟩) 1 1 [fV (fi k)]) := fun w7 => rd_one w7 _ _
            go_wp2_with (
              (at_builtin
               refine wpList_appF rfl (.tmp 69) (.tmp 78) rfl w.heap.size u7 _ rfl (World.ownsRow.alloc Hv2.out _) (w1.heap.size + 1) w1.heap.size _ rfl (HFd.out w1) ?d1 ?d2 ?_
               case d1 => rw [← Hfl.out, List.length_map, Hlen.out.2]; omega
               case d2 => simp; have := Hv3.out.size; omega
               intro v10 w10 ho10 hg10 ha10
               have ho59 : OwnF (w1.alloc (.cells #[.float .f64 (fi k)] 35)) w.heap.size u7 fl := World.ownsRow.alloc Hv2.out _
               have ho99 : OwnS (w1.alloc (.cells #[.float .f64 (fi k)] 35)) w.heap.size u _ := World.ownsRow.alloc Hv1.out _
               have ho910 := World.ownsRow.kept ho99 hg10 (own_ne ho99 ho59 (by decide))
               have hbn10 : Below w.heap.size w w10 := (Hv3.out.alloc Hv3.out.size _).grown hg10 (by simp; have := Hv3.out.size; omega) (fun q hq => (World.ownsRow.lt Hv2.out q hq).1)
               have Ho910 := Lib.hid ho910
               have Hbn10 := Lib.hid hbn10
               have Ho10 := Lib.hid ho10
               clear ho59 ho99 ho910 hbn10 ho10 hg10 ha10))
            have HoF : Hid (OwnF w10 w.heap.size v10 ((ks.take (j + 1)).map fi)) := by
              unfold Hid
              rw [Htk.out, List.map_append, Hfl.out]
              exact Ho10.out
            go_roundg (gk - 1)
            case rel => exact ⟨j + 1, by have := Hjg.out; omega, by go_num, (by first | exact Ho910.out | (rw [hfe]; exact Ho910.out)), HoF.out, Hbn10.out⟩
            case measure => have := Hjg.out; omega
        · obtain rfl : j = i := by omega
          have hfk : ks.take j = ks := List.take_of_length_le (by rw [Hlk.out]; exact Nat.le_refl _)
          have hfid : ids.take j = ids := List.take_of_length_le (by rw [Hli.out]; exact Nat.le_refl _)
          have ho4 := Ho4.out
          have ho5 := Ho5.out
          rw [hfk] at ho4 ho5
          rw [hfid] at ho4
          have HF := Lib.hid (HY2.out)
          obtain ⟨A5, c5, rfl, hr5⟩ := ownF_rd ho5 (n := j) (by rw [List.length_map, Hlk.out])
          have HMn : Hid (Calls Tryd.prog 45 #[.slice A5 j c5] wr (Qt wr (.float .f64 (meanV (ks.map fi))))) := RefMean_any A5 j c5 wr.heap.size (ks.map fi) wr hr5
          have Ho4' := Lib.hid ho4
          unfold Qt at HMn
          clear ho4 ho5 hr5 hfk hfid Ho4 Ho5
          go_wp2_with fail
          refine HMn.out.mono ?_
          rintro e w2 ⟨rfl, kd, rfl⟩
          go_wp2_with fail
          exact HF.out _ _ Ho4'.out (below_drewN hbr _)
end Go.Proofs.YtkckncggiicciaaDoor
/-
  The walk of ref25.Log.
-/
namespace Go.Proofs.YtkckncggiicciaaDoor
open Go.RowKit
set_option maxRecDepth 100000
theorem sayB_size (s : ByteArray) (cs : List Int) (h : ∀ c ∈ cs, In64 c) : (sayB s cs).size ≤ s.size + 22 * cs.length := by
  induction cs generalizing s with
  | nil => simp [sayB]
  | cons c cs ih =>
    have e : sayB s (c :: cs) = sayB ((s ++ ⟨#[32]⟩) ++ ⟨(Lib.itoa c).toArray⟩) cs := rfl
    rw [e]
    have h1 := ih ((s ++ ⟨#[32]⟩) ++ ⟨(Lib.itoa c).toArray⟩) (fun x hx => h x (List.mem_cons_of_mem _ hx))
    have hc := h c List.mem_cons_self
    have q := Lib.itoa_length_le c hc.1 hc.2
    rw [ByteArray.size_append, ByteArray.size_append] at h1
    have e2 : (⟨(Lib.itoa c).toArray⟩ : ByteArray).size = (Lib.itoa c).length := by show (Lib.itoa c).toArray.size = _; rw [List.size_toArray]
    have e3 : (⟨#[32]⟩ : ByteArray).size = 1 := rfl
    rw [List.length_cons]
    omega
theorem head_app (idx term : Int) : ((⟨(Lib.itoa idx).toArray⟩ ++ ⟨#[32]⟩) ++ ⟨(Lib.itoa term).toArray⟩ : ByteArray) = ⟨(headL idx term).toArray⟩ := by
  refine bytes_ext ?_
  simp only [ByteArray.data_append, Array.toList_append]
  unfold headL wordsL
  rw [Lib.join_cons]
  simp [Lib.joinTail]
theorem ent_app0 (hd : List UInt8) : (⟨hd.toArray⟩ ++ ⟨#[32, 110, 111, 110, 101]⟩ : ByteArray) = ⟨(wordsL [hd, [110, 111, 110, 101]]).toArray⟩ := by
  refine bytes_ext ?_
  simp only [ByteArray.data_append, Array.toList_append]
  unfold wordsL
  rw [Lib.join_cons]
  simp [Lib.joinTail]
theorem ent_app1 (hd : List UInt8) (a b : Int) : (⟨hd.toArray⟩ ++ sayB ⟨#[32, 99, 97, 108, 108]⟩ [a, b] : ByteArray) = ⟨(wordsL [hd, [99, 97, 108, 108], Lib.itoa a, Lib.itoa b]).toArray⟩ := by
  refine bytes_ext ?_
  simp only [sayB, List.foldl_cons, List.foldl_nil, ByteArray.data_append, Array.toList_append]
  unfold wordsL
  rw [Lib.join_cons]
  simp [Lib.joinTail]
theorem ent_app2 (hd : List UInt8) (a b c d : Int) : (⟨hd.toArray⟩ ++ sayB ⟨#[32, 99, 111, 110, 102]⟩ [a, b, c, d] : ByteArray) = ⟨(wordsL [hd, [99, 111, 110, 102], Lib.itoa a, Lib.itoa b, Lib.itoa c, Lib.itoa d]).toArray⟩ := by
  refine bytes_ext ?_
  simp only [sayB, List.foldl_cons, List.foldl_nil, ByteArray.data_append, Array.toList_append]
  unfold wordsL
  rw [Lib.join_cons]
  simp [Lib.joinTail]
theorem ent_app3 (hd : List UInt8) : (⟨hd.toArray⟩ ++ ⟨#[32, 63]⟩ : ByteArray) = ⟨(wordsL [hd, [63]]).toArray⟩ := by
  refine bytes_ext ?_
  simp only [ByteArray.data_append, Array.toList_append]
  unfold wordsL
  rw [Lib.join_cons]
  simp [Lib.joinTail]
set_option maxHeartbeats 12800000 in
theorem RfLog_any (x : List Value) (id term base bt commit role lead : Int) (A : Option Addr) (m c : Nat) (es : List En) (w : World) (hr : RfAt x id term base bt commit role lead (.slice A m c)) (hy : EnRows w w.heap.size A m c es) (hl : es.length = m) (hm : m ≤ 1000)
    (hin : ∀ e ∈ es, e.In) (hI : ItAt w) :
    Calls Tryd.prog 17 #[.agg x.toArray] w (RlogPost base es w) := by
  have hcap : m ≤ c := hy.2.1
  obtain ⟨W1, hW1⟩ : ∃ W1, w.alloc (.cells x.toArray 33) = W1 := ⟨_, rfl⟩
  have hb1 : Below w.heap.size w W1 := by rw [← hW1]; exact alloc_below w _
  have hz1 : W1.heap.size = w.heap.size + 1 := by rw [← hW1]; simp
  have hrow : W1.heap[w.heap.size]? = some (.cells x.toArray 33 (0, 0)) := by rw [← hW1]; exact heap_alloc_new w _
  have Hrow : Hid (∀ w', Below W1.heap.size W1 w' → w'.heap[w.heap.size]? = some (.cells x.toArray 33 (0, 0)) ∧ w'.cell? ⟨w.heap.size, 3, none⟩ = some (.int .i64 base) ∧ w'.cell? ⟨w.heap.size, 10, none⟩ = some (.slice A m c)) := fun w' hb => by
    have q := (hb.block w.heap.size (by omega)).trans hrow
    exact ⟨q, cell_list q _ _ hr.base, cell_list q _ _ hr.log⟩
  have Hsz : Hid ((Tryd.prog.info? 33).map (·.size) = some x.toArray.size) := by unfold Hid; rw [List.size_toArray, hr.len]; exact size40
  have HH : Hid (∀ w', Calls Tryd.prog 38 #[.agg x.toArray] w' fun e w'' => e = .returned (.bool (logB base)) ∧ Below w'.heap.size w' w'') := fun w' => logged_any x base w' hr.base
  have HNo : Hid (logB base = false → ∀ w', Below w.heap.size w w' → RlogPost base es w (.returned (.slice none 0 0)) w') := fun h w' hb => by
    unfold RlogPost
    rw [if_neg (by rw [h]; decide)]
    exact ⟨rfl, hb⟩
  have HYes : Hid (logB base = true → ∀ w' v, OwnS w' w.heap.size v (logL base es m) → Below w.heap.size w w' → RlogPost base es w (.returned v) w') := fun h w' v ho hb => by
    unfold RlogPost
    rw [if_pos h, hl]
    exact ⟨⟨v, rfl, ho⟩, hb⟩
  have HE : Hid (∀ i, i < m → ∃ b off e, A = some ⟨b, off, none⟩ ∧ b < w.heap.size ∧ es.getD i e0 = e ∧ e.In ∧ w.rangeAt b (off + i * 16) e.cells) := fun i hi => by
    obtain ⟨b, off, e, q1, q2, q3, q4, q5, q6⟩ := en_row hy hl hi
    exact ⟨b, off, e, q1, q2, q4, hin e q5, q6⟩
  obtain ⟨J, hJ⟩ : ∃ J, RlogPost base es w = J := ⟨_, rfl⟩
  rw [hJ] at HNo HYes ⊢
  have HI := Lib.hid hI
  have HW1 := Lib.hid hW1
  have hbc : Below W1.heap.size W1 W1 := Below.refl _ _
  clear hrow hJ hI hr hy hl hin
  go_enter Tryd.func17, Tryd.ntmps17
  go_wp2_with fail
  clear hW1
  go_loopg [3, 4, 5, 6] m (fun g s3 s4 _ _ wr => ∃ i : Nat, i + g = m ∧ s4 = .int .i64 i ∧ OwnS wr W1.heap.size s3 (logL base es i) ∧ (logB base = false → s3 = .slice none 0 0) ∧ Below W1.heap.size W1 wr)
  case atStart => exact ⟨0, by omega, rfl, ownS_nil _ _, fun _ => rfl, hbc⟩
  case round =>
    clear hbc
    obtain ⟨i, hig, rfl, ho, hnl, hbr⟩ := hrel
    have Hig := Lib.hid hig
    have Ho := Lib.hid ho
    have Hnl := Lib.hid hnl
    have hin : i ≤ m := by omega
    obtain ⟨y00, y0, y1⟩ := Hrow.out _ hbr
    have Y00 := Lib.hid y00
    clear hig ho hnl y00
    by_cases hlt : i < m
    · go_wp2_with (refine wpList_load_rowG rfl 33 (.tmp 1) rfl w.heap.size rfl 33 x.toArray (0, 0) _ Y00.out Tryd.underlying33 rfl Hsz.out ?_)
      refine (HH.out _).mono ?_
      rintro e w2 ⟨rfl, hb2⟩
      have hbr2 := bstep hbr hb2
      have Ho2 : Hid (OwnS w2 W1.heap.size u3 (logL base es i)) := own_below Ho.out hb2
      clear y0 y1 Y00 hb2 hbr Ho
      cases hB : logB base
      · obtain rfl := Hnl.out hB
        have HF := Lib.hid (HNo.out hB)
        clear hB HNo HYes Ho2
        go_wp2_with fail
        exact HF.out _ (hb1.trans (hbr2.mono (by omega)))
      have hbb : 0 ≤ base ∧ base ≤ 1099511627776 := by
        unfold logB at hB
        simpa using hB
      obtain ⟨hbb0, hbb1⟩ := hbb
      have HnB : Hid (logB base = true) := hB
      clear hB HNo
      obtain ⟨b, off, e, rfl, hb, hge, hei, hrg⟩ := HE.out i hlt
      have hrg' := range_below hrg (hb1.trans (hbr2.mono (by omega))) hb
      have Hrg := Lib.hid hrg'
      have Hls : Hid (logL base es (i + 1) = logL base es i ++ [entL (base + i + 1) e]) := by
        unfold Hid
        rw [logL_succ, hge]
      have hidx : In64 (base + (i : Int) + 1) := by unfold In64; omega
      have hll := entL_len hidx hei
      have hbase0 : w.heap.size < w2.heap.size := by have := hbr2.size; omega
      -- the local that the entry is copied into
      have HL : Hid (∀ w5, w5.heap[w2.heap.size]? = some (.cells e.cells.toArray 64 (0, 0)) → Below w2.heap.size w2 w5 → w5.heap.size = w2.heap.size + 1 → ∀ w', Below w5.heap.size w5 w' →
          w'.cell? ⟨w.heap.size, 3, none⟩ = some (.int .i64 base) ∧ w'.cell? ⟨w2.heap.size, 0, none⟩ = some (.int .i64 e.term) ∧ w'.cell? ⟨w2.heap.size, 1, none⟩ = some (.int .i64 e.kind) ∧ w'.cell? ⟨w2.heap.size, 2, none⟩ = some (.int .i64 e.client) ∧
          w'.cell? ⟨w2.heap.size, 3, none⟩ = some (.int .i64 e.seq) ∧ w'.cell? ⟨w2.heap.size, 12, none⟩ = some (.int .i64 e.full) ∧ w'.cell? ⟨w2.heap.size, 13, none⟩ = some (.int .i64 e.wit) ∧
          w'.cell? ⟨w2.heap.size, 14, none⟩ = some (.int .i64 e.learn) ∧ w'.cell? ⟨w2.heap.size, 15, none⟩ = some (.int .i64 e.lw)) := fun w5 q5 hb5 hz5 w' hb' => by
        have hbw : Below W1.heap.size W1 w' := bstep (bstep hbr2 hb5) hb'
        have q := (hb'.block w2.heap.size (by omega)).trans q5
        exact ⟨(Hrow.out _ hbw).2.1, cell_list q 0 _ rfl, cell_list q 1 _ rfl, cell_list q 2 _ rfl, cell_list q 3 _ rfl, cell_list q 12 _ rfl, cell_list q 13 _ rfl, cell_list q 14 _ rfl, cell_list q 15 _ rfl⟩
      have HN : Hid (∀ v w', In64 v → Below W1.heap.size W1 w' → Calls Tryd.prog 40 #[.int .i64 v] w' fun e w'' => e = .returned (.string ⟨(Lib.itoa v).toArray⟩) ∧ Below w'.heap.size w' w'') := fun v w' hv hb => number_any v w' hv (HI.out.below (hb1.trans (hb.mono (by omega))))
      have HSay : Hid (∀ s cs A n c w', Rd w' w'.heap.size 1 A n c (cs.map fun x => .int .i64 x) → (∀ c ∈ cs, In64 c) → n ≤ 100 → s.size ≤ 1000000 → Below W1.heap.size W1 w' → Calls Tryd.prog 37 #[.string s, .slice A n c] w' fun e w'' => e = .returned (.string (sayB s cs)) ∧ Below w'.heap.size w' w'') :=
        fun s cs A n c w' h1 h2 h3 h4 hb => say_any s A n c cs w' h1 h2 h3 h4 (HI.out.below (hb1.trans (hb.mono (by omega))))
      have wr1 : IntKind.i64.wrap (base + (i : Int)) = base + (i : Int) := IntWalk.i64_in _ (by omega)
      have wr2 : IntKind.i64.wrap (base + (i : Int) + 1) = base + (i : Int) + 1 := IntWalk.i64_in _ (by omega)
      have Hwr := Lib.hid (And.intro wr1 wr2)
      have HEi := Lib.hid hei
      have Hidx := Lib.hid hidx
      have Hll := Lib.hid hll
      obtain ⟨y0, y1⟩ := (Hrow.out _ hbr2).2
      clear wr1 wr2 hrg hrg' hge hei hidx hll
      go_wp2_with (first
        | (refine Go.wpList_load_mid rfl 64 (.tmp 23) rfl b (off + i * 16) rfl e.cells _ Hrg.out Tryd.underlying64 rfl size16 ?_)
        | (refine wpList_store_local rfl 64 (.tmp 5) _ rfl e.cells rfl rfl size16 rfl e.cells_one ?_
           intro w5 q5 hb5 hz5
           have HS := Lib.hid (HL.out w5 q5 hb5 hz5)
           clear q5 y0 y1))
      have hbw5 : Below W1.heap.size W1 w5 := bstep hbr2 hb5
      have hb55 : Below w5.heap.size w5 w5 := Below.refl _ _
      obtain ⟨wr1, wr2⟩ := Hwr.out
      have hidx := Hidx.out
      have hterm := HEi.out.term
      obtain ⟨B1, hB1⟩ : ∃ B, (⟨(Lib.itoa (base + (i : Int) + 1)).toArray⟩ : ByteArray) = B := ⟨_, rfl⟩
      obtain ⟨B2, hB2⟩ : ∃ B, (⟨(Lib.itoa e.term).toArray⟩ : ByteArray) = B := ⟨_, rfl⟩
      have hz1' : B1.size ≤ 21 := by rw [← hB1]; show (Lib.itoa _).toArray.size ≤ 21; rw [List.size_toArray]; exact Lib.itoa_length_le _ hidx.1 hidx.2
      have hz2' : B2.size ≤ 21 := by rw [← hB2]; show (Lib.itoa _).toArray.size ≤ 21; rw [List.size_toArray]; exact Lib.itoa_length_le _ hterm.1 hterm.2
      have HN1 : Hid (∀ w', Below w5.heap.size w5 w' → Calls Tryd.prog 40 #[.int .i64 (base + (i : Int) + 1)] w' fun e w'' => e = .returned (.string B1) ∧ Below w'.heap.size w' w'') := fun w' hb => by
        rw [← hB1]
        exact HN.out _ w' hidx (bstep hbw5 hb)
      have HN2 : Hid (∀ w', Below w5.heap.size w5 w' → Calls Tryd.prog 40 #[.int .i64 e.term] w' fun e w'' => e = .returned (.string B2) ∧ Below w'.heap.size w' w'') := fun w' hb => by
        rw [← hB2]
        exact HN.out _ w' hterm (bstep hbw5 hb)
      have Hhd : Hid ((B1 ++ ⟨#[32]⟩) ++ B2 = (⟨(headL (base + (i : Int) + 1) e.term).toArray⟩ : ByteArray)) := by
        unfold Hid
        rw [← hB1, ← hB2]
        exact head_app _ _
      have m1 : ¬ 9223372036854775807 < B1.size + 1 := by omega
      have m2 : ¬ 9223372036854775807 < B1.size + 1 + B2.size := by omega
      obtain ⟨HB, hHB⟩ : ∃ HB, (B1 ++ ⟨#[32]⟩) ++ B2 = HB := ⟨_, rfl⟩
      have hHz : HB.size ≤ 60 := by
        rw [← hHB, ByteArray.size_append, ByteArray.size_append]
        have e3 : (⟨#[32]⟩ : ByteArray).size = 1 := rfl
        omega
      rw [hHB] at Hhd
      have HHB := Lib.hid hHB
      obtain ⟨y0, y1, y2, y3, y4, y5, y6, y7, y8⟩ := HS.out _ hb55
      clear Hidx HN Hwr HL hB1 hB2 hHB
      go_region_held3 (fun w' => w'.cell? ⟨w.heap.size, 3, none⟩ = some (.int .i64 base) ∧ w'.cell? ⟨w2.heap.size, 0, none⟩ = some (.int .i64 e.term))
        ((first | assumption | exact ⟨(HS.out _ (by assumption)).1, (HS.out _ (by assumption)).2.1⟩ | exact ⟨(HS.out _ (Below.drew (by assumption))).1, (HS.out _ (Below.drew (by assumption))).2.1⟩))
        ((first
          | (go_at_call 40
             (with_reducible refine (HN1.out _ (by first | assumption | exact Below.drew (by assumption))).mono ?_)
             rintro e6 w6 ⟨rfl, hb6⟩
             have hbc6 : Below w5.heap.size w5 w6 := Below.trans (by first | assumption | exact Below.drew (by assumption)) (hb6.mono (Below.size (by first | assumption | exact Below.drew (by assumption)))))
          | (go_at_call 40
             (with_reducible refine (HN2.out _ (by first | assumption | exact Below.drew (by assumption))).mono ?_)
             rintro e9 w9 ⟨rfl, hb9⟩
             have hbc9 : Below w5.heap.size w5 w9 := Below.trans (by first | assumption | exact Below.drew (by assumption)) (hb9.mono (Below.size (by first | assumption | exact Below.drew (by assumption)))))))
      rw [HHB.out]
      clear y0 y1 y2 y3 y4 y5 y6 y7 y8 wr1 wr2 m1 m2 hbc6 hb6 hb9 hz1' hz2' HN1 HN2 hidx hterm
      obtain ⟨y0, y1, y2, y3, y4, y5, y6, y7, y8⟩ := HS.out _ hbc9
      have hwe : Hid (entL (base + (i : Int) + 1) e = if e.kind = 0 then wordsL [headL (base + (i : Int) + 1) e.term, [110, 111, 110, 101]]
          else if e.kind = 1 then wordsL [headL (base + (i : Int) + 1) e.term, [99, 97, 108, 108], Lib.itoa e.client, Lib.itoa e.seq]
          else if e.kind = 2 then wordsL [headL (base + (i : Int) + 1) e.term, [99, 111, 110, 102], Lib.itoa e.full, Lib.itoa e.wit, Lib.itoa e.learn, Lib.itoa e.lw]
          else wordsL [headL (base + (i : Int) + 1) e.term, [63]]) := rfl
      obtain ⟨hd, hhd⟩ : ∃ hd, headL (base + (i : Int) + 1) e.term = hd := ⟨_, rfl⟩
      obtain ⟨ln, hln⟩ : ∃ ln, entL (base + (i : Int) + 1) e = ln := ⟨_, rfl⟩
      rw [hhd] at Hhd hwe
      rw [hln] at hwe Hls
      have z1 : ¬ 9223372036854775807 < HB.size + 5 := by omega
      have z2 : ¬ 9223372036854775807 < HB.size + 2 := by omega
      have hbq9 := bstep hbw5 hbc9
      have Hbq9 := Lib.hid hbq9
      have hS2 := rd_lits w9 [.int .i64 e.client, .int .i64 e.seq] 3 (by simp)
      have hS4 := rd_lits w9 [.int .i64 e.full, .int .i64 e.wit, .int .i64 e.learn, .int .i64 e.lw] 3 (by simp)
      have HS2 := Lib.hid hS2
      have HS4 := Lib.hid hS4
      clear hhd hln hbq9 hS2 hS4
      rcases Decidable.em (e.kind = 0) with hk0 | hk0
      case' inl =>
        have HE0 : Hid (HB ++ ⟨#[32, 110, 111, 110, 101]⟩ = (⟨ln.toArray⟩ : ByteArray)) := by
          unfold Hid
          rw [Hhd.out, hwe.out, if_pos hk0]
          exact ent_app0 _
        rw [hk0] at y2
        clear hk0 hwe
        have Hbz := Lib.hid (bstep hbw5 hbc9)
        have Hoz : Hid (OwnS w9 W1.heap.size u3 (logL base es i)) := own_below Ho2.out (bstep hb5 hbc9)
        have HRd : Hid (∀ w7 : World, Rd (w7.alloc (.cells #[.string (HB ++ ⟨#[32, 110, 111, 110, 101]⟩)] 9)) (w7.heap.size + 1) 1 (some ⟨w7.heap.size, 0, none⟩) 1 1 [sV ln]) := fun w7 => by
          rw [HE0.out]
          exact rd_one w7 _ _
        go_wp2_with (at_builtin
                     refine wpList_appS rfl (.tmp 75) (.tmp 77) rfl W1.heap.size u3 _ rfl (World.ownsRow.alloc Hoz.out _) (w9.heap.size + 1) w9.heap.size _ rfl (HRd.out w9) ?c1 ?c2 ?_
                     case c1 => rw [logL_len]; omega
                     case c2 => simp; have := Hbz.out.size; omega
                     intro v10 w10 ho10 hg10 ha10
                     have hbw10 : Below W1.heap.size W1 w10 := (Hbz.out.alloc Hbz.out.size _).grown hg10 (by simp; have := Hbz.out.size; omega) (fun q hq => (World.ownsRow.lt Hoz.out q hq).1)
                     have Ho10 := Lib.hid ho10
                     clear ho10 hg10 ha10)
        go_roundg (gk - 1)
      case' inr => rcases Decidable.em (e.kind = 1) with hk1 | hk1
      case' inr.inl =>
        have HE1 : Hid (HB ++ sayB ⟨#[32, 99, 97, 108, 108]⟩ [e.client, e.seq] = (⟨ln.toArray⟩ : ByteArray)) := by
          unfold Hid
          rw [Hhd.out, hwe.out, if_neg hk0, if_pos hk1]
          exact ent_app1 _ _ _
        have hin2 : ∀ c ∈ [e.client, e.seq], In64 c := by
          intro c hc
          have h := HEi.out
          simp at hc
          rcases hc with rfl | rfl
          · exact h.client
          · exact h.seq
        have hq := sayB_size ⟨#[32, 99, 97, 108, 108]⟩ [e.client, e.seq] hin2
        have hq2 : (sayB ⟨#[32, 99, 97, 108, 108]⟩ [e.client, e.seq]).size ≤ 100 := Nat.le_trans hq (by show 5 + 22 * 2 ≤ 100; decide)
        have Hin2 := Lib.hid hin2
        rw [hk1] at y2
        clear hk0 hk1 hwe hin2 hq
        go_wp2_with fail
        refine (HSay.out _ [e.client, e.seq] _ 2 2 _ (by
          have e1 : (w9.alloc (.cells #[.int .i64 e.client, .int .i64 e.seq] 3)).heap.size = w9.heap.size + 1 := by simp
          rw [e1]
          exact HS2.out) Hin2.out (by decide) (by decide) (Hbq9.out.alloc Hbq9.out.size _)).mono ?_
        rintro e9 wz ⟨rfl, hbz0⟩
        have hbz : Below w5.heap.size w5 wz := bstep (hbc9.alloc hbc9.size _) hbz0
        obtain ⟨Z, hZ⟩ : ∃ Z, sayB ⟨#[32, 99, 97, 108, 108]⟩ [e.client, e.seq] = Z := ⟨_, rfl⟩
        rw [hZ] at HE1 hq2 ⊢
        have z3 : ¬ 9223372036854775807 < HB.size + Z.size := by omega
        clear hZ
        have Hbz := Lib.hid (bstep hbw5 hbz)
        have Hoz : Hid (OwnS wz W1.heap.size u3 (logL base es i)) := own_below Ho2.out (bstep hb5 hbz)
        have HRd : Hid (∀ w7 : World, Rd (w7.alloc (.cells #[.string (HB ++ Z)] 9)) (w7.heap.size + 1) 1 (some ⟨w7.heap.size, 0, none⟩) 1 1 [sV ln]) := fun w7 => by
          rw [HE1.out]
          exact rd_one w7 _ _
        go_wp2_with (at_builtin
                     refine wpList_appS rfl (.tmp 75) (.tmp 77) rfl W1.heap.size u3 _ rfl (World.ownsRow.alloc Hoz.out _) (wz.heap.size + 1) wz.heap.size _ rfl (HRd.out wz) ?c1 ?c2 ?_
                     case c1 => rw [logL_len]; omega
                     case c2 => simp; have := Hbz.out.size; omega
                     intro v10 w10 ho10 hg10 ha10
                     have hbw10 : Below W1.heap.size W1 w10 := (Hbz.out.alloc Hbz.out.size _).grown hg10 (by simp; have := Hbz.out.size; omega) (fun q hq => (World.ownsRow.lt Hoz.out q hq).1)
                     have Ho10 := Lib.hid ho10
                     clear ho10 hg10 ha10)
        go_roundg (gk - 1)
      case' inr.inr => rcases Decidable.em (e.kind = 2) with hk2 | hk2
      case' inr.inr.inl =>
        have HE1 : Hid (HB ++ sayB ⟨#[32, 99, 111, 110, 102]⟩ [e.full, e.wit, e.learn, e.lw] = (⟨ln.toArray⟩ : ByteArray)) := by
          unfold Hid
          rw [Hhd.out, hwe.out, if_neg hk0, if_neg hk1, if_pos hk2]
          exact ent_app2 _ _ _ _ _
        have hin2 : ∀ c ∈ [e.full, e.wit, e.learn, e.lw], In64 c := by
          intro c hc
          have h := HEi.out
          simp at hc
          rcases hc with rfl | rfl | rfl | rfl
          · exact h.full
          · exact h.wit
          · exact h.learn
          · exact h.lw
        have hq := sayB_size ⟨#[32, 99, 111, 110, 102]⟩ [e.full, e.wit, e.learn, e.lw] hin2
        have hq2 : (sayB ⟨#[32, 99, 111, 110, 102]⟩ [e.full, e.wit, e.learn, e.lw]).size ≤ 100 := Nat.le_trans hq (by show 5 + 22 * 4 ≤ 100; decide)
        have Hin2 := Lib.hid hin2
        rw [hk2] at y2
        clear hk0 hk1 hk2 hwe hin2 hq
        go_wp2_with fail
        refine (HSay.out _ [e.full, e.wit, e.learn, e.lw] _ 4 4 _ (by
          have e1 : (w9.alloc (.cells #[.int .i64 e.full, .int .i64 e.wit, .int .i64 e.learn, .int .i64 e.lw] 3)).heap.size = w9.heap.size + 1 := by simp
          rw [e1]
          exact HS4.out) Hin2.out (by decide) (by decide) (Hbq9.out.alloc Hbq9.out.size _)).mono ?_
        rintro e9 wz ⟨rfl, hbz0⟩
        have hbz : Below w5.heap.size w5 wz := bstep (hbc9.alloc hbc9.size _) hbz0
        obtain ⟨Z, hZ⟩ : ∃ Z, sayB ⟨#[32, 99, 111, 110, 102]⟩ [e.full, e.wit, e.learn, e.lw] = Z := ⟨_, rfl⟩
        rw [hZ] at HE1 hq2 ⊢
        have z3 : ¬ 9223372036854775807 < HB.size + Z.size := by omega
        clear hZ
        have Hbz := Lib.hid (bstep hbw5 hbz)
        have Hoz : Hid (OwnS wz W1.heap.size u3 (logL base es i)) := own_below Ho2.out (bstep hb5 hbz)
        have HRd : Hid (∀ w7 : World, Rd (w7.alloc (.cells #[.string (HB ++ Z)] 9)) (w7.heap.size + 1) 1 (some ⟨w7.heap.size, 0, none⟩) 1 1 [sV ln]) := fun w7 => by
          rw [HE1.out]
          exact rd_one w7 _ _
        go_wp2_with (at_builtin
                     refine wpList_appS rfl (.tmp 75) (.tmp 77) rfl W1.heap.size u3 _ rfl (World.ownsRow.alloc Hoz.out _) (wz.heap.size + 1) wz.heap.size _ rfl (HRd.out wz) ?c1 ?c2 ?_
                     case c1 => rw [logL_len]; omega
                     case c2 => simp; have := Hbz.out.size; omega
                     intro v10 w10 ho10 hg10 ha10
                     have hbw10 : Below W1.heap.size W1 w10 := (Hbz.out.alloc Hbz.out.size _).grown hg10 (by simp; have := Hbz.out.size; omega) (fun q hq => (World.ownsRow.lt Hoz.out q hq).1)
                     have Ho10 := Lib.hid ho10
                     clear ho10 hg10 ha10)
        go_roundg (gk - 1)
      case' inr.inr.inr =>
        have HE0 : Hid (HB ++ ⟨#[32, 63]⟩ = (⟨ln.toArray⟩ : ByteArray)) := by
          unfold Hid
          rw [Hhd.out, hwe.out, if_neg hk0, if_neg hk1, if_neg hk2]
          exact ent_app3 _
        have g0 : (e.kind == 0) = false := by simpa using hk0
        have g1 : (e.kind == 1) = false := by simpa using hk1
        have g2 : (e.kind == 2) = false := by simpa using hk2
        clear hk0 hk1 hk2 hwe
        have Hbz := Lib.hid (bstep hbw5 hbc9)
        have Hoz : Hid (OwnS w9 W1.heap.size u3 (logL base es i)) := own_below Ho2.out (bstep hb5 hbc9)
        have HRd : Hid (∀ w7 : World, Rd (w7.alloc (.cells #[.string (HB ++ ⟨#[32, 63]⟩)] 9)) (w7.heap.size + 1) 1 (some ⟨w7.heap.size, 0, none⟩) 1 1 [sV ln]) := fun w7 => by
          rw [HE0.out]
          exact rd_one w7 _ _
        go_wp2_with (at_builtin
                     refine wpList_appS rfl (.tmp 75) (.tmp 77) rfl W1.heap.size u3 _ rfl (World.ownsRow.alloc Hoz.out _) (w9.heap.size + 1) w9.heap.size _ rfl (HRd.out w9) ?c1 ?c2 ?_
                     case c1 => rw [logL_len]; omega
                     case c2 => simp; have := Hbz.out.size; omega
                     intro v10 w10 ho10 hg10 ha10
                     have hbw10 : Below W1.heap.size W1 w10 := (Hbz.out.alloc Hbz.out.size _).grown hg10 (by simp; have := Hbz.out.size; omega) (fun q hq => (World.ownsRow.lt Hoz.out q hq).1)
                     have Ho10 := Lib.hid ho10
                     clear ho10 hg10 ha10)
        go_roundg (gk - 1)
      all_goals first
        | exact ⟨i + 1, by have := Hig.out; omega, by go_num, by rw [Hls.out]; exact Ho10.out, (fun h => by rw [HnB.out] at h; cases h), hbw10⟩
        | (have := Hig.out; omega)
    · obtain rfl : i = m := by omega
      cases hB : logB base
      · obtain rfl := Hnl.out hB
        have HF := Lib.hid (HNo.out hB)
        clear hB HNo HYes Ho
        go_wp2_with fail
        exact HF.out _ (hb1.trans (hbr.mono (by omega)))
      · have HF := Lib.hid (HYes.out hB)
        clear hB HNo HYes
        go_wp2_with fail
        exact HF.out _ _ (own_base Ho.out (by omega)) (hb1.trans (hbr.mono (by omega)))
end Go.Proofs.YtkckncggiicciaaDoor
/-
  The walk of skerrykeep.TwinRaft, itself.
-/
namespace Go.Proofs.YtkckncggiicciaaDoor
open Go.RowKit
set_option maxRecDepth 100000
set_option maxHeartbeats 3200000 in
theorem TwinRaft_any (r : Rf) (S : Option Addr) (sn sc : Nat) (A : Option Addr) (m c : Nat) (R : Option Addr) (rn rc : Nat) (sb : List UInt8) (es : List En) (qs : List Rq) (w : World) (hs : By w w.heap.size S sn sc sb) (he : EnRows w w.heap.size A m c es) (hl : es.length = m)
    (hq : RqRows w w.heap.size R rn rc qs) (hql : qs.length = rn) (hsn : sn ≤ 32768) (hm : m ≤ 1000) (hrn : rn * 128 ≤ 140737488355328) :
    Calls Tryd.prog 12 #[.agg (r.cells S sn sc A m c R rn rc).toArray] w (TwinRPost r sn m rn sb es qs w) := by
  have hAt := raft_at r S sn sc A m c R rn rc
  have hHd := raft_hd r S sn sc A m c R rn rc
  have hTw := twin_cells r S
  obtain ⟨x, hx⟩ : ∃ x, r.cells S sn sc A m c R rn rc = x := ⟨_, rfl⟩
  have h39 : x[39]? = some (.slice R rn rc) := by rw [← hx]; rfl
  have Htw : Hid (∀ S' sc' A' c' R' rc', ((setL x 1 (((hardC x).set 8 (.slice S' sn sc')).set 9 (.slice A' m c'))).set 39 (.slice none 0 0)).set 39 (.slice R' rn rc') = r.cells S' sn sc' A' m c' R' rn rc') := fun S' sc' A' c' R' rc' => by
    rw [← hx]
    exact twin_cells r S S' sn sc sc' A A' m c c' R R' rn rc rc'
  rw [hx] at hAt hHd ⊢
  clear hTw hx
  obtain ⟨W2, hW2⟩ : ∃ W2, (w.alloc (.cells x.toArray 33)).alloc (.cells #[.int .i64 0, .int .i64 0, .int .i64 0, .int .i64 0, .int .i64 0, .int .i64 0, .int .i64 0, .int .i64 0, .int .i64 0, .slice none 0 0, .slice none 0 0, .int .i64 0, .int .i64 0, .int .i64 0, .int .i64 0, .int .i64 0, .int .i64 0, .int .i64 0, .int .i64 0, .int .i64 0, .int .i64 0, .int .i64 0, .int .i64 0, .int .i64 0, .int .i64 0, .int .i64 0, .int .i64 0, .int .i64 0, .int .i64 0, .int .i64 0, .int .i64 0, .int .i64 0, .int .i64 0, .int .i64 0, .int .i64 0, .int .i64 0, .int .i64 0, .int .i64 0, .int .i64 0, .slice none 0 0] 33) = W2 := ⟨_, rfl⟩
  have hb2 : Below w.heap.size w W2 := by rw [← hW2]; exact two_below _ _ _
  have hz2 : W2.heap.size = w.heap.size + 2 := by rw [← hW2]; simp
  have hr0 : W2.heap[w.heap.size]? = some (.cells x.toArray 33 (0, 0)) := by
    rw [← hW2, Below.heap_alloc _ _ _ (by simp)]
    exact heap_alloc_new w _
  have hr1 : W2.heap[w.heap.size + 1]? = some (.cells #[.int .i64 0, .int .i64 0, .int .i64 0, .int .i64 0, .int .i64 0, .int .i64 0, .int .i64 0, .int .i64 0, .int .i64 0, .slice none 0 0, .slice none 0 0, .int .i64 0, .int .i64 0, .int .i64 0, .int .i64 0, .int .i64 0, .int .i64 0, .int .i64 0, .int .i64 0, .int .i64 0, .int .i64 0, .int .i64 0, .int .i64 0, .int .i64 0, .int .i64 0, .int .i64 0, .int .i64 0, .int .i64 0, .int .i64 0, .int .i64 0, .int .i64 0, .int .i64 0, .int .i64 0, .int .i64 0, .int .i64 0, .int .i64 0, .int .i64 0, .int .i64 0, .int .i64 0, .slice none 0 0] 33 (0, 0)) := by
    rw [← hW2]
    exact heap_alloc2_new w _ _
  have Hr1 := Lib.hid hr1
  have Hz2 := Lib.hid hz2
  clear hr1
  have Hsz : Hid ((Tryd.prog.info? 33).map (·.size) = some x.toArray.size) := by unfold Hid; rw [List.size_toArray, hAt.len]; exact size40
  have Hsz2 : Hid ((Tryd.prog.info? 33).map (·.size) = some x.length) := by unfold Hid; rw [hAt.len]; exact size40
  have Hhsz : Hid ((Tryd.prog.info? 29).map (·.size) = some (hardC x).length) := by unfold Hid; rw [hHd.len]; exact size10
  have Hx40 : Hid (x.length = 40) := hAt.len
  have Hone : Hid (∀ v ∈ x, v.oneCell' = true) := hAt.one
  have Hup : Hid (∀ w', Below W2.heap.size W2 w' → Below w.heap.size w w') := fun w' hb => hb2.trans (hb.mono (by omega))
  have HY : Hid (∀ w', Below W2.heap.size W2 w' → w'.rangeAt w.heap.size 1 (hardC x) ∧ w'.cell? ⟨w.heap.size, 39, none⟩ = some (.slice R rn rc)) := fun w' hb => by
    have q := (hb.block w.heap.size (by omega)).trans hr0
    refine ⟨fun j v hj => ?_, cell_list q _ _ h39⟩
    have hj10 : j < 10 := by
      have := (List.getElem?_eq_some_iff.1 hj).1
      rw [hHd.len] at this
      exact this
    rw [hardC_at x j hj10] at hj
    rw [Nat.add_comm 1 j]
    exact cell_list q _ _ hj
  have Hs := Lib.hid hs
  have He := Lib.hid he
  have Hl := Lib.hid hl
  have Hq := Lib.hid hq
  have Hql := Lib.hid hql
  have HHd := Lib.hid hHd
  have Hsl : Hid (sb.length = sn) := hs.len
  have HW2 := Lib.hid hW2
  have Hr0 := Lib.hid hr0
  clear hW2 hr0 hz2 hs he hl hq hql hHd hAt h39
  go_enter Tryd.func12, Tryd.ntmps12
  go_wp2_with (first
    | (refine wpList_load_row rfl 33 (.tmp 1) rfl w.heap.size rfl 33 x.toArray (0, 0) _ (by first | exact Hr0.out | (rw [Below.heap_alloc _ _ _ (by simp)]; exact heap_alloc_new w _)) Tryd.underlying33 rfl Hsz.out ?_; rw [HW2.out])
    | (refine wpList_store_local rfl 33 (.tmp 3) _ rfl x rfl rfl Hsz2.out ?zz Hone.out ?_
       case zz => exact Hx40.out.symm
       intro w5 q5 hb5 hz5
       have Q5 := Lib.hid q5
       have Hz5 := Lib.hid hz5
       clear q5 hz5
       obtain ⟨y8, y9⟩ := HY.out _ hb5
       have Y8 := Lib.hid y8
       clear y8)
    | (refine Go.wpList_load_mid rfl 29 (.tmp 5) rfl w.heap.size 1 rfl (hardC x) _ Y8.out Tryd.underlying29 rfl Hhsz.out ?_))
  have hbw5 : Below w.heap.size w w5 := Hup.out _ hb5
  refine (TwinHard_any (hardC x) _ _ S sn sc A m c sb es w5 HHd.out (Rd.below Hs.out hbw5 (Nat.le_refl _) |>.mono hbw5.size) (Rd.below He.out hbw5 (Nat.le_refl _) |>.mono hbw5.size) Hl.out hsn hm).mono ?_
  rintro e w6 ⟨⟨S', sc', A', c', rfl, ho1, ho2⟩, hb6⟩
  have hrow6 : w6.heap[W2.heap.size]? = some (.cells x.toArray 33 (0, 0)) := (hb6.block _ (by have := Hz5.out; omega)).trans Q5.out
  have hbq6 := bstep hb5 hb6
  obtain ⟨hn, hhn⟩ : ∃ hn, ((hardC x).set 8 (.slice S' sn sc')).set 9 (.slice A' m c') = hn := ⟨_, rfl⟩
  have Hn10 : Hid (hn.length = 10) := by unfold Hid; rw [← hhn, List.length_set, List.length_set]; exact HHd.out.len
  have Hn1 : Hid (∀ u ∈ hn, u.oneCell' = true) := fun u hu => by
    rw [← hhn] at hu
    rcases List.mem_or_eq_of_mem_set hu with h | rfl
    · rcases List.mem_or_eq_of_mem_set h with h | rfl
      · exact HHd.out.one u h
      · rfl
    · rfl
  have Hhn := Lib.hid hhn
  rw [hhn]
  have Hnsz : Hid ((Tryd.prog.info? 29).map (·.size) = some hn.toArray.size) := by unfold Hid; rw [List.size_toArray, Hn10.out]; exact size10
  have Hth : Hid (w6.there W2.heap.size 1 hn.toArray.size) := by
    refine there_row hrow6 ?_
    rw [List.size_toArray, Hn10.out, Hx40.out]
    decide
  obtain ⟨W7, hW7⟩ : ∃ W7, w6.setCells W2.heap.size 1 hn = W7 := ⟨_, rfl⟩
  have hb7 : Below W2.heap.size W2 W7 := by rw [← hW7]; exact below_setCells (Nat.le_refl _) hn 1 _ hbq6
  have hz7 : W7.heap.size = w6.heap.size := by rw [← hW7]; exact size_setCells _ _ _ _
  obtain ⟨x7, hx7⟩ : ∃ x7, setL x 1 hn = x7 := ⟨_, rfl⟩
  have hrow7 : W7.heap[W2.heap.size]? = some (.cells x7.toArray 33 (0, 0)) := by rw [← hW7, ← hx7]; exact heap_setCells_row _ _ _ _ _ _ hrow6
  have h7l : x7.length = 40 := by rw [← hx7, setL_len]; exact Hx40.out
  have h7o : ∀ v ∈ x7, v.oneCell' = true := by rw [← hx7]; exact setL_one _ _ _ Hone.out Hn1.out
  have hne7 : ∀ k, k ≠ W2.heap.size → W7.heap[k]? = w6.heap[k]? := fun k hk => by rw [← hW7]; exact heap_setCells_ne _ _ hk _ _ _
  have c7 : W7.cell? ⟨W2.heap.size, 39, none⟩ = some x7[39] := cell_list hrow7 _ _ (List.getElem?_eq_getElem (by omega))
  have f7 : W7.frozen? ⟨W2.heap.size, 39, none⟩ = false := frozen_of_row _ _ _ _ _ hrow7
  obtain ⟨u7, hu7⟩ : ∃ u7, x7[39] = u7 := ⟨_, rfl⟩
  rw [hu7] at c7
  obtain ⟨W8, hW8⟩ : ∃ W8, W7.setCell ⟨W2.heap.size, 39, none⟩ (.slice none 0 0) = W8 := ⟨_, rfl⟩
  have hb8 : Below W2.heap.size W2 W8 := by rw [← hW8]; exact hb7.setCell (Nat.le_refl _) _
  have hz8 : W8.heap.size = w6.heap.size := by rw [← hW8, ← hz7]; simp [World.setCell]
  have hrow8 : W8.heap[W2.heap.size]? = some (.cells (x7.set 39 (.slice none 0 0)).toArray 33 (0, 0)) := by
    rw [← hW8, heap_setCell_same _ _ _ _ _ _ hrow7, List.setIfInBounds_toArray]
  have hne8 : ∀ k, k ≠ W2.heap.size → W8.heap[k]? = w6.heap[k]? := fun k hk => by rw [← hW8, Below.heap_setCell _ _ _ _ hk]; exact hne7 k hk
  obtain ⟨x8, hx8⟩ : ∃ x8, x7.set 39 (.slice none 0 0) = x8 := ⟨_, rfl⟩
  have h8l : x8.length = 40 := by rw [← hx8, List.length_set]; exact h7l
  have h8o : ∀ v ∈ x8, v.oneCell' = true := by
    intro v hv
    rw [← hx8] at hv
    rcases List.mem_or_eq_of_mem_set hv with h | rfl
    · exact h7o v h
    · rfl
  have h839 : x8[39]? = some (.slice none 0 0) := by rw [← hx8, List.getElem?_set_self (by omega)]
  rw [hx8] at hrow8
  have c8 : W8.cell? ⟨W2.heap.size, 39, none⟩ = some (.slice none 0 0) := cell_list hrow8 _ _ h839
  have f8 : W8.frozen? ⟨W2.heap.size, 39, none⟩ = false := frozen_of_row _ _ _ _ _ hrow8
  have y10 : (W7.setCell ⟨W2.heap.size, 39, none⟩ (.slice none 0 0)).cell? ⟨w.heap.size, 39, none⟩ = some (.slice R rn rc) := by rw [hW8]; exact (HY.out _ hb8).2
  have HW7 := Lib.hid hW7
  have HW8 := Lib.hid hW8
  have Hx7 := Lib.hid hx7
  have Hx8 := Lib.hid hx8
  have Hne8 := Lib.hid hne8
  have Hz8 := Lib.hid hz8
  have Hz7 := Lib.hid hz7
  have Ho1 := Lib.hid ho1
  have Ho2 := Lib.hid ho2
  have H8l := Lib.hid h8l
  have H8o := Lib.hid h8o
  have Hrow8 := Lib.hid hrow8
  have Hb6 := Lib.hid hb6
  have Hrows : RqRows W8 W8.heap.size R rn rc qs := (Rd.below Hq.out (Hup.out _ hb8) (Nat.le_refl _)).mono (Hup.out _ hb8).size
  have HRows := Lib.hid Hrows
  clear hW7 hW8 hx7 hx8 hne7 hne8 hz7 hz8 ho1 ho2 h7l h7o h8l h8o hrow6 hrow7 hrow8 h839 hhn hu7 y9 Hrows
  go_wp2_with (first
    | (refine Go.wpList_store_mid rfl 29 (.tmp 8) (.tmp 7) rfl W2.heap.size 1 hn.toArray rfl rfl Hth.out Hnsz.out (all_one Hn1.out) ?_
       show wpList _ _ _ _ _ (w6.setCells W2.heap.size 1 hn)
       rw [HW7.out])
    | (at_builtin
       rw [HW8.out]
       refine wpList_appQ rfl (.tmp 11) (.tmp 13) rfl W8.heap.size rfl R rn rc qs Hql.out rfl HRows.out hrn (Nat.le_refl _) ?_
       intro v9 w9 ho9 hg9
       have hb9 : Below W2.heap.size W2 w9 := hb8.grown hg9 (by have := Hz8.out; have := hbq6.size; omega) (by intro k hk; cases hk)
       have hbk : Below W8.heap.size W8 w9 := (Below.refl _ _).grown hg9 (Nat.le_refl _) (by intro k hk; cases hk)
       have hL8 : W2.heap.size < W8.heap.size := by have := Hz8.out; have := Hz5.out; have := Hb6.out.size; omega
       have hrow9 : w9.heap[W2.heap.size]? = some (.cells x8.toArray 33 (0, 0)) := (hbk.block _ hL8).trans Hrow8.out
       have c9 : w9.cell? ⟨W2.heap.size, 39, none⟩ = some (.slice none 0 0) := by rw [hbk.cell (p := ⟨W2.heap.size, 39, none⟩) hL8]; exact c8
       have f9 : w9.frozen? ⟨W2.heap.size, 39, none⟩ = false := frozen_of_row _ _ _ _ _ hrow9
       have HL8 := Lib.hid hL8
       have Hb9 := Lib.hid hb9
       have Hbk := Lib.hid hbk
       have Hrow9 := Lib.hid hrow9
       have Ho9 := Lib.hid ho9
       obtain ⟨R', rc', rfl, _⟩ := ownQ_rows ho9 Hql.out
       obtain ⟨W10, hW10⟩ : ∃ W10, w9.setCell ⟨W2.heap.size, 39, none⟩ (.slice R' rn rc') = W10 := ⟨_, rfl⟩
       have HW10 := Lib.hid hW10
       obtain ⟨xc, hxc⟩ : ∃ xc, x8.set 39 (.slice R' rn rc') = xc := ⟨_, rfl⟩
       have hxl : xc.length = 40 := by rw [← hxc, List.length_set]; exact H8l.out
       have hrow10 : W10.heap[W2.heap.size]? = some (.cells xc.toArray 33 (0, 0)) := by
         rw [← hW10, heap_setCell_same _ _ _ _ _ _ hrow9, List.setIfInBounds_toArray, hxc]
       have hb10 : Below W2.heap.size W2 W10 := by rw [← hW10]; exact hb9.setCell (Nat.le_refl _) _
       have Hrow10 : Hid ((w9.setCell ⟨W2.heap.size, 39, none⟩ (.slice R' rn rc')).heap[W2.heap.size]? = some (.cells xc.toArray 33 (0, 0))) := by rw [hW10]; exact hrow10
       have Hz10 : Hid (W10.heap[w.heap.size + 1]? = some (.cells #[.int .i64 0, .int .i64 0, .int .i64 0, .int .i64 0, .int .i64 0, .int .i64 0, .int .i64 0, .int .i64 0, .int .i64 0, .slice none 0 0, .slice none 0 0, .int .i64 0, .int .i64 0, .int .i64 0, .int .i64 0, .int .i64 0, .int .i64 0, .int .i64 0, .int .i64 0, .int .i64 0, .int .i64 0, .int .i64 0, .int .i64 0, .int .i64 0, .int .i64 0, .int .i64 0, .int .i64 0, .int .i64 0, .int .i64 0, .int .i64 0, .int .i64 0, .int .i64 0, .int .i64 0, .int .i64 0, .int .i64 0, .int .i64 0, .int .i64 0, .int .i64 0, .int .i64 0, .slice none 0 0] 33 (0, 0))) := (hb10.block _ (by have := Hz2.out; omega)).trans Hr1.out
       have Hsz3 : Hid ((Tryd.prog.info? 33).map (·.size) = some xc.toArray.size) := by unfold Hid; rw [List.size_toArray, hxl]; exact size40
       have Hone3 : Hid (∀ u ∈ xc, u.oneCell' = true) := fun u hu => by
         rw [← hxc] at hu
         rcases List.mem_or_eq_of_mem_set hu with h | rfl
         · exact H8o.out u h
         · rfl
       have Hsz4 : Hid (40 = xc.toArray.size) := by unfold Hid; rw [List.size_toArray, hxl]
       have Hxc := Lib.hid hxc
       have Hb10 := Lib.hid hb10
       clear c8 f8 c7 f7 y10 hL8 hb9 hbk hrow9 ho9 hg9 hW10 hxc hxl hrow10 hb10)
    | (refine wpList_load_row rfl 33 (.tmp 3) rfl W2.heap.size rfl 33 xc.toArray (0, 0) _ Hrow10.out Tryd.underlying33 rfl Hsz3.out ?_; rw [HW10.out])
    | (refine wpList_store_row rfl 33 (.tmp 2) (.tmp 16) rfl (w.heap.size + 1) xc.toArray rfl rfl 33 #[.int .i64 0, .int .i64 0, .int .i64 0, .int .i64 0, .int .i64 0, .int .i64 0, .int .i64 0, .int .i64 0, .int .i64 0, .slice none 0 0, .slice none 0 0, .int .i64 0, .int .i64 0, .int .i64 0, .int .i64 0, .int .i64 0, .int .i64 0, .int .i64 0, .int .i64 0, .int .i64 0, .int .i64 0, .int .i64 0, .int .i64 0, .int .i64 0, .int .i64 0, .int .i64 0, .int .i64 0, .int .i64 0, .int .i64 0, .int .i64 0, .int .i64 0, .int .i64 0, .int .i64 0, .int .i64 0, .int .i64 0, .int .i64 0, .int .i64 0, .int .i64 0, .int .i64 0, .slice none 0 0] Hz10.out Hsz3.out Hsz4.out (all_one Hone3.out) ?_))
  have hbE : Below w.heap.size w (W10.setRow (w.heap.size + 1) xc.toArray) := below_setRow (Hup.out _ Hb10.out) (by omega) _
  have hkeep : ∀ g, w5.heap.size ≤ g → g < w6.heap.size → (W10.setRow (w.heap.size + 1) xc.toArray).heap[g]? = w6.heap[g]? := fun g h1 h2 => by
    have a1 := Hz5.out
    have a2 := Hz2.out
    rw [setRow_ne _ _ _ _ (by omega), ← HW10.out, Below.heap_setCell _ _ _ _ (by show g ≠ W2.heap.size; omega), Hbk.out.block _ (by rw [Hz8.out]; exact h2)]
    exact Hne8.out g (by omega)
  have o1 : OwnB (W10.setRow (w.heap.size + 1) xc.toArray) w5.heap.size (.slice S' sn sc') sb := own_keep Ho1.out hkeep
  have o2 : OwnE (W10.setRow (w.heap.size + 1) xc.toArray) w5.heap.size (.slice A' m c') es := own_keep Ho2.out hkeep
  have o3 : OwnQ (W10.setRow (w.heap.size + 1) xc.toArray) W8.heap.size (.slice R' rn rc') qs := own_keep Ho9.out (fun g h1 h2 => by
    have a1 := Hz5.out
    have a2 := Hz2.out
    have a3 := HL8.out
    rw [setRow_ne _ _ _ _ (by omega), ← HW10.out]
    exact Below.heap_setCell _ _ _ _ (by show g ≠ W2.heap.size; omega))
  obtain ⟨S1, sc1, e1, p1⟩ := own_by o1 (n := sn) Hsl.out
  obtain ⟨A1, c1, e2, p2⟩ := ownE_rows o2 Hl.out
  obtain ⟨R1, rc1, e3, p3⟩ := ownQ_rows o3 Hql.out
  injection e1 with k1 _ k2
  injection e2 with k3 _ k4
  injection e3 with k5 _ k6
  subst k1 k2 k3 k4 k5 k6
  refine bodyPost_ret (results_cell_row Tryd.results12 _ _ (w.heap.size + 1) _ xc.toArray (0, 0) _ rfl (setRow_heap _ _ _ _ _ _ Hz10.out) Tryd.underlying33 rfl Hsz3.out) rfl ?_
  exact ⟨⟨_, _, _, _, _, _, by rw [← Hxc.out, ← Hx8.out, ← Hx7.out, ← Hhn.out, Htw.out], p1, p2, p3⟩, hbE⟩
end Go.Proofs.YtkckncggiicciaaDoor
/-
  ReportExact: replicas that came in, with all that they lead to; what both tellers say of one.
-/
namespace Go.Proofs.YtkckncggiicciaaDoor
open Go.RowKit
set_option maxRecDepth 100000
structure Rp where
  r : Rf
  S : Option Addr
  sn : Nat
  sc : Nat
  A : Option Addr
  m : Nat
  c : Nat
  R : Option Addr
  rn : Nat
  rc : Nat
  sb : List UInt8
  es : List En
  qs : List Rq
def Rp.x (p : Rp) : List Value := p.r.cells p.S p.sn p.sc p.A p.m p.c p.R p.rn p.rc
structure Rp.Ok (p : Rp) (w : World) (B : Nat) : Prop where
  snap : By w B p.S p.sn p.sc p.sb
  ent : EnRows w B p.A p.m p.c p.es
  len : p.es.length = p.m
  ins : ∀ e ∈ p.es, e.In
  strs : ∀ e ∈ p.es, e.Str
  rds : RqRows w B p.R p.rn p.rc p.qs
  rlen : p.qs.length = p.rn
  rby : p.rn * 128 ≤ 140737488355328
  id : In64 p.r.id
  role : In64 p.r.role
  term : In64 p.r.h.term
  lead : In64 p.r.lead
  commit : In64 p.r.commit
  base : In64 p.r.h.base
theorem Rp.Ok.below {p : Rp} {w w' : World} {B B' : Nat} (h : p.Ok w B) (hb : Below B w w') (hB : B ≤ B') : p.Ok w' B' :=
  ⟨(Rd.below h.snap hb (Nat.le_refl _)).mono hB, (Rd.below h.ent hb (Nat.le_refl _)).mono hB, h.len, h.ins, h.strs, (Rd.below h.rds hb (Nat.le_refl _)).mono hB, h.rlen, h.rby, h.id, h.role, h.term, h.lead, h.commit, h.base⟩
def Rp.W (p : Rp) : RfW := ⟨p.x, p.r.id, p.r.h.term, p.r.h.base, p.r.h.bt, p.r.commit, p.r.role, p.r.lead, p.S, p.sn, p.sc, p.A, p.m, p.c, p.es⟩
theorem Rp.Ok.w {p : Rp} {w : World} {B : Nat} (h : p.Ok w B) : p.W.Ok w B := ⟨raft_at p.r _ _ _ _ _ _ _ _ _, rfl, h.ent, h.len, h.ins, h.strs⟩
theorem Rp.len (p : Rp) : p.x.length = 40 := rfl
def RpRows (w : World) (B : Nat) (A : Option Addr) (n c : Nat) (ps : List Rp) : Prop := Rd w B 40 A n c (ps.map Rp.x).flatten
theorem RpRows.w {w : World} {B n c : Nat} {A : Option Addr} {ps : List Rp} (h : RpRows w B A n c ps) : RfRows w B A n c (ps.map Rp.W) := by
  unfold RfRows
  rw [List.map_map]
  exact h
theorem rp_row {w : World} {B n c : Nat} {A : Option Addr} {ps : List Rp} (h : RpRows w B A n c ps) (hl : ps.length = n) {k : Nat} (hk : k < n) :
    ∃ b off p, A = some ⟨b, off, none⟩ ∧ b < B ∧ ps[k]? = some p ∧ p ∈ ps ∧ w.rangeAt b (off + k * 40) p.x := by
  obtain ⟨b, off, x, h1, h2, h3, h4, h5⟩ := rd_row (xss := ps.map Rp.x) h (fun x hx => by
    obtain ⟨e, he, rfl⟩ := List.mem_map.1 hx
    exact e.len) (by rw [List.length_map]; exact hl) hk
  rw [List.getElem?_map] at h3
  cases hq : ps[k]? with
  | none => rw [hq] at h3; cases h3
  | some e =>
    rw [hq] at h3
    injection h3 with h3
    subst h3
    exact ⟨b, off, e, h1, h2, rfl, List.mem_of_getElem? hq, h5⟩
theorem logAt_rows {w : World} {A : Option Addr} {m c : Nat} {es : List En} (h : EnRows w w.heap.size A m c es) (hl : es.length = m) (hm : m ≤ 1000) : LogAt w A m c := by
  refine ⟨h.2.1, by omega, fun hp => ?_⟩
  obtain ⟨b, off, e, q1, q2, q3, q4, q5, q6⟩ := en_row h hl (k := m - 1) (by omega)
  have := q6 0 _ rfl
  rw [Nat.add_zero] at this
  exact ⟨b, off, e.term, q1, q2, this⟩
/-- What is told of a log, by either teller. -/
def logT (base : Int) (es : List En) : List (List UInt8) := if logB base = true then logL base es es.length else []
def SpPost (T : List (List UInt8)) (w : World) (e : Ending) (w' : World) : Prop := (∃ v, e = .returned v ∧ (Sp.rd T.length (T.map sV)).holds v w') ∧ Below w.heap.size w w'
theorem rlog_sp {base : Int} {es : List En} {w : World} {e : Ending} {w' : World} (h : RlogPost base es w e w') : SpPost (logT base es) w e w' := by
  unfold RlogPost at h
  unfold SpPost logT
  obtain ⟨h1, h2⟩ := h
  refine ⟨?_, h2⟩
  cases hB : logB base
  · rw [if_neg (by rw [hB]; decide)] at h1
    rw [if_neg (by decide)]
    exact ⟨_, h1, _, _, rfl, Rd.nil _ _ _⟩
  · rw [if_pos hB] at h1
    rw [if_pos rfl]
    obtain ⟨v, he, ho⟩ := h1
    obtain ⟨A, c, rfl, hr⟩ := ownS_rd ho rfl
    exact ⟨_, he, _, _, rfl, hr⟩
theorem rpairs_sp {ps : List (ByteArray × Va)} {w : World} {e : Ending} {w' : World} (h : RPairsPost ps w e w') : SpPost (linesP ps ps.length) w e w' := by
  obtain ⟨⟨v, he, ho⟩, h2⟩ := h
  obtain ⟨A, c, rfl, hr⟩ := ownS_rd ho rfl
  exact ⟨⟨_, he, _, _, rfl, hr⟩, h2⟩
def lagT (ids cs : List Int) (ks : List Nat) : List (List UInt8) := if okC cs = true then linesL ids ks else []
def lagV (cs : List Int) (ks : List Nat) : Nat := if okC cs = true then meanV (ks.map fi) else meanV []
theorem lags_sp {ids cs : List Int} {ks : List Nat} {w : World} {e : Ending} {w' : World} (h : LagsPost ids cs ks w e w') :
    (∃ A c, e = .returned (.tuple #[.slice A (lagT ids cs ks).length c, .float .f64 (lagV cs ks)]) ∧ Rd w' w'.heap.size 1 A (lagT ids cs ks).length c ((lagT ids cs ks).map sV)) ∧ Below w.heap.size w w' := by
  unfold LagsPost at h
  unfold lagT lagV
  obtain ⟨h1, h2⟩ := h
  refine ⟨?_, h2⟩
  cases hB : okC cs
  · rw [if_neg (by rw [hB]; decide)] at h1
    rw [if_neg (by decide), if_neg (by decide)]
    exact ⟨_, _, h1, Rd.nil _ _ _⟩
  · rw [if_pos hB] at h1
    rw [if_pos rfl, if_pos rfl]
    obtain ⟨v, he, ho⟩ := h1
    obtain ⟨A, c, rfl, hr⟩ := ownS_rd ho rfl
    exact ⟨_, _, he, hr⟩
theorem rep_facts (p : Rp) (S' : Option Addr) (sc' : Nat) (A' : Option Addr) (c' : Nat) (R' : Option Addr) (rc' : Nat) (w : World) (hok : p.Ok w w.heap.size) (hs : By w w.heap.size S' p.sn sc' p.sb) (he : EnRows w w.heap.size A' p.m c' p.es) (hq : RqRows w w.heap.size R' p.rn rc' p.qs)
    (hm : p.m ≤ 200) (hI : ItAt w) (x : List Value) (hx : p.r.cells S' p.sn sc' A' p.m c' R' p.rn rc' = x) :
    ∃ LB T, (∀ w', Below w.heap.size w w' → Calls Tryd.prog 13 #[.agg x.toArray] w' fun e w'' => e = .returned (.string LB) ∧ Below w'.heap.size w' w'') ∧
      (∀ w', Below w.heap.size w w' → Calls Tryd.prog 14 #[.agg p.x.toArray] w' fun e w'' => e = .returned (.string LB) ∧ Below w'.heap.size w' w'') ∧
      (∀ w', Below w.heap.size w w' → Calls Tryd.prog 16 #[.agg x.toArray] w' (SpPost T w')) ∧
      (∀ w', Below w.heap.size w w' → Calls Tryd.prog 17 #[.agg p.x.toArray] w' (SpPost T w')) ∧
      (∀ w', Below w.heap.size w w' → Calls Tryd.prog 18 #[.agg x.toArray, .agg p.x.toArray] w' fun e w'' => e = .returned (.bool true) ∧ Below w'.heap.size w' w'') := by
  subst hx
  refine ⟨⟨(repL p.r.id p.r.role p.r.h.term p.r.lead p.r.commit p.r.h.base (lastT p.r.h.base p.m)).toArray⟩, logT p.r.h.base p.es, fun w' hb => ?_, fun w' hb => ?_, fun w' hb => ?_, fun w' hb => ?_, fun w' hb => ?_⟩
  · have he' : EnRows w' w'.heap.size A' p.m c' p.es := (Rd.below he hb (Nat.le_refl _)).mono hb.size
    exact Replica_any _ p.r.id p.r.h.term p.r.h.base p.r.h.bt p.r.commit p.r.role p.r.lead A' p.m c' w' (raft_at p.r _ _ _ _ _ _ _ _ _) (logAt_rows he' hok.len (by omega)) hok.id hok.role hok.term hok.lead hok.commit hok.base (hI.below hb)
  · have hk := hok.below hb hb.size
    exact RReplica_any _ p.r.id p.r.h.term p.r.h.base p.r.h.bt p.r.commit p.r.role p.r.lead p.A p.m p.c w' (raft_at p.r _ _ _ _ _ _ _ _ _) (logAt_rows hk.ent hok.len (by omega)) hok.id hok.role hok.term hok.lead hok.commit hok.base (hI.below hb)
  · have he' : EnRows w' w'.heap.size A' p.m c' p.es := (Rd.below he hb (Nat.le_refl _)).mono hb.size
    exact (RLog_any _ p.r.id p.r.h.term p.r.h.base p.r.h.bt p.r.commit p.r.role p.r.lead A' p.m c' p.es w' (raft_at p.r _ _ _ _ _ _ _ _ _) he' hok.len (by omega) hok.ins (hI.below hb)).mono fun _ _ h => rlog_sp h
  · have hk := hok.below hb hb.size
    exact (RfLog_any _ p.r.id p.r.h.term p.r.h.base p.r.h.bt p.r.commit p.r.role p.r.lead p.A p.m p.c p.es w' (raft_at p.r _ _ _ _ _ _ _ _ _) hk.ent hok.len (by omega) hok.ins (hI.below hb)).mono fun _ _ h => rlog_sp h
  · have hk := hok.below hb hb.size
    have hs' : By w' w'.heap.size S' p.sn sc' p.sb := (Rd.below hs hb (Nat.le_refl _)).mono hb.size
    have he' : EnRows w' w'.heap.size A' p.m c' p.es := (Rd.below he hb (Nat.le_refl _)).mono hb.size
    have hq' : RqRows w' w'.heap.size R' p.rn rc' p.qs := (Rd.below hq hb (Nat.le_refl _)).mono hb.size
    exact kRaft_self p.r S' p.S p.sn sc' p.sc A' p.A p.m c' p.c R' p.R p.rn rc' p.rc p.sb p.es p.qs w' hs' hk.snap he' hk.ent hok.len hq' hk.rds hok.rlen
def ksL (cs : List Int) : List Nat := cs.map fun c => (topL (cs.headD 0) cs - c).toNat
theorem topL_le' (c0 : Int) (cs : List Int) : ∀ c ∈ cs, c ≤ topL c0 cs := by
  rw [← List.reverse_reverse cs]
  induction cs.reverse with
  | nil => intro c h; simp at h
  | cons a r ih =>
    intro c h
    rw [List.reverse_cons, topL_snoc]
    rw [List.reverse_cons, List.mem_append] at h
    rcases h with h | h
    · have := ih c h
      omega
    · simp at h
      subst h
      omega
theorem ksL_at (cs : List Int) (i : Nat) (c : Int) (h : cs[i]? = some c) : ∃ k : Nat, (ksL cs)[i]? = some k ∧ (k : Int) = topL (cs.headD 0) cs - c := by
  refine ⟨(topL (cs.headD 0) cs - c).toNat, by unfold ksL; rw [List.getElem?_map, h]; rfl, ?_⟩
  have := topL_le' (cs.headD 0) cs c (List.mem_of_getElem? h)
  omega
end Go.Proofs.YtkckncggiicciaaDoor
/-
  Replicas and a machine that came in; written by genlawx.py.
-/
namespace Go.Proofs.YtkckncggiicciaaDoor
open Go.RowKit Go.ChangeShapes Go.WideShapes Go.ChangeAt
set_option maxRecDepth 100000
theorem s_sl_api_Read : Tryd.prog.cellsOf 31 = 1 := by kernel_rfl
theorem s_api_Read : Tryd.prog.cellsOf 121 = 13 := by kernel_rfl
theorem s_api_Raft : Tryd.prog.cellsOf 33 = 40 := by kernel_rfl
theorem s_a7_int : Tryd.prog.cellsOf 30 = 7 := by kernel_rfl
theorem s_api_Pair : Tryd.prog.cellsOf 66 = 4 := by kernel_rfl
theorem s_sl_api_Pair : Tryd.prog.cellsOf 41 = 1 := by kernel_rfl
theorem s_api_Reply : Tryd.prog.cellsOf 81 = 4 := by kernel_rfl
theorem s_api_Sess : Tryd.prog.cellsOf 83 = 6 := by kernel_rfl
theorem s_sl_api_Sess : Tryd.prog.cellsOf 42 = 1 := by kernel_rfl
theorem s_api_Machine : Tryd.prog.cellsOf 44 = 2 := by kernel_rfl
theorem s_api_Errno : Tryd.prog.cellsOf 67 = 1 := by kernel_rfl
theorem s_uint8 : Tryd.prog.cellsOf 5 = 1 := by kernel_rfl
/-- Each string, slice and map of a datum is of a size that a machine has. -/
def WOk {H : Type} (t : TypeId) (d : DataW H) : Prop := (d.weights Tryd.prog t).all (· ≤ reachBytes) = true
theorem wok_each {H : Type} : ∀ {ts : List TypeId} {ds : List (DataW H)}, (DataW.weightsEach Tryd.prog ts ds).all (· ≤ reachBytes) = true → ∀ {j : Nat} {t : TypeId} {d : DataW H}, ts[j]? = some t → ds[j]? = some d → WOk t d := fun h j t d ht hd => by
  unfold WOk
  rw [List.all_eq_true]
  intro n hn
  exact List.all_eq_true.1 h n (DataW.weights_mem_each ht hd n hn)
theorem wall_mem {H : Type} {e : TypeId} : ∀ {l : List (DataW H)} {d : DataW H}, d ∈ l → ∀ n ∈ d.weights Tryd.prog e, n ∈ DataW.weightsAll Tryd.prog e l
  | a :: l, d, hd, n, hn => by
    rw [DataW.weightsAll, List.mem_append]
    rcases List.mem_cons.1 hd with rfl | h
    · exact .inl hn
    · exact .inr (wall_mem h n hn)
theorem wok_slice {H : Type} {t e : TypeId} {elems spare : List (DataW H)} (hu : Tryd.prog.underlying t = some (.slice e)) (h : WOk t (.slice elems spare)) : elems.length * Tryd.prog.bytesOf e ≤ reachBytes ∧ ∀ d ∈ elems, WOk e d := by
  unfold WOk at h
  rw [DataW.weights, hu] at h
  dsimp only at h
  rw [List.all_cons, Bool.and_eq_true, List.all_append, Bool.and_eq_true] at h
  refine ⟨?_, fun d hd => ?_⟩
  · have h1 : (elems.length + spare.length) * Tryd.prog.bytesOf e ≤ reachBytes := by simpa using h.1
    exact Nat.le_trans (Nat.mul_le_mul_right _ (Nat.le_add_right _ _)) h1
  · unfold WOk
    rw [List.all_eq_true]
    exact fun n hn => List.all_eq_true.1 h.2.1 n (wall_mem hd n hn)
theorem wok_agg {H : Type} {t : TypeId} {fs : Array Field} {parts : List (DataW H)} (hu : Tryd.prog.underlying t = some (.struct fs)) (h : WOk t (.agg parts)) {i : Nat} {f : Field} {d : DataW H} (hf : fs[i]? = some f) (hd : parts[i]? = some d) : WOk f.type d := by
  unfold WOk at h
  rw [DataW.weights, hu] at h
  exact wok_each h (j := i) (by rw [List.getElem?_map, Array.getElem?_toList, hf]; rfl) hd
theorem rows_len {α : Type} (F : α → List Value) (size : Nat) (hF : ∀ a, (F a).length = size) (l : List α) : (l.map F).flatten.length = l.length * size := by
  induction l with
  | nil => simp
  | cons e r ih => rw [List.map_cons, List.flatten_cons, List.length_append, ih, hF, List.length_cons, Nat.add_mul, Nat.one_mul, Nat.add_comm]
theorem rows_get {α : Type} (F : α → List Value) (size : Nat) (hF : ∀ a, (F a).length = size) (l : List α) : ∀ (i j : Nat) (e : α), j < size → l[i]? = some e → (l.map F).flatten[i * size + j]? = (F e)[j]? := by
  induction l with
  | nil => intro i j e _ h; simp at h
  | cons a r ih =>
    intro i j e hj h
    rw [List.map_cons, List.flatten_cons]
    cases i with
    | zero =>
      simp at h
      subst h
      rw [Nat.zero_mul, Nat.zero_add, List.getElem?_append_left (by rw [hF]; exact hj)]
    | succ i =>
      rw [List.getElem?_append_right (by rw [hF, Nat.add_mul, Nat.one_mul]; omega), hF, show (i + 1) * size + j - size = i * size + j by rw [Nat.add_mul, Nat.one_mul]; omega]
      exact ih i j e hj (by simpa using h)
/-- A slice of structs that came in. -/
theorem cells_rows {H α : Type} {enc : TypeId × Value → H} {W : World} {fuel : Nat} {cs : List Value} {x : DataW H × List MemPlace} {t e : TypeId} (F : α → List Value) (size : Nat) (hF : ∀ a, (F a).length = size) (hs : 0 < size) (d0 : α) (hu : Tryd.prog.underlying t = some (.slice e)) (hce : Tryd.prog.cellsOf e = size) (Pr : α → Prop)
    (heach : ∀ {fuel : Nat} {cs : List Value} {y : DataW H × List MemPlace}, DataW.trod enc Tryd.prog W 0 (fun _ => true) true fuel e cs = some y → WOk e y.1 → ∃ a : α, cs = F a ∧ Pr a)
    (hf : DataW.trod enc Tryd.prog W 0 (fun _ => true) true fuel t cs = some x) (hw : WOk t x.1) :
    ∃ A m c, ∃ l : List α, cs = [.slice A m c] ∧ Rd W W.heap.size size A m c (l.map F).flatten ∧ l.length = m ∧ (∀ a ∈ l, Pr a) ∧ m * Tryd.prog.bytesOf e ≤ reachBytes := by
  rcases DataW.trod_slice hu hf with ⟨hcs, _⟩ | ⟨a, len, cap, elems, rest, fl, _, hcs, hx, _, hl, hm, hel, hat, _, _⟩
  · exact ⟨none, 0, 0, [], hcs, Rd.nil _ _ _, rfl, by simp, by simp⟩
  · rw [hx] at hw
    obtain ⟨hby, hwe⟩ := wok_slice hu hw
    rw [List.length_map, hel] at hby
    have each : ∀ i, i < len → ∃ e : α, Pr e ∧ ∀ j, j < size → ∃ u, (F e)[j]? = some u ∧ W.cell? ((a.add (i * size)).add j) = some u := by
      intro i hi
      have h1 := hat i hi
      rw [hce, List.getElem?_eq_getElem (by omega), Option.bind_eq_some_iff] at h1
      obtain ⟨cs', h2, h3⟩ := h1
      obtain ⟨_, hlen, hcell⟩ := World.cells?_some h2
      obtain ⟨e, rfl, h4⟩ := heach h3 (hwe _ (List.mem_map_of_mem (List.getElem_mem _)))
      refine ⟨e, h4, fun j hj => ?_⟩
      have hj' : j < (F e).length := by rw [hF]; exact hj
      exact ⟨(F e)[j], List.getElem?_eq_getElem hj', by rw [hcell j hj, List.getElem?_eq_getElem hj']⟩
    by_cases h0 : 0 < len
    · obtain ⟨_, _, hu0⟩ := each 0 h0
      obtain ⟨_, _, hu0⟩ := hu0 0 hs
      obtain ⟨b, off, spot⟩ := a
      have hspot : spot = none := by simpa [Addr.add] using World.cell?_spot hu0
      subst hspot
      have hblt : b < W.heap.size := World.block_lt_of_cell? _ _ (by simpa [Addr.add] using hu0)
      obtain ⟨es, hes⟩ : ∃ es : List α, es = (List.range len).map fun i => if h : i < len then Classical.choose (each i h) else d0 := ⟨_, rfl⟩
      have hel2 : es.length = len := by rw [hes]; simp
      have hget : ∀ i e, es[i]? = some e → i < len ∧ Pr e ∧ ∀ j, j < size → ∃ u, (F e)[j]? = some u ∧ W.cell? ⟨b, off + i * size + j, none⟩ = some u := fun i e he => by
        have hi : i < len := by have := (List.getElem?_eq_some_iff.1 he).1; omega
        rw [hes] at he
        simp [hi] at he
        have hs := Classical.choose_spec (each i hi)
        rw [he] at hs
        refine ⟨hi, hs.1, fun j hj => ?_⟩
        obtain ⟨u, h1, h2⟩ := hs.2 j hj
        rw [addr_add, addr_add] at h2
        exact ⟨u, h1, h2⟩
      have hmem : ∀ e ∈ es, Pr e := fun e he => by
        obtain ⟨i, hi⟩ := List.getElem?_of_mem he
        obtain ⟨_, h1, _⟩ := hget i e hi
        exact h1
      have hfl : (es.map F).flatten.length = len * size := by
        rw [← hel2]
        exact rows_len F size hF es
      refine ⟨_, _, _, es, hcs, ⟨hfl, hl, hm, fun _ => ⟨b, off, rfl, hblt, fun j u hu => ?_⟩⟩, hel2, hmem, hby⟩
      have hj : j < len * size := by have := (List.getElem?_eq_some_iff.1 hu).1; omega
      have hjd : j / size < len := Nat.div_lt_of_lt_mul (by rw [Nat.mul_comm]; exact hj)
      have hjm : j % size < size := Nat.mod_lt _ hs
      have hje : j / size * size + j % size = j := by rw [Nat.mul_comm]; exact Nat.div_add_mod j size
      obtain ⟨e, he⟩ : ∃ e, es[j / size]? = some e := ⟨_, List.getElem?_eq_getElem (by omega)⟩
      obtain ⟨_, _, h3⟩ := hget _ e he
      obtain ⟨u', h4, h5⟩ := h3 (j % size) hjm
      have h6 := rows_get F size hF es (j / size) (j % size) e hjm he
      rw [hje, hu, h4] at h6
      injection h6 with h6
      subst h6
      rw [← h5]
      congr 2
      rw [Nat.add_assoc, hje]
    · obtain rfl : len = 0 := by omega
      exact ⟨_, _, _, [], hcs, ⟨by simp, hl, hm, fun h => by omega⟩, rfl, by simp, hby⟩
theorem cells_bytes {H : Type} {enc : TypeId × Value → H} {W : World} {fuel : Nat} {cs : List Value} {x : DataW H × List MemPlace} (hf : DataW.trod enc Tryd.prog W 0 (fun _ => true) true fuel 26 cs = some x) (hw : WOk 26 x.1) :
    ∃ A m c, ∃ l : List UInt8, cs = [.slice A m c] ∧ By W W.heap.size A m c l := by
  have hflat : ∀ l : List UInt8, (l.map fun b : UInt8 => [bv b]).flatten = l.map bv := fun l => by
    induction l with
    | nil => rfl
    | cons a r ih => rw [List.map_cons, List.flatten_cons, ih, List.map_cons]; rfl
  obtain ⟨A, m, c, l, h1, h2, _⟩ := cells_rows (fun b : UInt8 => [bv b]) 1 (fun _ => rfl) (by decide) 0 Tryd.underlying26 s_uint8 (fun _ => True) (fun h _ => by
    obtain ⟨n, e, _, hz⟩ := DataW.trod_int Tryd.underlying5 h
    have hr : 0 ≤ n ∧ n ≤ 255 := by simpa [Lit.wf, IntKind.min, IntKind.max, IntKind.signed, IntKind.bits] using hz
    obtain ⟨k, rfl⟩ := Int.eq_ofNat_of_zero_le hr.1
    refine ⟨UInt8.ofNat k, ?_, trivial⟩
    rw [e]
    unfold bv
    have : (UInt8.ofNat k).toNat = k := by rw [UInt8.toNat_ofNat']; omega
    rw [this]) hf hw
  refine ⟨A, m, c, l, h1, ?_⟩
  have e := hflat l
  unfold By
  rw [← e]
  exact h2
theorem cells_ints7 {H : Type} {enc : TypeId × Value → H} {W : World} {fuel : Nat} {cs : List Value} {x : DataW H × List MemPlace} (hf : DataW.trod enc Tryd.prog W 0 (fun _ => true) true fuel 30 cs = some x) :
    ∃ S : Nat → Int, cs = [.int .i64 (S 0), .int .i64 (S 1), .int .i64 (S 2), .int .i64 (S 3), .int .i64 (S 4), .int .i64 (S 5), .int .i64 (S 6)] := by
  obtain ⟨xs, m, _, _, hl, hxl, he⟩ := DataW.trod_array Tryd.underlying30 hf
  rw [s_a7_int] at hl
  have each : ∀ i, i < 7 → ∃ z, cs[i]? = some (.int .i64 z) := by
    intro i hi
    have h1 := he i hi
    rw [s_int, Nat.mul_one, List.getElem?_eq_getElem (by omega)] at h1
    have h2 : (cs.drop i).take 1 = [cs[i]'(by omega)] := by
      rw [List.drop_eq_getElem_cons (by omega)]
      rfl
    rw [h2] at h1
    obtain ⟨z, e, _, _⟩ := DataW.trod_int Tryd.underlying3 h1
    injection e with e _
    exact ⟨z, by rw [List.getElem?_eq_getElem (by omega), e]⟩
  refine ⟨fun i => if h : i < 7 then Classical.choose (each i h) else 0, ?_⟩
  have hat : ∀ i (h : i < 7), cs[i]? = some (.int .i64 (Classical.choose (each i h))) := fun i h => Classical.choose_spec (each i h)
  refine List.ext_getElem? fun i => ?_
  by_cases hi : i < 7
  · rw [hat i hi]
    match i, hi with
    | 0, _ | 1, _ | 2, _ | 3, _ | 4, _ | 5, _ | 6, _ => rfl
  · rw [List.getElem?_eq_none (by omega), List.getElem?_eq_none (by simp; omega)]
theorem cells_read0 {H : Type} {enc : TypeId × Value → H} {W : World} {fuel : Nat} {cs : List Value} {x : DataW H × List MemPlace} (h : DataW.trod enc Tryd.prog W 0 (fun _ => true) true fuel 121 cs = some x) :
    ∃ (qcl : Int) (qsq : Int) (qmck : Int) (qmkey : ByteArray) (qmok : Int) (qmox0 : Nat) (qmos : ByteArray) (qmvk : Int) (qmvx0 : Nat) (qmvs : ByteArray) (ix : Int) (ro : Int) (ac : Int), cs = [.int .i64 qcl, .int .i64 qsq, .int .i64 qmck, .string qmkey, .int .i64 qmok, .float .f64 qmox0, .string qmos, .int .i64 qmvk, .float .f64 qmvx0, .string qmvs, .int .i64 ix, .int .i64 ro, .int .i64 ac] ∧ In64 qcl ∧ In64 qsq ∧ In64 qmck ∧ qmkey.size ≤ maxLen ∧ In64 qmok ∧ qmox0 < 18446744073709551616 ∧ qmos.size ≤ maxLen ∧ In64 qmvk ∧ qmvx0 < 18446744073709551616 ∧ qmvs.size ≤ maxLen ∧ In64 ix ∧ In64 ro ∧ In64 ac := by
  obtain ⟨xs, n', _, _, hl, hxl, hfs⟩ := DataW.trod_struct Tryd.underlying121 h
  rw [s_api_Read] at hl
  have hxl2 : xs.length = 4 := hxl
  have f0 : DataW.trod enc Tryd.prog W 0 (fun _ => true) true n' 62 ((cs.drop 0).take (Tryd.prog.cellsOf 62)) = xs[0]? := hfs 0 _ rfl
  rw [List.getElem?_eq_getElem (by omega), s_api_Call] at f0
  have f1 : DataW.trod enc Tryd.prog W 0 (fun _ => true) true n' 3 ((cs.drop 10).take (Tryd.prog.cellsOf 3)) = xs[1]? := hfs 1 _ rfl
  rw [List.getElem?_eq_getElem (by omega), s_int] at f1
  have f2 : DataW.trod enc Tryd.prog W 0 (fun _ => true) true n' 3 ((cs.drop 11).take (Tryd.prog.cellsOf 3)) = xs[2]? := hfs 2 _ rfl
  rw [List.getElem?_eq_getElem (by omega), s_int] at f2
  have f3 : DataW.trod enc Tryd.prog W 0 (fun _ => true) true n' 3 ((cs.drop 12).take (Tryd.prog.cellsOf 3)) = xs[3]? := hfs 3 _ rfl
  rw [List.getElem?_eq_getElem (by omega), s_int] at f3
  obtain ⟨qcl, qsq, qmck, qmkey, qmok, qmox0, qmos, qmvk, qmvx0, qmvs, e0, p0_0, p0_1, p0_2, p0_3, p0_4, p0_5, p0_6, p0_7, p0_8, p0_9⟩ := cells_call f0
  obtain ⟨ix, e1, _, hix⟩ := DataW.trod_int Tryd.underlying3 f1
  obtain ⟨ro, e2, _, hro⟩ := DataW.trod_int Tryd.underlying3 f2
  obtain ⟨ac, e3, _, hac⟩ := DataW.trod_int Tryd.underlying3 f3
  refine ⟨qcl, qsq, qmck, qmkey, qmok, qmox0, qmos, qmvk, qmvx0, qmvs, ix, ro, ac, ?_, p0_0, p0_1, p0_2, p0_3, p0_4, p0_5, p0_6, p0_7, p0_8, p0_9, law_i64 hix, law_i64 hro, law_i64 hac⟩
  show cs.drop 0 = _
  rw [cut_at cs (k := 0) (n := 10) (m := 10) rfl, e0, cut_at cs (k := 10) (n := 1) (m := 11) rfl, e1, cut_at cs (k := 11) (n := 1) (m := 12) rfl, e2, cut_at cs (k := 12) (n := 1) (m := 13) rfl, e3, List.drop_eq_nil_of_le (by omega)]
  rfl
theorem cells_pair0 {H : Type} {enc : TypeId × Value → H} {W : World} {fuel : Nat} {cs : List Value} {x : DataW H × List MemPlace} (h : DataW.trod enc Tryd.prog W 0 (fun _ => true) true fuel 66 cs = some x) :
    ∃ (key : ByteArray) (vk : Int) (vx0 : Nat) (vs : ByteArray), cs = [.string key, .int .i64 vk, .float .f64 vx0, .string vs] ∧ key.size ≤ maxLen ∧ In64 vk ∧ vx0 < 18446744073709551616 ∧ vs.size ≤ maxLen := by
  obtain ⟨xs, n', _, _, hl, hxl, hfs⟩ := DataW.trod_struct Tryd.underlying66 h
  rw [s_api_Pair] at hl
  have hxl2 : xs.length = 2 := hxl
  have f0 : DataW.trod enc Tryd.prog W 0 (fun _ => true) true n' 9 ((cs.drop 0).take (Tryd.prog.cellsOf 9)) = xs[0]? := hfs 0 _ rfl
  rw [List.getElem?_eq_getElem (by omega), s_string] at f0
  have f1 : DataW.trod enc Tryd.prog W 0 (fun _ => true) true n' 56 ((cs.drop 1).take (Tryd.prog.cellsOf 56)) = xs[1]? := hfs 1 _ rfl
  rw [List.getElem?_eq_getElem (by omega), s_api_Value] at f1
  obtain ⟨key, e0, _, hkey⟩ := DataW.trod_string Tryd.underlying9 f0
  obtain ⟨vk, vx0, vs, e1, p1_0, p1_1, p1_2⟩ := cells_va f1
  refine ⟨key, vk, vx0, vs, ?_, hkey, p1_0, p1_1, p1_2⟩
  show cs.drop 0 = _
  rw [cut_at cs (k := 0) (n := 1) (m := 1) rfl, e0, cut_at cs (k := 1) (n := 3) (m := 4) rfl, e1, List.drop_eq_nil_of_le (by omega)]
  rfl
theorem cells_reply {H : Type} {enc : TypeId × Value → H} {W : World} {fuel : Nat} {cs : List Value} {x : DataW H × List MemPlace} (h : DataW.trod enc Tryd.prog W 0 (fun _ => true) true fuel 81 cs = some x) :
    ∃ (code : Int) (vk : Int) (vx0 : Nat) (vs : ByteArray), cs = [.int .i64 code, .int .i64 vk, .float .f64 vx0, .string vs] ∧ In64 code ∧ In64 vk ∧ vx0 < 18446744073709551616 ∧ vs.size ≤ maxLen := by
  obtain ⟨xs, n', _, _, hl, hxl, hfs⟩ := DataW.trod_struct Tryd.underlying81 h
  rw [s_api_Reply] at hl
  have hxl2 : xs.length = 2 := hxl
  have f0 : DataW.trod enc Tryd.prog W 0 (fun _ => true) true n' 67 ((cs.drop 0).take (Tryd.prog.cellsOf 67)) = xs[0]? := hfs 0 _ rfl
  rw [List.getElem?_eq_getElem (by omega), s_api_Errno] at f0
  have f1 : DataW.trod enc Tryd.prog W 0 (fun _ => true) true n' 56 ((cs.drop 1).take (Tryd.prog.cellsOf 56)) = xs[1]? := hfs 1 _ rfl
  rw [List.getElem?_eq_getElem (by omega), s_api_Value] at f1
  obtain ⟨code, e0, _, hcode⟩ := DataW.trod_int Tryd.underlying67 f0
  obtain ⟨vk, vx0, vs, e1, p1_0, p1_1, p1_2⟩ := cells_va f1
  refine ⟨code, vk, vx0, vs, ?_, law_i64 hcode, p1_0, p1_1, p1_2⟩
  show cs.drop 0 = _
  rw [cut_at cs (k := 0) (n := 1) (m := 1) rfl, e0, cut_at cs (k := 1) (n := 3) (m := 4) rfl, e1, List.drop_eq_nil_of_le (by omega)]
  rfl
theorem cells_sess0 {H : Type} {enc : TypeId × Value → H} {W : World} {fuel : Nat} {cs : List Value} {x : DataW H × List MemPlace} (h : DataW.trod enc Tryd.prog W 0 (fun _ => true) true fuel 83 cs = some x) :
    ∃ (cl : Int) (sq : Int) (rcode : Int) (rvk : Int) (rvx0 : Nat) (rvs : ByteArray), cs = [.int .i64 cl, .int .i64 sq, .int .i64 rcode, .int .i64 rvk, .float .f64 rvx0, .string rvs] ∧ In64 cl ∧ In64 sq ∧ In64 rcode ∧ In64 rvk ∧ rvx0 < 18446744073709551616 ∧ rvs.size ≤ maxLen := by
  obtain ⟨xs, n', _, _, hl, hxl, hfs⟩ := DataW.trod_struct Tryd.underlying83 h
  rw [s_api_Sess] at hl
  have hxl2 : xs.length = 3 := hxl
  have f0 : DataW.trod enc Tryd.prog W 0 (fun _ => true) true n' 3 ((cs.drop 0).take (Tryd.prog.cellsOf 3)) = xs[0]? := hfs 0 _ rfl
  rw [List.getElem?_eq_getElem (by omega), s_int] at f0
  have f1 : DataW.trod enc Tryd.prog W 0 (fun _ => true) true n' 3 ((cs.drop 1).take (Tryd.prog.cellsOf 3)) = xs[1]? := hfs 1 _ rfl
  rw [List.getElem?_eq_getElem (by omega), s_int] at f1
  have f2 : DataW.trod enc Tryd.prog W 0 (fun _ => true) true n' 81 ((cs.drop 2).take (Tryd.prog.cellsOf 81)) = xs[2]? := hfs 2 _ rfl
  rw [List.getElem?_eq_getElem (by omega), s_api_Reply] at f2
  obtain ⟨cl, e0, _, hcl⟩ := DataW.trod_int Tryd.underlying3 f0
  obtain ⟨sq, e1, _, hsq⟩ := DataW.trod_int Tryd.underlying3 f1
  obtain ⟨rcode, rvk, rvx0, rvs, e2, p2_0, p2_1, p2_2, p2_3⟩ := cells_reply f2
  refine ⟨cl, sq, rcode, rvk, rvx0, rvs, ?_, law_i64 hcl, law_i64 hsq, p2_0, p2_1, p2_2, p2_3⟩
  show cs.drop 0 = _
  rw [cut_at cs (k := 0) (n := 1) (m := 1) rfl, e0, cut_at cs (k := 1) (n := 1) (m := 2) rfl, e1, cut_at cs (k := 2) (n := 4) (m := 6) rfl, e2, List.drop_eq_nil_of_le (by omega)]
  rfl
theorem cells_read {H : Type} {enc : TypeId × Value → H} {W : World} {fuel : Nat} {cs : List Value} {x : DataW H × List MemPlace} (h : DataW.trod enc Tryd.prog W 0 (fun _ => true) true fuel 121 cs = some x) : ∃ e : Rq, cs = e.cells := by
  obtain ⟨qcl, qsq, qmck, qmkey, qmok, qmox0, qmos, qmvk, qmvx0, qmvs, ix, ro, ac, e, _⟩ := cells_read0 h
  exact ⟨⟨qcl, qsq, qmck, qmkey, qmok, qmox0, qmos, qmvk, qmvx0, qmvs, ix, ro, ac⟩, e⟩
theorem cells_pair {H : Type} {enc : TypeId × Value → H} {W : World} {fuel : Nat} {cs : List Value} {x : DataW H × List MemPlace} (h : DataW.trod enc Tryd.prog W 0 (fun _ => true) true fuel 66 cs = some x) : ∃ p : ByteArray × Va, cs = prC p ∧ p.1.size ≤ maxLen ∧ p.2.s.size ≤ maxLen ∧ p.2.x < 18446744073709551616 := by
  obtain ⟨key, vk, vx0, vs, e, p0, p1, p2, p3⟩ := cells_pair0 h
  exact ⟨(key, ⟨vk, vx0, vs⟩), e, p0, p3, p2⟩
theorem cells_sess {H : Type} {enc : TypeId × Value → H} {W : World} {fuel : Nat} {cs : List Value} {x : DataW H × List MemPlace} (h : DataW.trod enc Tryd.prog W 0 (fun _ => true) true fuel 83 cs = some x) : ∃ s : Se, cs = s.cells ∧ s.v.s.size ≤ maxLen := by
  obtain ⟨cl, sq, rcode, rvk, rvx0, rvs, e, p0, p1, p2, p3, p4, p5⟩ := cells_sess0 h
  exact ⟨⟨cl, sq, rcode, ⟨rvk, rvx0, rvs⟩⟩, e, p5⟩
theorem cells_hard2 {H : Type} {enc : TypeId × Value → H} {W : World} {fuel : Nat} {cs : List Value} {x : DataW H × List MemPlace} (h : DataW.trod enc Tryd.prog W 0 (fun _ => true) true fuel 29 cs = some x) (hw0 : WOk 29 x.1) :
    ∃ (g : Hd) (S : Option Addr) (sn sc : Nat) (A : Option Addr) (m c : Nat) (sb : List UInt8) (es : List En), cs = g.cells S sn sc A m c ∧ By W W.heap.size S sn sc sb ∧ EnRows W W.heap.size A m c es ∧ es.length = m ∧ (∀ e ∈ es, e.In) ∧ (∀ e ∈ es, e.Str) ∧ In64 g.base ∧ In64 g.term := by
  obtain ⟨xs, n', _, hxe, hl, hxl, hfs⟩ := DataW.trod_struct Tryd.underlying29 h
  rw [s_api_Hard] at hl
  have hxl2 : xs.length = 7 := hxl
  have hw : WOk 29 (.agg (xs.map (·.1))) := by rw [hxe] at hw0; exact hw0
  have f0 : DataW.trod enc Tryd.prog W 0 (fun _ => true) true n' 3 ((cs.drop 0).take (Tryd.prog.cellsOf 3)) = xs[0]? := hfs 0 _ rfl
  rw [List.getElem?_eq_getElem (by omega), s_int] at f0
  have f1 : DataW.trod enc Tryd.prog W 0 (fun _ => true) true n' 3 ((cs.drop 1).take (Tryd.prog.cellsOf 3)) = xs[1]? := hfs 1 _ rfl
  rw [List.getElem?_eq_getElem (by omega), s_int] at f1
  have f2 : DataW.trod enc Tryd.prog W 0 (fun _ => true) true n' 3 ((cs.drop 2).take (Tryd.prog.cellsOf 3)) = xs[2]? := hfs 2 _ rfl
  rw [List.getElem?_eq_getElem (by omega), s_int] at f2
  have f3 : DataW.trod enc Tryd.prog W 0 (fun _ => true) true n' 3 ((cs.drop 3).take (Tryd.prog.cellsOf 3)) = xs[3]? := hfs 3 _ rfl
  rw [List.getElem?_eq_getElem (by omega), s_int] at f3
  have f4 : DataW.trod enc Tryd.prog W 0 (fun _ => true) true n' 25 ((cs.drop 4).take (Tryd.prog.cellsOf 25)) = xs[4]? := hfs 4 _ rfl
  rw [List.getElem?_eq_getElem (by omega), s_api_Conf] at f4
  have f5 : DataW.trod enc Tryd.prog W 0 (fun _ => true) true n' 26 ((cs.drop 8).take (Tryd.prog.cellsOf 26)) = xs[5]? := hfs 5 _ rfl
  rw [List.getElem?_eq_getElem (by omega), s_sl_uint8] at f5
  have f6 : DataW.trod enc Tryd.prog W 0 (fun _ => true) true n' 27 ((cs.drop 9).take (Tryd.prog.cellsOf 27)) = xs[6]? := hfs 6 _ rfl
  rw [List.getElem?_eq_getElem (by omega), s_sl_api_Entry] at f6
  obtain ⟨t, e0, _, ht⟩ := DataW.trod_int Tryd.underlying3 f0
  obtain ⟨v, e1, _, _⟩ := DataW.trod_int Tryd.underlying3 f1
  obtain ⟨b, e2, _, hb⟩ := DataW.trod_int Tryd.underlying3 f2
  obtain ⟨bt, e3, _, _⟩ := DataW.trod_int Tryd.underlying3 f3
  obtain ⟨a1, a2, a3, a4, e4, _⟩ := cells_conf f4
  have hw5 : WOk 26 xs[5].1 := wok_agg Tryd.underlying29 hw (i := 5) rfl (by rw [List.getElem?_map, List.getElem?_eq_getElem (by omega)]; rfl)
  obtain ⟨S, sn, sc, sb, e5, hsb⟩ := cells_bytes f5 hw5
  obtain ⟨A, m, c, es, e6, h1, h2, h3, h4⟩ := cells_ents f6
  refine ⟨⟨t, v, b, bt, a1, a2, a3, a4⟩, S, sn, sc, A, m, c, sb, es, ?_, hsb, h1, h2, h3, h4, law_i64 hb, law_i64 ht⟩
  show cs.drop 0 = _
  rw [cut_at cs (k := 0) (n := 1) (m := 1) rfl, e0, cut_at cs (k := 1) (n := 1) (m := 2) rfl, e1, cut_at cs (k := 2) (n := 1) (m := 3) rfl, e2, cut_at cs (k := 3) (n := 1) (m := 4) rfl, e3, cut_at cs (k := 4) (n := 4) (m := 8) rfl, e4, cut_at cs (k := 8) (n := 1) (m := 9) rfl, e5, cut_at cs (k := 9) (n := 1) (m := 10) rfl, e6, List.drop_eq_nil_of_le (by omega)]
  rfl
set_option maxHeartbeats 1600000 in
theorem cells_raft {H : Type} {enc : TypeId × Value → H} {W : World} {fuel : Nat} {cs : List Value} {x : DataW H × List MemPlace} (h : DataW.trod enc Tryd.prog W 0 (fun _ => true) true fuel 33 cs = some x) (hw0 : WOk 33 x.1) : ∃ p : Rp, cs = p.x ∧ p.Ok W W.heap.size := by
  obtain ⟨xs, n', _, hxe, hl, hxl, hfs⟩ := DataW.trod_struct Tryd.underlying33 h
  rw [s_api_Raft] at hl
  have hxl2 : xs.length = 13 := hxl
  have hw : WOk 33 (.agg (xs.map (·.1))) := by rw [hxe] at hw0; exact hw0
  have f0 : DataW.trod enc Tryd.prog W 0 (fun _ => true) true n' 3 ((cs.drop 0).take (Tryd.prog.cellsOf 3)) = xs[0]? := hfs 0 _ rfl
  rw [List.getElem?_eq_getElem (by omega), s_int] at f0
  have f1 : DataW.trod enc Tryd.prog W 0 (fun _ => true) true n' 29 ((cs.drop 1).take (Tryd.prog.cellsOf 29)) = xs[1]? := hfs 1 _ rfl
  rw [List.getElem?_eq_getElem (by omega), s_api_Hard] at f1
  have f2 : DataW.trod enc Tryd.prog W 0 (fun _ => true) true n' 3 ((cs.drop 11).take (Tryd.prog.cellsOf 3)) = xs[2]? := hfs 2 _ rfl
  rw [List.getElem?_eq_getElem (by omega), s_int] at f2
  have f3 : DataW.trod enc Tryd.prog W 0 (fun _ => true) true n' 3 ((cs.drop 12).take (Tryd.prog.cellsOf 3)) = xs[3]? := hfs 3 _ rfl
  rw [List.getElem?_eq_getElem (by omega), s_int] at f3
  have f4 : DataW.trod enc Tryd.prog W 0 (fun _ => true) true n' 3 ((cs.drop 13).take (Tryd.prog.cellsOf 3)) = xs[4]? := hfs 4 _ rfl
  rw [List.getElem?_eq_getElem (by omega), s_int] at f4
  have f5 : DataW.trod enc Tryd.prog W 0 (fun _ => true) true n' 3 ((cs.drop 14).take (Tryd.prog.cellsOf 3)) = xs[5]? := hfs 5 _ rfl
  rw [List.getElem?_eq_getElem (by omega), s_int] at f5
  have f6 : DataW.trod enc Tryd.prog W 0 (fun _ => true) true n' 3 ((cs.drop 15).take (Tryd.prog.cellsOf 3)) = xs[6]? := hfs 6 _ rfl
  rw [List.getElem?_eq_getElem (by omega), s_int] at f6
  have f7 : DataW.trod enc Tryd.prog W 0 (fun _ => true) true n' 3 ((cs.drop 16).take (Tryd.prog.cellsOf 3)) = xs[7]? := hfs 7 _ rfl
  rw [List.getElem?_eq_getElem (by omega), s_int] at f7
  have f8 : DataW.trod enc Tryd.prog W 0 (fun _ => true) true n' 3 ((cs.drop 17).take (Tryd.prog.cellsOf 3)) = xs[8]? := hfs 8 _ rfl
  rw [List.getElem?_eq_getElem (by omega), s_int] at f8
  have f9 : DataW.trod enc Tryd.prog W 0 (fun _ => true) true n' 30 ((cs.drop 18).take (Tryd.prog.cellsOf 30)) = xs[9]? := hfs 9 _ rfl
  rw [List.getElem?_eq_getElem (by omega), s_a7_int] at f9
  have f10 : DataW.trod enc Tryd.prog W 0 (fun _ => true) true n' 30 ((cs.drop 25).take (Tryd.prog.cellsOf 30)) = xs[10]? := hfs 10 _ rfl
  rw [List.getElem?_eq_getElem (by omega), s_a7_int] at f10
  have f11 : DataW.trod enc Tryd.prog W 0 (fun _ => true) true n' 30 ((cs.drop 32).take (Tryd.prog.cellsOf 30)) = xs[11]? := hfs 11 _ rfl
  rw [List.getElem?_eq_getElem (by omega), s_a7_int] at f11
  have f12 : DataW.trod enc Tryd.prog W 0 (fun _ => true) true n' 31 ((cs.drop 39).take (Tryd.prog.cellsOf 31)) = xs[12]? := hfs 12 _ rfl
  rw [List.getElem?_eq_getElem (by omega), s_sl_api_Read] at f12
  obtain ⟨id, e0, _, h0⟩ := DataW.trod_int Tryd.underlying3 f0
  have hw1 : WOk 29 xs[1].1 := wok_agg Tryd.underlying33 hw (i := 1) rfl (by rw [List.getElem?_map, List.getElem?_eq_getElem (by omega)]; rfl)
  obtain ⟨g, S, sn, sc, A, m, c, sb, es, e1, q1, q2, q3, q4, q5, q6, q7⟩ := cells_hard2 f1 hw1
  obtain ⟨commit, e2, _, h2⟩ := DataW.trod_int Tryd.underlying3 f2
  obtain ⟨role, e3, _, h3⟩ := DataW.trod_int Tryd.underlying3 f3
  obtain ⟨lead, e4, _, h4⟩ := DataW.trod_int Tryd.underlying3 f4
  obtain ⟨wait, e5, _, h5⟩ := DataW.trod_int Tryd.underlying3 f5
  obtain ⟨quiet, e6, _, h6⟩ := DataW.trod_int Tryd.underlying3 f6
  obtain ⟨votes, e7, _, h7⟩ := DataW.trod_int Tryd.underlying3 f7
  obtain ⟨round, e8, _, h8⟩ := DataW.trod_int Tryd.underlying3 f8
  obtain ⟨next, e9⟩ := cells_ints7 f9
  obtain ⟨mat, e10⟩ := cells_ints7 f10
  obtain ⟨silent, e11⟩ := cells_ints7 f11
  have hw12 : WOk 31 xs[12].1 := wok_agg Tryd.underlying33 hw (i := 12) rfl (by rw [List.getElem?_map, List.getElem?_eq_getElem (by omega)]; rfl)
  obtain ⟨R, rn, rc, qs, e12, r1, r2, _, r4⟩ := cells_rows Rq.cells 13 (fun _ => rfl) (by decide) rq0 Tryd.underlying31 s_api_Read (fun _ => True) (fun h _ => by
    obtain ⟨e, he⟩ := cells_read h
    exact ⟨e, he, trivial⟩) f12 hw12
  have hby : Tryd.prog.bytesOf 121 = 128 := by kernel_rfl
  rw [hby] at r4
  have hrb : reachBytes ≤ 140737488355328 := by decide
  refine ⟨⟨⟨id, g, commit, role, lead, wait, quiet, votes, round, next, mat, silent⟩, S, sn, sc, A, m, c, R, rn, rc, sb, es, qs⟩, ?_, q1, q2, q3, q4, q5, r1, r2, Nat.le_trans r4 hrb, law_i64 h0, law_i64 h3, q7, law_i64 h4, law_i64 h2, q6⟩
  show cs.drop 0 = _
  rw [cut_at cs (k := 0) (n := 1) (m := 1) rfl, e0, cut_at cs (k := 1) (n := 10) (m := 11) rfl, e1, cut_at cs (k := 11) (n := 1) (m := 12) rfl, e2, cut_at cs (k := 12) (n := 1) (m := 13) rfl, e3, cut_at cs (k := 13) (n := 1) (m := 14) rfl, e4, cut_at cs (k := 14) (n := 1) (m := 15) rfl, e5, cut_at cs (k := 15) (n := 1) (m := 16) rfl, e6, cut_at cs (k := 16) (n := 1) (m := 17) rfl, e7, cut_at cs (k := 17) (n := 1) (m := 18) rfl, e8, cut_at cs (k := 18) (n := 7) (m := 25) rfl, e9, cut_at cs (k := 25) (n := 7) (m := 32) rfl, e10, cut_at cs (k := 32) (n := 7) (m := 39) rfl, e11, cut_at cs (k := 39) (n := 1) (m := 40) rfl, e12, List.drop_eq_nil_of_le (by omega)]
  rfl
theorem law_rafts {H : Type} {enc : TypeId × Value → H} {W : World} {base : Nat} {v : Value} {d : DataW H} {ps : List MemPlace} (hv : Value.okWide Tryd.prog W .any base 23 v)
    (h : DataW.Trod enc Tryd.prog W 0 (fun _ => true) true 23 v d ps) (hw : WOk 23 d) : ∃ A n cap, ∃ l : List Rp, v = .slice A n cap ∧ RpRows W W.heap.size A n cap l ∧ l.length = n ∧ ∀ p ∈ l, p.Ok W W.heap.size := by
  obtain ⟨a0, len, cap, rfl⟩ := okWide_slice Tryd.underlying23 hv
  obtain ⟨fuel, hf⟩ := h
  obtain ⟨A, m, c, l, h1, h2, h3, h4, _⟩ := cells_rows Rp.x 40 Rp.len (by decide) ⟨⟨0, ⟨0, 0, 0, 0, 0, 0, 0, 0⟩, 0, 0, 0, 0, 0, 0, 0, fun _ => 0, fun _ => 0, fun _ => 0⟩, none, 0, 0, none, 0, 0, none, 0, 0, [], [], []⟩ Tryd.underlying23 s_api_Raft (fun p => p.Ok W W.heap.size) (fun h hw => cells_raft h hw) hf hw
  exact ⟨A, m, c, l, by simpa [Value.cells] using h1, h2, h3, h4⟩
theorem law_machine {H : Type} {enc : TypeId × Value → H} {W : World} {base : Nat} {v : Value} {d : DataW H} {ps : List MemPlace} (hv : Value.okWide Tryd.prog W .any base 44 v)
    (h : DataW.Trod enc Tryd.prog W 0 (fun _ => true) true 44 v d ps) (hw0 : WOk 44 d) :
    ∃ A n c B k e, ∃ (pr : List (ByteArray × Va)) (ss : List Se), v = .agg #[.slice A n c, .slice B k e] ∧ PrRows W W.heap.size A n c pr ∧ pr.length = n ∧ (∀ p ∈ pr, p.1.size ≤ maxLen ∧ p.2.s.size ≤ maxLen) ∧ (∀ p ∈ pr, p.2.x < 18446744073709551616) ∧ SeRows W W.heap.size B k e ss ∧ ss.length = k ∧ ∀ s ∈ ss, s.v.s.size ≤ maxLen := by
  obtain ⟨cs0, rfl, hsz⟩ := okWide_struct Tryd.underlying44 hv
  obtain ⟨fuel, hf⟩ := h
  have hcs : (Value.agg cs0).cells = cs0 := rfl
  rw [hcs] at hf
  obtain ⟨cs, hcse⟩ : ∃ cs, cs0.toList = cs := ⟨_, rfl⟩
  rw [hcse] at hf
  obtain ⟨xs, n', _, hxe, hl, hxl, hfs⟩ := DataW.trod_struct Tryd.underlying44 hf
  rw [s_api_Machine] at hl
  have hxl2 : xs.length = 2 := hxl
  injection hxe with hxe _
  have hw : WOk 44 (.agg (xs.map (·.1))) := by rw [hxe] at hw0; exact hw0
  have f0 : DataW.trod enc Tryd.prog W 0 (fun _ => true) true n' 41 ((cs.drop 0).take (Tryd.prog.cellsOf 41)) = xs[0]? := hfs 0 _ rfl
  rw [List.getElem?_eq_getElem (by omega), s_sl_api_Pair] at f0
  have f1 : DataW.trod enc Tryd.prog W 0 (fun _ => true) true n' 42 ((cs.drop 1).take (Tryd.prog.cellsOf 42)) = xs[1]? := hfs 1 _ rfl
  rw [List.getElem?_eq_getElem (by omega), s_sl_api_Sess] at f1
  have hw1 : WOk 41 xs[0].1 := wok_agg Tryd.underlying44 hw (i := 0) rfl (by rw [List.getElem?_map, List.getElem?_eq_getElem (by omega)]; rfl)
  have hw2 : WOk 42 xs[1].1 := wok_agg Tryd.underlying44 hw (i := 1) rfl (by rw [List.getElem?_map, List.getElem?_eq_getElem (by omega)]; rfl)
  obtain ⟨A, n, c, pr, e0, h1, h2, h3, _⟩ := cells_rows prC 4 (fun _ => rfl) (by decide) p0 Tryd.underlying41 s_api_Pair (fun p => p.1.size ≤ maxLen ∧ p.2.s.size ≤ maxLen ∧ p.2.x < 18446744073709551616) (fun h _ => cells_pair h) f0 hw1
  obtain ⟨B, k, e, ss, e1, g1, g2, g3, _⟩ := cells_rows Se.cells 6 (fun _ => rfl) (by decide) se0 Tryd.underlying42 s_api_Sess (fun s => s.v.s.size ≤ maxLen) (fun h _ => cells_sess h) f1 hw2
  refine ⟨A, n, c, B, k, e, pr, ss, ?_, h1, h2, fun p hp => ⟨(h3 p hp).1, (h3 p hp).2.1⟩, fun p hp => (h3 p hp).2.2, g1, g2, g3⟩
  have hq : cs.drop 0 = [.slice A n c, .slice B k e] := by
    rw [cut_at cs (k := 0) (n := 1) (m := 1) rfl, e0, cut_at cs (k := 1) (n := 1) (m := 2) rfl, e1, List.drop_eq_nil_of_le (by omega)]
    rfl
  rw [← Array.toArray_toList (xs := cs0), hcse]
  rw [List.drop_zero] at hq
  rw [hq]
end Go.Proofs.YtkckncggiicciaaDoor
/-
  What the listed variables give the walks, the two errors of strconv among them; the door's own heap meets the condition.
-/
namespace Go.Proofs.YtkckncggiicciaaDoor
open Go.RowKit Go.ChangeShapes Go.WideShapes Go.ChangeAt
set_option maxRecDepth 100000
def laid5 : List (String × DataW Unit) := [("math/bits.deBruijn32tab", Rows.laid_math_bits_deBruijn32tab), ("math/bits.deBruijn64tab", Rows.laid_math_bits_deBruijn64tab), ("internal/strconv.uint64pow10", Rows.laid_internal_strconv_uint64pow10), ("strconv.ErrRange", Rows.laid_strconv_ErrRange), ("strconv.ErrSyntax", Rows.laid_strconv_ErrSyntax)]
theorem door_met2 (os : Os) (args : Array Value) : laidMetH Tryd.prog laid5 ((World.doorLaid Tryd.prog doorSteps os).forCall (fun _ _ => 0) ⟨#[], args, []⟩).memory :=
  laidMetH_of_parts3 (fuel := 8) (laidMet_of_run' 8 (by kernel_rfl) (by kernel_rfl)) (by kernel_rfl) (by kernel_rfl)
theorem errStar : "*" ++ "errors.errorString" = "*errors.errorString" := by decide
theorem errRow (u : TypeId) (h : Tryd.prog.typeName? 3 u = some "*errors.errorString") : u = 189 :=
  typeName_ptr_named (nm := "errors.errorString") (by rw [errStar]; kernel_rfl) (by kernel_rfl) (by decide) u (by rw [errStar]; exact h)
theorem tz_of_laid2 {W : World} (h : laidMetH Tryd.prog laid5 W) : TzAt W ∧ ErrAt W := by
  rw [MakeChecks.laidMetH_plain _ _ _ (by kernel_rfl)] at h
  refine ⟨tz_of_list h, ?_⟩
  have h1 := h.tail.tail.tail
  have h2 := h1.tail
  obtain ⟨a1, s1, e1, _⟩ := laid_sentinel (g := 3) (ti := 131) h1 (by kernel_rfl) (by kernel_rfl) Tryd.underlying131 errRow Tryd.underlying189 Tryd.underlying191 rfl rfl Tryd.underlying9 (by kernel_rfl) (by kernel_rfl)
  obtain ⟨a2, s2, e2, _⟩ := laid_sentinel (g := 2) (ti := 131) h2 (by kernel_rfl) (by kernel_rfl) Tryd.underlying131 errRow Tryd.underlying189 Tryd.underlying191 rfl rfl Tryd.underlying9 (by kernel_rfl) (by kernel_rfl)
  have q1 := World.var?_cell (g := 3) (by kernel_rfl) e1 0
  have q2 := World.var?_cell (g := 2) (by kernel_rfl) e2 0
  exact ⟨⟨_, _, q2⟩, ⟨_, _, q1⟩⟩
end Go.Proofs.YtkckncggiicciaaDoor
/-
  Calls that came in; what the five listed variables give.
-/
namespace Go.Proofs.YtkckncggiicciaaDoor
open Go.RowKit Go.ChangeShapes Go.WideShapes Go.ChangeAt
set_option maxRecDepth 100000
theorem it_of_laid5 {W : World} (h : laidMetH Tryd.prog laid5 W) : ItAt W := by
  rw [MakeChecks.laidMetH_plain _ _ _ (by kernel_rfl)] at h
  exact it_of_list h.tail.tail
theorem cells_cl {H : Type} {enc : TypeId × Value → H} {W : World} {fuel : Nat} {cs : List Value} {x : DataW H × List MemPlace} (h : DataW.trod enc Tryd.prog W 0 (fun _ => true) true fuel 62 cs = some x) : ∃ y : Cl, cs = y.cells ∧ y.c.Ok := by
  obtain ⟨cl, sq, ck, key, ok, ox, os, vk, vx, vs, e, _, _, _, p3, _, p5, p6, _, p8, p9⟩ := cells_call h
  exact ⟨⟨cl, sq, ⟨ck, key, ⟨ok, ox, os⟩, ⟨vk, vx, vs⟩⟩⟩, e, p3, p5, p6, p8, p9⟩
def cl0 : Cl := ⟨0, 0, ⟨0, ⟨#[]⟩, ⟨0, 0, ⟨#[]⟩⟩, ⟨0, 0, ⟨#[]⟩⟩⟩⟩
theorem law_calls {H : Type} {enc : TypeId × Value → H} {W : World} {base : Nat} {v : Value} {d : DataW H} {ps : List MemPlace} (hv : Value.okWide Tryd.prog W .any base 70 v)
    (h : DataW.Trod enc Tryd.prog W 0 (fun _ => true) true 70 v d ps) (hw : WOk 70 d) : ∃ A n cap, ∃ l : List Cl, v = .slice A n cap ∧ CaRows W W.heap.size A n cap l ∧ l.length = n ∧ ∀ x ∈ l, x.c.Ok := by
  obtain ⟨a0, len, cap, rfl⟩ := okWide_slice Tryd.underlying70 hv
  obtain ⟨fuel, hf⟩ := h
  obtain ⟨A, m, c, l, h1, h2, h3, h4, _⟩ := cells_rows Cl.cells 10 (fun _ => rfl) (by decide) cl0 Tryd.underlying70 s_api_Call (fun x => x.c.Ok) (fun h _ => cells_cl h) hf hw
  exact ⟨A, m, c, l, by simpa [Value.cells] using h1, h2, h3, h4⟩
end Go.Proofs.YtkckncggiicciaaDoor
