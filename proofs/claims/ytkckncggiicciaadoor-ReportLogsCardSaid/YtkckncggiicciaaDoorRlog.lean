/-
  The walk of report.Log.
-/
import Derived.Test.YtkckncggiicciaaDoorRent
namespace Go.Proofs.YtkckncggiicciaaDoor
open Go.RowKit
set_option maxRecDepth 100000
def RlogPost (base : Int) (es : List En) (w : World) (e : Ending) (w' : World) : Prop :=
  (if logB base = true then ∃ v, e = .returned v ∧ OwnS w' w.heap.size v (logL base es es.length) else e = .returned (.slice none 0 0)) ∧ Below w.heap.size w w'
set_option maxHeartbeats 12800000 in
theorem RLog_any (x : List Value) (id term base bt commit role lead : Int) (A : Option Addr) (m c : Nat) (es : List En) (w : World) (hr : RfAt x id term base bt commit role lead (.slice A m c)) (hy : EnRows w w.heap.size A m c es) (hl : es.length = m) (hm : m ≤ 1000)
    (hin : ∀ e ∈ es, e.In) (hI : ItAt w) :
    Calls Tryd.prog 16 #[.agg x.toArray] w (RlogPost base es w) := by
  have hcap : m ≤ c := hy.2.1
  obtain ⟨W1, hW1⟩ : ∃ W1, w.alloc (.cells x.toArray 33) = W1 := ⟨_, rfl⟩
  have hb1 : Below w.heap.size w W1 := by rw [← hW1]; exact alloc_below w _
  have hz1 : W1.heap.size = w.heap.size + 1 := by rw [← hW1]; simp
  have hrow : W1.heap[w.heap.size]? = some (.cells x.toArray 33 (0, 0)) := by rw [← hW1]; exact heap_alloc_new w _
  have Hrow : Hid (∀ w', Below W1.heap.size W1 w' → w'.cell? ⟨w.heap.size, 3, none⟩ = some (.int .i64 base) ∧ w'.cell? ⟨w.heap.size, 10, none⟩ = some (.slice A m c)) := fun w' hb => by
    have q := (hb.block w.heap.size (by omega)).trans hrow
    exact ⟨cell_list q _ _ hr.base, cell_list q _ _ hr.log⟩
  have Hsz : Hid ((Tryd.prog.info? 33).map (·.size) = some x.toArray.size) := by unfold Hid; rw [List.size_toArray, hr.len]; exact size40
  have HH : Hid (∀ w', Calls Tryd.prog 35 #[.agg x.toArray] w' fun e w'' => e = .returned (.bool (logB base)) ∧ Below w'.heap.size w' w'') := fun w' => has_any x base w' hr.base
  have HNo : Hid (logB base = false → ∀ w', Below w.heap.size w w' → RlogPost base es w (.returned (.slice none 0 0)) w') := fun h w' hb => by
    unfold RlogPost
    rw [if_neg (by rw [h]; decide)]
    exact ⟨rfl, hb⟩
  have HYes : Hid (logB base = true → ∀ w' v, OwnS w' w.heap.size v (logL base es m) → Below w.heap.size w w' → RlogPost base es w (.returned v) w') := fun h w' v ho hb => by
    unfold RlogPost
    rw [if_pos h, hl]
    exact ⟨⟨v, rfl, ho⟩, hb⟩
  have HE : Hid (∀ i, i < m → ∃ b off e, A = some ⟨b, off, none⟩ ∧ b < w.heap.size ∧ es.getD i e0 = e ∧ e.In ∧ w.rangeAt b (off + i * 16) e.cells) := fun i hi => by
    obtain ⟨b, off, e, q1, q2, q3, q4, q5, q6⟩ := en_row hy hl hi
    exact ⟨b, off, e, q1, q2, q4, hin e q5, q6⟩
  obtain ⟨J, hJ⟩ : ∃ J, RlogPost base es w = J := ⟨_, rfl⟩
  rw [hJ] at HNo HYes ⊢
  have HI := Lib.hid hI
  have HW1 := Lib.hid hW1
  have hbc : Below W1.heap.size W1 W1 := Below.refl _ _
  clear hW1 hrow hJ hI hr hy hl hin
  go_enter Tryd.func16, Tryd.ntmps16
  go_wp2_with ((refine wpList_load_row rfl 33 (.tmp 1) rfl w.heap.size rfl 33 x.toArray (0, 0) _ (heap_alloc_new w _) Tryd.underlying33 rfl Hsz.out ?_; rw [HW1.out]))
  refine (HH.out _).mono ?_
  rintro e w2 ⟨rfl, hb2⟩
  have hbc2 := bstep hbc hb2
  clear hb2 hbc HH
  cases hB : logB base
  · have HF := Lib.hid (HNo.out hB)
    clear hB HNo HYes
    go_wp2_with fail
    exact HF.out _ (hb1.trans (hbc2.mono (by omega)))
  have HF := Lib.hid (HYes.out hB)
  have hbb : 0 ≤ base ∧ base ≤ 1099511627776 := by
    unfold logB at hB
    simpa using hB
  obtain ⟨hbb0, hbb1⟩ := hbb
  clear hB HNo HYes
  obtain ⟨_, y1⟩ := Hrow.out _ hbc2
  go_wp2_with fail
  clear y1
  go_loopg [3, 4, 5, 6, 14] m (fun g s3 _ _ _ s14 wr => ∃ i : Nat, i + g = m ∧ s14 = .int .i64 i ∧ OwnS wr W1.heap.size s3 (logL base es i) ∧ Below W1.heap.size W1 wr)
  case atStart => exact ⟨0, by omega, rfl, ownS_nil _ _, hbc2⟩
  case round =>
    clear hbc2
    obtain ⟨i, hig, rfl, ho, hbr⟩ := hrel
    have Hig := Lib.hid hig
    have Ho := Lib.hid ho
    have hin : i ≤ m := by omega
    clear hig ho
    by_cases hlt : i < m
    · obtain ⟨b, off, e, rfl, hb, hge, hei, hrg⟩ := HE.out i hlt
      have hrg' := range_below hrg (hb1.trans (hbr.mono (by omega))) hb
      have Hrg := Lib.hid hrg'
      have Hls : Hid (logL base es (i + 1) = logL base es i ++ [entL (base + i + 1) e]) := by
        unfold Hid
        rw [logL_succ, hge]
      have hidx : In64 (base + (i : Int) + 1) := by unfold In64; omega
      have hll := entL_len hidx hei
      have hhl := headL_len hidx hei.term
      have hbase0 : w.heap.size < wr.heap.size := by have := hbr.size; omega
      -- the local that the entry is copied into
      have HL : Hid (∀ w5, w5.heap[wr.heap.size]? = some (.cells e.cells.toArray 64 (0, 0)) → Below wr.heap.size wr w5 → w5.heap.size = wr.heap.size + 1 → ∀ w', Below w5.heap.size w5 w' →
          w'.cell? ⟨w.heap.size, 3, none⟩ = some (.int .i64 base) ∧ w'.cell? ⟨wr.heap.size, 0, none⟩ = some (.int .i64 e.term) ∧ w'.cell? ⟨wr.heap.size, 1, none⟩ = some (.int .i64 e.kind) ∧ w'.cell? ⟨wr.heap.size, 2, none⟩ = some (.int .i64 e.client) ∧
          w'.cell? ⟨wr.heap.size, 3, none⟩ = some (.int .i64 e.seq) ∧ w'.cell? ⟨wr.heap.size, 12, none⟩ = some (.int .i64 e.full) ∧ w'.cell? ⟨wr.heap.size, 13, none⟩ = some (.int .i64 e.wit) ∧
          w'.cell? ⟨wr.heap.size, 14, none⟩ = some (.int .i64 e.learn) ∧ w'.cell? ⟨wr.heap.size, 15, none⟩ = some (.int .i64 e.lw)) := fun w5 q5 hb5 hz5 w' hb' => by
        have hbw : Below W1.heap.size W1 w' := bstep (bstep hbr hb5) hb'
        have q := (hb'.block wr.heap.size (by omega)).trans q5
        exact ⟨(Hrow.out _ hbw).1, cell_list q 0 _ rfl, cell_list q 1 _ rfl, cell_list q 2 _ rfl, cell_list q 3 _ rfl, cell_list q 12 _ rfl, cell_list q 13 _ rfl, cell_list q 14 _ rfl, cell_list q 15 _ rfl⟩
      have HN : Hid (∀ v w', In64 v → Below W1.heap.size W1 w' → Calls Tryd.prog 31 #[.int .i64 v] w' fun e w'' => e = .returned (.string ⟨(Lib.itoa v).toArray⟩) ∧ Below w'.heap.size w' w'') := fun v w' hv hb => rn_any v w' hv (HI.out.below (hb1.trans (hb.mono (by omega))))
      have HW2 : Hid (∀ w6 : World, Calls Tryd.prog 30 #[.slice (some ⟨w6.heap.size, 0, none⟩) 2 2] (w6.alloc (.cells #[.string ⟨(Lib.itoa (base + (i : Int) + 1)).toArray⟩, .string ⟨(Lib.itoa e.term).toArray⟩] 9)) fun e' w' => e' = .returned (.string ⟨(headL (base + (i : Int) + 1) e.term).toArray⟩) ∧ Below w6.heap.size w6 w') := fun w6 =>
        words_lit [Lib.itoa (base + (i : Int) + 1), Lib.itoa e.term] w6 (Nat.zero_lt_succ _) (show 2 ≤ 1000 by decide) (by unfold headL at hhl; omega)
      have wr1 : IntKind.i64.wrap (base + (i : Int)) = base + (i : Int) := IntWalk.i64_in _ (by omega)
      have wr2 : IntKind.i64.wrap (base + (i : Int) + 1) = base + (i : Int) + 1 := IntWalk.i64_in _ (by omega)
      have Hwr := Lib.hid (And.intro wr1 wr2)
      have HEi := Lib.hid hei
      have Hidx := Lib.hid hidx
      have Hll := Lib.hid hll
      clear wr1 wr2 hrg hrg' hge hei hidx hll hhl
      go_wp2_with (first
        | (refine Go.wpList_load_mid rfl 64 (.tmp 17) rfl b (off + i * 16) rfl e.cells _ Hrg.out Tryd.underlying64 rfl size16 ?_)
        | (refine wpList_store_local rfl 64 (.tmp 5) _ rfl e.cells rfl rfl size16 rfl e.cells_one ?_
           intro w5 q5 hb5 hz5
           have HS := Lib.hid (HL.out w5 q5 hb5 hz5)
           clear q5))
      have hbw5 : Below W1.heap.size W1 w5 := bstep hbr hb5
      have hb55 : Below w5.heap.size w5 w5 := Below.refl _ _
      have HN5 : Hid (∀ v w', In64 v → Below w5.heap.size w5 w' → Calls Tryd.prog 31 #[.int .i64 v] w' fun e w'' => e = .returned (.string ⟨(Lib.itoa v).toArray⟩) ∧ Below w'.heap.size w' w'') := fun v w' hv hb => HN.out v w' hv (bstep hbw5 hb)
      obtain ⟨wr1, wr2⟩ := Hwr.out
      have hidx := Hidx.out
      have hterm := HEi.out.term
      have hclient := HEi.out.client
      have hseq := HEi.out.seq
      have hfull := HEi.out.full
      have hwit := HEi.out.wit
      have hlearn := HEi.out.learn
      have hlw := HEi.out.lw
      have hll := Hll.out
      have hwe : Hid (entL (base + (i : Int) + 1) e = if e.kind = 0 then wordsL [headL (base + (i : Int) + 1) e.term, [110, 111, 110, 101]]
          else if e.kind = 1 then wordsL [headL (base + (i : Int) + 1) e.term, [99, 97, 108, 108], Lib.itoa e.client, Lib.itoa e.seq]
          else if e.kind = 2 then wordsL [headL (base + (i : Int) + 1) e.term, [99, 111, 110, 102], Lib.itoa e.full, Lib.itoa e.wit, Lib.itoa e.learn, Lib.itoa e.lw]
          else wordsL [headL (base + (i : Int) + 1) e.term, [63]]) := rfl
      obtain ⟨hd, hhd⟩ : ∃ hd, headL (base + (i : Int) + 1) e.term = hd := ⟨_, rfl⟩
      obtain ⟨ln, hln⟩ : ∃ ln, entL (base + (i : Int) + 1) e = ln := ⟨_, rfl⟩
      rw [hhd] at HW2 hwe
      rw [hln] at hwe Hls hll
      obtain ⟨HB, hHB⟩ : ∃ HB, (⟨hd.toArray⟩ : ByteArray) = HB := ⟨_, rfl⟩
      rw [hHB] at HW2
      have HHB := Lib.hid hHB
      have HLn : Hid (ln.length ≤ 1000) := hll
      obtain ⟨y0, y1, y2, y3, y4, y5, y6, y7, y8⟩ := HS.out _ hb55
      clear HEi Hidx Hll HN Hwr HL hhd hln hHB hll
      go_region_held3 (fun w' => w'.cell? ⟨w.heap.size, 3, none⟩ = some (.int .i64 base) ∧ w'.cell? ⟨wr.heap.size, 0, none⟩ = some (.int .i64 e.term))
        ((first | assumption | exact ⟨(HS.out _ (by assumption)).1, (HS.out _ (by assumption)).2.1⟩ | exact ⟨(HS.out _ (Below.drew (by assumption))).1, (HS.out _ (Below.drew (by assumption))).2.1⟩ | exact ⟨(HS.out _ (Below.alloc (by assumption) (Below.size (by assumption)) _)).1, (HS.out _ (Below.alloc (by assumption) (Below.size (by assumption)) _)).2.1⟩))
        ((first
          | (go_at_call 31
             refine (HN5.out _ _ (by assumption) (by first | assumption | exact Below.drew (by assumption))).mono ?_
             rintro e6 w6 ⟨rfl, hb6⟩
             have hbc6 : Below w5.heap.size w5 w6 := Below.trans (by first | assumption | exact Below.drew (by assumption)) (hb6.mono (Below.size (by first | assumption | exact Below.drew (by assumption)))))
          | (go_at_call 30
             refine (HW2.out _).mono ?_
             rintro e9 w9 ⟨rfl, hb9⟩
             have hbc9 : Below w5.heap.size w5 w9 := Below.trans (by first | assumption | exact Below.drew (by assumption)) (hb9.mono (Below.size (by first | assumption | exact Below.drew (by assumption)))))))
      have hxx9 : Below w5.heap.size w5 w9 := hbc9
      clear hbc6 y0 y1 y2 y3 y4 y5 y6 y7 y8 wr1 wr2
      obtain ⟨y0, y1, y2, y3, y4, y5, y6, y7, y8⟩ := HS.out _ hxx9
      clear hbc9 hb55 HW2
      have HZ : Hid (∀ us : List (List UInt8), ln = wordsL us → 0 < us.length → us.length ≤ 1000 → ∀ w6 : World, Calls Tryd.prog 30 #[.slice (some ⟨w6.heap.size, 0, none⟩) us.length us.length] (w6.alloc (.cells (us.map sV).toArray 9)) fun e' w' => e' = .returned (.string ⟨ln.toArray⟩) ∧ Below w6.heap.size w6 w') := fun us h1 h2 h3 w6 => by
        have := words_lit us w6 h2 h3 (by rw [← h1]; have := HLn.out; omega)
        rw [← h1] at this
        exact this
      obtain ⟨LB, hLB⟩ : ∃ LB, (⟨ln.toArray⟩ : ByteArray) = LB := ⟨_, rfl⟩
      rw [hLB] at HZ
      have HLB := Lib.hid hLB
      have hHB2 := HHB.out
      rcases Decidable.em (e.kind = 0) with hk0 | hk0
      case' inl =>
        have HWz : Hid (∀ w6 : World, Calls Tryd.prog 30 #[.slice (some ⟨w6.heap.size, 0, none⟩) 2 2] (w6.alloc (.cells #[.string HB, .string ⟨#[110, 111, 110, 101]⟩] 9)) fun e' w' => e' = .returned (.string LB) ∧ Below w6.heap.size w6 w') := fun w6 => by
          rw [← hHB2]
          exact HZ.out [hd, [110, 111, 110, 101]] (by rw [hwe.out, if_pos hk0]) (Nat.zero_lt_succ _) (show 2 ≤ 1000 by decide) w6
        rw [hk0] at y2
        clear hLB hHB2 hk0 hwe
        go_wp2_with fail
        refine (HWz.out _).mono ?_
        rintro e9 wz ⟨rfl, hbz0⟩
        have hbz : Below w5.heap.size w5 wz := bstep hxx9 hbz0
      case' inr => rcases Decidable.em (e.kind = 1) with hk1 | hk1
      case' inr.inl =>
        have HWz : Hid (∀ w6 : World, Calls Tryd.prog 30 #[.slice (some ⟨w6.heap.size, 0, none⟩) 4 4] (w6.alloc (.cells #[.string HB, .string ⟨#[99, 97, 108, 108]⟩, .string ⟨(Lib.itoa e.client).toArray⟩, .string ⟨(Lib.itoa e.seq).toArray⟩] 9)) fun e' w' => e' = .returned (.string LB) ∧ Below w6.heap.size w6 w') := fun w6 => by
          rw [← hHB2]
          exact HZ.out [hd, [99, 97, 108, 108], Lib.itoa e.client, Lib.itoa e.seq] (by rw [hwe.out, if_neg hk0, if_pos hk1]) (Nat.zero_lt_succ _) (show 4 ≤ 1000 by decide) w6
        rw [hk1] at y2
        clear hLB hHB2 hk0 hk1 hwe
        go_wp2_with fail
        go_region_held3 (fun w' => w'.cell? ⟨wr.heap.size, 2, none⟩ = some (.int .i64 e.client) ∧ w'.cell? ⟨wr.heap.size, 3, none⟩ = some (.int .i64 e.seq))
          ((first | assumption | exact ⟨(HS.out _ (by assumption)).2.2.2.1, (HS.out _ (by assumption)).2.2.2.2.1⟩ | exact ⟨(HS.out _ (Below.drew (by assumption))).2.2.2.1, (HS.out _ (Below.drew (by assumption))).2.2.2.2.1⟩ | exact ⟨(HS.out _ (Below.alloc (by assumption) (Below.size (by assumption)) _)).2.2.2.1, (HS.out _ (Below.alloc (by assumption) (Below.size (by assumption)) _)).2.2.2.2.1⟩))
          ((first
            | (go_at_call 31
               refine (HN5.out _ _ (by assumption) (by first | assumption | exact Below.drew (by assumption))).mono ?_
               rintro e6 w6 ⟨rfl, hb6⟩
               have hbc6 : Below w5.heap.size w5 w6 := Below.trans (by first | assumption | exact Below.drew (by assumption)) (hb6.mono (Below.size (by first | assumption | exact Below.drew (by assumption)))))
            | (go_at_call 30
               refine (HWz.out _).mono ?_
               rintro e9 wz ⟨rfl, hbz0⟩
               have hbz : Below w5.heap.size w5 wz := Below.trans (by first | assumption | exact Below.drew (by assumption)) (hbz0.mono (Below.size (by first | assumption | exact Below.drew (by assumption)))))))
      case' inr.inr => rcases Decidable.em (e.kind = 2) with hk2 | hk2
      case' inr.inr.inl =>
        have HWz : Hid (∀ w6 : World, Calls Tryd.prog 30 #[.slice (some ⟨w6.heap.size, 0, none⟩) 6 6] (w6.alloc (.cells #[.string HB, .string ⟨#[99, 111, 110, 102]⟩, .string ⟨(Lib.itoa e.full).toArray⟩, .string ⟨(Lib.itoa e.wit).toArray⟩, .string ⟨(Lib.itoa e.learn).toArray⟩, .string ⟨(Lib.itoa e.lw).toArray⟩] 9)) fun e' w' => e' = .returned (.string LB) ∧ Below w6.heap.size w6 w') := fun w6 => by
          rw [← hHB2]
          exact HZ.out [hd, [99, 111, 110, 102], Lib.itoa e.full, Lib.itoa e.wit, Lib.itoa e.learn, Lib.itoa e.lw] (by rw [hwe.out, if_neg hk0, if_neg hk1, if_pos hk2]) (Nat.zero_lt_succ _) (show 6 ≤ 1000 by decide) w6
        rw [hk2] at y2
        clear hLB hHB2 hk0 hk1 hk2 hwe
        go_wp2_with fail
        go_region_held3 (fun w' => w'.cell? ⟨wr.heap.size, 12, none⟩ = some (.int .i64 e.full) ∧ w'.cell? ⟨wr.heap.size, 13, none⟩ = some (.int .i64 e.wit) ∧ w'.cell? ⟨wr.heap.size, 14, none⟩ = some (.int .i64 e.learn) ∧ w'.cell? ⟨wr.heap.size, 15, none⟩ = some (.int .i64 e.lw))
          ((first | assumption | exact (HS.out _ (by assumption)).2.2.2.2.2 | exact (HS.out _ (Below.drew (by assumption))).2.2.2.2.2 | exact (HS.out _ (Below.alloc (by assumption) (Below.size (by assumption)) _)).2.2.2.2.2))
          ((first
            | (go_at_call 31
               refine (HN5.out _ _ (by assumption) (by first | assumption | exact Below.drew (by assumption))).mono ?_
               rintro e6 w6 ⟨rfl, hb6⟩
               have hbc6 : Below w5.heap.size w5 w6 := Below.trans (by first | assumption | exact Below.drew (by assumption)) (hb6.mono (Below.size (by first | assumption | exact Below.drew (by assumption)))))
            | (go_at_call 30
               refine (HWz.out _).mono ?_
               rintro e9 wz ⟨rfl, hbz0⟩
               have hbz : Below w5.heap.size w5 wz := Below.trans (by first | assumption | exact Below.drew (by assumption)) (hbz0.mono (Below.size (by first | assumption | exact Below.drew (by assumption)))))))
      case' inr.inr.inr =>
        have HWz : Hid (∀ w6 : World, Calls Tryd.prog 30 #[.slice (some ⟨w6.heap.size, 0, none⟩) 2 2] (w6.alloc (.cells #[.string HB, .string ⟨#[63]⟩] 9)) fun e' w' => e' = .returned (.string LB) ∧ Below w6.heap.size w6 w') := fun w6 => by
          rw [← hHB2]
          exact HZ.out [hd, [63]] (by rw [hwe.out, if_neg hk0, if_neg hk1, if_neg hk2]) (Nat.zero_lt_succ _) (show 2 ≤ 1000 by decide) w6
        have g0 : (e.kind == 0) = false := by simpa using hk0
        have g1 : (e.kind == 1) = false := by simpa using hk1
        have g2 : (e.kind == 2) = false := by simpa using hk2
        clear hLB hHB2 hk0 hk1 hk2 hwe
        go_wp2_with fail
        refine (HWz.out _).mono ?_
        rintro e9 wz ⟨rfl, hbz0⟩
        have hbz : Below w5.heap.size w5 wz := bstep hxx9 hbz0
      all_goals
        have Hbz := Lib.hid (bstep hbw5 hbz)
        have Hoz : Hid (OwnS wz W1.heap.size u3 (logL base es i)) := own_below Ho.out (bstep hb5 hbz)
        have HRd : Hid (∀ w7 : World, Rd (w7.alloc (.cells #[.string LB] 9)) (w7.heap.size + 1) 1 (some ⟨w7.heap.size, 0, none⟩) 1 1 [sV ln]) := fun w7 => by
          rw [← HLB.out]
          exact rd_one w7 _ _
        clear y0 y1 y2 y3 y4 y5 y6 y7 y8 hxx9 hbz hterm hclient hseq hfull hwit hlearn hlw hidx
        go_wp2_with (at_builtin
                     refine wpList_appS rfl (.tmp 75) (.tmp 77) rfl W1.heap.size u3 _ rfl (World.ownsRow.alloc Hoz.out _) (wz.heap.size + 1) wz.heap.size _ rfl (HRd.out wz) ?c1 ?c2 ?_
                     case c1 => rw [logL_len]; omega
                     case c2 => simp; have := Hbz.out.size; omega
                     intro v10 w10 ho10 hg10 ha10
                     have hbw10 : Below W1.heap.size W1 w10 := (Hbz.out.alloc Hbz.out.size _).grown hg10 (by simp; have := Hbz.out.size; omega) (fun q hq => (World.ownsRow.lt Hoz.out q hq).1)
                     have Ho10 := Lib.hid ho10
                     clear ho10 hg10 ha10)
        go_roundg (gk - 1)
      all_goals first
        | exact ⟨i + 1, by have := Hig.out; omega, by go_num, by rw [Hls.out]; exact Ho10.out, hbw10⟩
        | (have := Hig.out; omega)
    · obtain rfl : i = m := by omega
      go_wp2_with fail
      exact HF.out _ _ (own_base Ho.out (by omega)) (hb1.trans (hbr.mono (by omega)))
end Go.Proofs.YtkckncggiicciaaDoor
