/-
  The walk of report.Replica.
-/
import Derived.Test.YtkckncggiicciaaDoorRrep
namespace Go.Proofs.YtkckncggiicciaaDoor
open Go.RowKit
set_option maxRecDepth 100000
theorem rd_lits (w : World) (us : List Value) (e : TypeId) (hm : us.length ≤ 100000) : Rd (w.alloc (.cells us.toArray e)) (w.heap.size + 1) 1 (some ⟨w.heap.size, 0, none⟩) us.length us.length us := by
  refine ⟨by omega, Nat.le_refl _, by unfold maxLen; omega, fun _ => ⟨w.heap.size, 0, rfl, by omega, fun j y hy => ?_⟩⟩
  rw [Nat.zero_add, cell_of_row _ _ _ _ _ _ (heap_alloc_new w _)]
  simpa using hy
theorem words_lit (us : List (List UInt8)) (w : World) (h0 : 0 < us.length) (hz : us.length ≤ 1000) (hl : (wordsL us).length ≤ 1000000) :
    Calls Tryd.prog 30 #[.slice (some ⟨w.heap.size, 0, none⟩) us.length us.length] (w.alloc (.cells (us.map sV).toArray 9)) fun e w' => e = .returned (sV (wordsL us)) ∧ Below w.heap.size w w' := by
  have hr := rd_lits w (us.map sV) 9 (by rw [List.length_map]; omega)
  have := words_any _ us.length us.length us (w.alloc (.cells (us.map sV).toArray 9)) h0 (by
    have e : (w.alloc (.cells (us.map sV).toArray 9)).heap.size = w.heap.size + 1 := by simp
    rw [e]
    rw [List.length_map] at hr
    exact hr) hz hl
  exact this.mono fun _ _ ⟨h1, h2⟩ => ⟨h1, (((Below.refl _ _).alloc (Nat.le_refl _) _).trans (h2.mono (by simp)))⟩
theorem bstep {a w w' : World} (h : Below a.heap.size a w) (hb : Below w.heap.size w w') : Below a.heap.size a w' := h.trans (hb.mono h.size)
theorem LogAt.below {w w' : World} {A : Option Addr} {m c : Nat} (h : LogAt w A m c) (hb : Below w.heap.size w w') : LogAt w' A m c := by
  obtain ⟨h1, h2, h3⟩ := h
  refine ⟨h1, h2, fun hm => ?_⟩
  obtain ⟨b, off, t, e, hlt, hc⟩ := h3 hm
  exact ⟨b, off, t, e, Nat.lt_of_lt_of_le hlt hb.size, (hb.cell (p := ⟨b, _, none⟩) hlt).trans hc⟩
/-- What is told of the last index. -/
def lastT (base : Int) (m : Nat) : List UInt8 := if logB base = true then Lib.itoa (base + m) else [63]
/-- A replica's line. -/
def repL (id role term lead commit base : Int) (last : List UInt8) : List UInt8 :=
  wordsL [[110, 111, 100, 101], Lib.itoa id, [114, 111, 108, 101], Lib.itoa role, [116, 101, 114, 109], Lib.itoa term, [108, 101, 97, 100], Lib.itoa lead, [99, 111, 109, 109, 105, 116], Lib.itoa commit, [98, 97, 115, 101], Lib.itoa base, [108, 97, 115, 116], last]
theorem repL_len (id role term lead commit base : Int) (last : List UInt8) (h1 : In64 id) (h2 : In64 role) (h3 : In64 term) (h4 : In64 lead) (h5 : In64 commit) (h6 : In64 base) (h7 : last.length ≤ 21) : (repL id role term lead commit base last).length ≤ 1000 := by
  have q1 := Lib.itoa_length_le id h1.1 h1.2
  have q2 := Lib.itoa_length_le role h2.1 h2.2
  have q3 := Lib.itoa_length_le term h3.1 h3.2
  have q4 := Lib.itoa_length_le lead h4.1 h4.2
  have q5 := Lib.itoa_length_le commit h5.1 h5.2
  have q6 := Lib.itoa_length_le base h6.1 h6.2
  unfold repL wordsL
  rw [Lib.join_cons]
  simp [Lib.joinTail]
  omega
theorem size10 : (Tryd.prog.info? 29).map (·.size) = some 10 := by kernel_rfl
/-- The part of a replica that must not be forgotten. -/
def hardC (x : List Value) : List Value := (x.drop 1).take 10
theorem hardC_at (x : List Value) (j : Nat) (hj : j < 10) : (hardC x)[j]? = x[j + 1]? := by
  unfold hardC
  rw [List.getElem?_take, if_pos hj, List.getElem?_drop, Nat.add_comm]
set_option maxHeartbeats 3200000 in
theorem Replica_any (x : List Value) (id term base bt commit role lead : Int) (A : Option Addr) (m c : Nat) (w : World) (hr : RfAt x id term base bt commit role lead (.slice A m c)) (hl : LogAt w A m c)
    (h1 : In64 id) (h2 : In64 role) (h3 : In64 term) (h4 : In64 lead) (h5 : In64 commit) (h6 : In64 base) (hI : ItAt w) :
    Calls Tryd.prog 13 #[.agg x.toArray] w fun e w' => e = .returned (sV (repL id role term lead commit base (lastT base m))) ∧ Below w.heap.size w w' := by
  have hmz : m ≤ 1000000 := hl.2.1
  have hlast : (lastT base m).length ≤ 21 ∧ (logB base = true → In64 (base + m)) := by
    unfold lastT
    split
    · rename_i hb
      have hbb : 0 ≤ base ∧ base ≤ 1099511627776 := by
        unfold logB at hb
        simpa using hb
      have : In64 (base + m) := by unfold In64; omega
      exact ⟨Lib.itoa_length_le _ this.1 this.2, fun _ => this⟩
    · rename_i hb
      exact ⟨by decide, fun h => absurd h hb⟩
  have hlen := repL_len id role term lead commit base (lastT base m) h1 h2 h3 h4 h5 h6 hlast.1
  obtain ⟨W1, hW1⟩ : ∃ W1, w.alloc (.cells x.toArray 33) = W1 := ⟨_, rfl⟩
  have hb1 : Below w.heap.size w W1 := by rw [← hW1]; exact alloc_below w _
  have hz1 : W1.heap.size = w.heap.size + 1 := by rw [← hW1]; simp
  have hrow : W1.heap[w.heap.size]? = some (.cells x.toArray 33 (0, 0)) := by rw [← hW1]; exact heap_alloc_new w _
  have Hrow : Hid (∀ w', Below W1.heap.size W1 w' → w'.cell? ⟨w.heap.size, 0, none⟩ = some (.int .i64 id) ∧ w'.cell? ⟨w.heap.size, 12, none⟩ = some (.int .i64 role) ∧ w'.cell? ⟨w.heap.size, 1, none⟩ = some (.int .i64 term) ∧
      w'.cell? ⟨w.heap.size, 13, none⟩ = some (.int .i64 lead) ∧ w'.cell? ⟨w.heap.size, 11, none⟩ = some (.int .i64 commit) ∧ w'.cell? ⟨w.heap.size, 3, none⟩ = some (.int .i64 base)) := fun w' hb => by
    have q := (hb.block w.heap.size (by omega)).trans hrow
    exact ⟨cell_list q _ _ hr.id, cell_list q _ _ hr.role, cell_list q _ _ hr.term, cell_list q _ _ hr.lead, cell_list q _ _ hr.commit, cell_list q _ _ hr.base⟩
  have HRg : Hid (∀ w', Below W1.heap.size W1 w' → w'.rangeAt w.heap.size 1 (hardC x)) := fun w' hb j v hj => by
    have q := (hb.block w.heap.size (by omega)).trans hrow
    have hj10 : j < 10 := by
      have := (List.getElem?_eq_some_iff.1 hj).1
      unfold hardC at this
      simp at this
      omega
    rw [hardC_at x j hj10] at hj
    rw [Nat.add_comm 1 j]
    exact cell_list q _ _ hj
  have Hsz : Hid ((Tryd.prog.info? 33).map (·.size) = some x.toArray.size) := by unfold Hid; rw [List.size_toArray, hr.len]; exact size40
  have Hsz2 : Hid ((Tryd.prog.info? 29).map (·.size) = some (hardC x).length) := by
    unfold Hid
    have : (hardC x).length = 10 := by unfold hardC; rw [List.length_take, List.length_drop, hr.len]; rfl
    rw [this]
    exact size10
  have HH : Hid (∀ w', Calls Tryd.prog 35 #[.agg x.toArray] w' fun e w'' => e = .returned (.bool (logB base)) ∧ Below w'.heap.size w' w'') := fun w' => has_any x base w' hr.base
  have HN : Hid (∀ v w', In64 v → Below W1.heap.size W1 w' → Calls Tryd.prog 31 #[.int .i64 v] w' fun e w'' => e = .returned (.string ⟨(Lib.itoa v).toArray⟩) ∧ Below w'.heap.size w' w'') := fun v w' hv hb => rn_any v w' hv (hI.below (hb1.trans (hb.mono (by omega))))
  have HW : Hid (∀ w6 : World, Calls Tryd.prog 30 #[.slice (some ⟨w6.heap.size, 0, none⟩) 14 14] (w6.alloc (.cells #[.string ⟨#[110, 111, 100, 101]⟩, .string ⟨(Lib.itoa id).toArray⟩, .string ⟨#[114, 111, 108, 101]⟩, .string ⟨(Lib.itoa role).toArray⟩, .string ⟨#[116, 101, 114, 109]⟩, .string ⟨(Lib.itoa term).toArray⟩, .string ⟨#[108, 101, 97, 100]⟩, .string ⟨(Lib.itoa lead).toArray⟩, .string ⟨#[99, 111, 109, 109, 105, 116]⟩, .string ⟨(Lib.itoa commit).toArray⟩, .string ⟨#[98, 97, 115, 101]⟩, .string ⟨(Lib.itoa base).toArray⟩, .string ⟨#[108, 97, 115, 116]⟩, .string ⟨(lastT base m).toArray⟩] 9))
      fun e w' => e = .returned (.string ⟨(repL id role term lead commit base (lastT base m)).toArray⟩) ∧ Below w6.heap.size w6 w') := fun w6 => words_lit [[110, 111, 100, 101], Lib.itoa id, [114, 111, 108, 101], Lib.itoa role, [116, 101, 114, 109], Lib.itoa term, [108, 101, 97, 100], Lib.itoa lead, [99, 111, 109, 109, 105, 116], Lib.itoa commit, [98, 97, 115, 101], Lib.itoa base, [108, 97, 115, 116], lastT base m] w6 (Nat.zero_lt_succ _) (show 14 ≤ 1000 by decide) (by unfold repL at hlen; omega)
  have HL : Hid (logB base = true → ∀ w', Below W1.heap.size W1 w' → Calls Tryd.prog 36 #[.agg (hardC x).toArray] w' (LastPost (base + m) w')) := fun hb w' hbw => by
    have hbb : 0 ≤ base ∧ base ≤ 1099511627776 := by
      unfold logB at hb
      simpa using hb
    exact Last_any (hardC x) base bt A m c w' ((hardC_at x 2 (by omega)).trans hr.base) ((hardC_at x 3 (by omega)).trans hr.bt) ((hardC_at x 9 (by omega)).trans hr.log) (hl.below (hb1.trans (hbw.mono (by omega)))) hbb.1 hbb.2
  have HLT : Hid (lastT base m = if logB base = true then Lib.itoa (base + m) else [63]) := rfl
  have Hl64 := Lib.hid hlast.2
  unfold sV
  obtain ⟨LT, hLT⟩ : ∃ LT, lastT base m = LT := ⟨_, rfl⟩
  rw [hLT] at HW HLT ⊢
  obtain ⟨RS, hRS⟩ : ∃ RS, (⟨(repL id role term lead commit base LT).toArray⟩ : ByteArray) = RS := ⟨_, rfl⟩
  rw [hRS] at HW ⊢
  have HW1 := Lib.hid hW1
  have hbc : Below W1.heap.size W1 W1 := Below.refl _ _
  clear hW1 hrow hlen hlast hLT hRS hI hl hr hmz
  obtain ⟨mi, hmi⟩ : ∃ mi : Int, base + m = mi := ⟨_, rfl⟩
  rw [hmi] at HL HLT Hl64
  clear hmi
  go_enter Tryd.func13, Tryd.ntmps13
  go_wp2_with ((refine wpList_load_row rfl 33 (.tmp 1) rfl w.heap.size rfl 33 x.toArray (0, 0) _ (heap_alloc_new w _) Tryd.underlying33 rfl Hsz.out ?_; rw [HW1.out]))
  refine (HH.out _).mono ?_
  rintro e w2 ⟨rfl, hb2⟩
  have hbc2 := bstep hbc hb2
  clear hb2 hbc HH
  cases hB : logB base
  case' true =>
    have hLT : LT = Lib.itoa mi := by
      have := HLT.out
      rwa [if_pos hB] at this
    subst hLT
    have HL2 := Lib.hid (HL.out hB)
    have hm64 := Hl64.out hB
    clear hB HL Hl64 HLT
    go_wp2_with (refine Go.wpList_load_mid rfl 29 (.tmp 9) rfl w.heap.size 1 rfl (hardC x) _ (HRg.out _ hbc2) Tryd.underlying29 rfl Hsz2.out ?_)
    refine (HL2.out _ hbc2).mono ?_
    rintro e w3 ⟨⟨t, rfl⟩, hb3⟩
    have hbc3 := bstep hbc2 hb3
    clear hb3 hbc2
    go_wp2_with fail
    refine (HN.out _ _ hm64 hbc3).mono ?_
    rintro e w4 ⟨rfl, hb4⟩
    have hbc4 := bstep hbc3 hb4
    clear hb4 hbc3 hm64 HL2
    go_wp2_with fail
  case' false =>
    have hLT : LT = [63] := by
      have := HLT.out
      rwa [if_neg (by rw [hB]; decide)] at this
    subst hLT
    clear hB HL Hl64 HLT
    have hbc4 := hbc2
    clear hbc2
    go_wp2_with fail
  all_goals
    obtain ⟨y0, y1, y2, y3, y4, y5⟩ := Hrow.out _ hbc4
    go_region_held3 (fun w' => w'.cell? ⟨w.heap.size, 0, none⟩ = some (.int .i64 id) ∧ w'.cell? ⟨w.heap.size, 12, none⟩ = some (.int .i64 role) ∧ w'.cell? ⟨w.heap.size, 1, none⟩ = some (.int .i64 term) ∧
        w'.cell? ⟨w.heap.size, 13, none⟩ = some (.int .i64 lead) ∧ w'.cell? ⟨w.heap.size, 11, none⟩ = some (.int .i64 commit) ∧ w'.cell? ⟨w.heap.size, 3, none⟩ = some (.int .i64 base))
      ((first | assumption | exact Hrow.out _ (by assumption) | exact Hrow.out _ (Below.drew (by assumption)) | exact Hrow.out _ (Below.alloc (by assumption) (Below.size (by assumption)) _)))
      ((first
        | (go_at_call 31
           refine (HN.out _ _ (by assumption) (by first | assumption | exact Below.drew (by assumption))).mono ?_
           rintro e w6 ⟨rfl, hb6⟩
           have hbc6 : Below W1.heap.size W1 w6 := Below.trans (by first | assumption | exact Below.drew (by assumption)) (hb6.mono (Below.size (by first | assumption | exact Below.drew (by assumption)))))
        | (go_at_call 30
           refine (HW.out _).mono ?_
           rintro e w9 ⟨rfl, hb9⟩
           have hbc9 : Below W1.heap.size W1 w9 := Below.trans (by first | assumption | exact Below.drew (by assumption)) (hb9.mono (Below.size (by first | assumption | exact Below.drew (by assumption)))))))
    all_goals
      go_wp2_with fail
      go_ret
      exact ⟨rfl, hb1.trans (hbc9.mono (by omega))⟩
end Go.Proofs.YtkckncggiicciaaDoor
