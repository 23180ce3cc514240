/-
  Is more handed in than is played? The walks.
-/
import Derived.Test.YtkckncggiicciaaDoorRent
namespace Go.Proofs.YtkckncggiicciaaDoor
open Go.RowKit
set_option maxRecDepth 100000
def En.cmd (e : En) : List Value := [.int .i64 e.ck, .string e.key, .int .i64 e.old.k, .float .f64 e.old.x, .string e.old.s, .int .i64 e.val.k, .float .f64 e.val.x, .string e.val.s]
theorem size8 : (Tryd.prog.info? 60).map (·.size) = some 8 := by kernel_rfl
theorem cmd_range {w : World} {b o : Nat} {e : En} (h : w.rangeAt b o e.cells) : w.rangeAt b (o + 4) e.cmd := fun j v hj => by
  rw [Nat.add_assoc]
  refine h (4 + j) v ?_
  rw [← hj]
  have hj8 : j < 8 := (List.getElem?_eq_some_iff.1 hj).1
  have : j = 0 ∨ j = 1 ∨ j = 2 ∨ j = 3 ∨ j = 4 ∨ j = 5 ∨ j = 6 ∨ j = 7 := by omega
  rcases this with rfl | rfl | rfl | rfl | rfl | rfl | rfl | rfl <;> rfl
def cmdH (e : En) : Bool := decide (2000 < e.key.size) || (decide (2000 < e.old.s.size) || decide (2000 < e.val.s.size))
/-- Its strings are no longer than strings may be. -/
structure En.Str (e : En) : Prop where
  key : e.key.size ≤ maxLen
  old : e.old.s.size ≤ maxLen
  val : e.val.s.size ≤ maxLen
set_option maxHeartbeats 1600000 in
theorem HeavyCmd_any (e : En) (w : World) (hs : e.Str) : Calls Tryd.prog 52 #[.agg e.cmd.toArray] w fun e' w' => e' = .returned (.bool (cmdH e)) ∧ Below w.heap.size w w' := by
  obtain ⟨h1, h2, h3⟩ := hs
  have hob := alloc_below w (.cells e.cmd.toArray 60)
  unfold cmdH En.cmd at *
  obtain ⟨_, _, _, _, ck, key, ⟨ok, ox, os⟩, ⟨vk, vx, vs⟩, _, _, _, _⟩ := e
  dsimp only at *
  unfold maxLen at h1 h2 h3
  rcases Decidable.em (2000 < key.size) with g1 | g1
  case' inr => rcases Decidable.em (2000 < os.size) with g2 | g2
  case' inr.inr => rcases Decidable.em (2000 < vs.size) with g3 | g3
  all_goals
    try rw [decide_eq_true g1]
    try rw [decide_eq_false g1]
    try rw [decide_eq_true g2]
    try rw [decide_eq_false g2]
    try rw [decide_eq_true g3]
    try rw [decide_eq_false g3]
    go_enter Tryd.func52, Tryd.ntmps52
    go_wp2_with fail
    go_ret
    exact ⟨ret_bool (by simp <;> omega), hob⟩
def HvPost (m : Nat) (w : World) (e : Ending) (w' : World) : Prop := (∃ hb : Bool, e = .returned (.bool hb) ∧ (hb = false → m ≤ 200)) ∧ Below w.heap.size w w'
set_option maxHeartbeats 1600000 in
theorem HeavyEntries_any (A : Option Addr) (m c : Nat) (es : List En) (w : World) (hy : EnRows w w.heap.size A m c es) (hl : es.length = m) (hst : ∀ e ∈ es, e.Str) :
    Calls Tryd.prog 50 #[.slice A m c] w (HvPost m w) := by
  have hcap : m ≤ c := hy.2.1
  have hmx : c ≤ maxLen := hy.2.2.1
  unfold maxLen at hmx
  rcases Decidable.em (200 < m) with h2 | h2
  · have HP : Hid (HvPost m w (.returned (.bool true)) w) := ⟨⟨true, rfl, fun h => by cases h⟩, Below.refl _ _⟩
    obtain ⟨J, hJ⟩ : ∃ J, HvPost m w = J := ⟨_, rfl⟩
    rw [hJ] at HP ⊢
    clear hJ hy hl hst
    go_enter Tryd.func50, Tryd.ntmps50
    go_wp2_with fail
    exact HP.out
  have HP : Hid (∀ hb w', Below w.heap.size w w' → HvPost m w (.returned (.bool hb)) w') := fun hb w' h => ⟨⟨hb, rfl, fun _ => by omega⟩, h⟩
  have HE : Hid (∀ i, i < m → ∃ b off e, A = some ⟨b, off, none⟩ ∧ b < w.heap.size ∧ e.Str ∧ w.rangeAt b (off + i * 16 + 4) (En.cmd e)) := fun i hi => by
    obtain ⟨b, off, e, q1, q2, q3, q4, q5, q6⟩ := en_row hy hl hi
    exact ⟨b, off, e, q1, q2, hst e q5, cmd_range q6⟩
  obtain ⟨J, hJ⟩ : ∃ J, HvPost m w = J := ⟨_, rfl⟩
  rw [hJ] at HP ⊢
  clear hJ hy hl hst
  go_enter Tryd.func50, Tryd.ntmps50
  go_wp2_with fail
  go_loopg [3] m (fun g s3 wr => ∃ i : Nat, i + g = m ∧ s3 = .int .i64 i ∧ Below w.heap.size w wr)
  case atStart => exact ⟨0, by omega, rfl, Below.refl _ _⟩
  case round =>
    obtain ⟨i, hig, rfl, hbr⟩ := hrel
    have Hig := Lib.hid hig
    have hin : i ≤ m := by omega
    clear hig
    by_cases hlt : i < m
    · obtain ⟨b, off, e, rfl, hb, hs, hrg⟩ := HE.out i hlt
      have hrg' := range_below hrg hbr hb
      have Hrg := Lib.hid hrg'
      have HC : Hid (∀ w', Calls Tryd.prog 52 #[.agg e.cmd.toArray] w' fun e' w'' => e' = .returned (.bool (cmdH e)) ∧ Below w'.heap.size w' w'') := fun w' => HeavyCmd_any e w' hs
      have hsz : (Tryd.prog.info? 60).map (·.size) = some e.cmd.length := size8
      have Hsz := Lib.hid hsz
      obtain ⟨hv, hhv⟩ : ∃ hv, cmdH e = hv := ⟨_, rfl⟩
      rw [hhv] at HC
      obtain ⟨cl, hcl⟩ : ∃ cl, e.cmd = cl := ⟨_, rfl⟩
      rw [hcl] at HC Hrg Hsz
      clear hrg hrg' hsz hhv hcl
      cases hv
      all_goals
        go_wp2_with (first
          | (refine Go.wpList_load_mid rfl 60 (.tmp 17) rfl b (off + i * 16 + 4) rfl cl _ Hrg.out Tryd.underlying60 rfl Hsz.out ?_)
          | (go_at_call 52
             refine (HC.out _).mono ?_
             rintro e' w2 ⟨rfl, hb2⟩))
      · have hbn := bstep hbr hb2
        clear hb2
        go_roundg (gk - 1)
        case rel => exact ⟨i + 1, by have := Hig.out; omega, by go_num, hbn⟩
        case measure => have := Hig.out; omega
      · exact HP.out _ _ (bstep hbr hb2)
    · go_wp2_with fail
      exact HP.out _ _ hbr
/-- A log that is kept, as it is handed in: its cells. -/
structure HdAt (x : List Value) (base bt : Int) (A : Option Addr) (m c : Nat) (S : Option Addr) (sn sc : Nat) : Prop where
  len : x.length = 10
  one : ∀ v ∈ x, v.oneCell' = true
  base : x[2]? = some (.int .i64 base)
  bt : x[3]? = some (.int .i64 bt)
  snap : x[8]? = some (.slice S sn sc)
  log : x[9]? = some (.slice A m c)
set_option maxHeartbeats 1600000 in
theorem Heavy_any (x : List Value) (base bt : Int) (A : Option Addr) (m c : Nat) (S : Option Addr) (sn sc : Nat) (es : List En) (w : World) (hx : HdAt x base bt A m c S sn sc) (hy : EnRows w w.heap.size A m c es) (hl : es.length = m) (hst : ∀ e ∈ es, e.Str) :
    Calls Tryd.prog 23 #[.agg x.toArray] w (HvPost m w) := by
  have hob := alloc_below w (.cells x.toArray 29)
  obtain ⟨W1, hW1⟩ : ∃ W1, w.alloc (.cells x.toArray 29) = W1 := ⟨_, rfl⟩
  rw [hW1] at hob
  have hrow : W1.heap[w.heap.size]? = some (.cells x.toArray 29 (0, 0)) := by rw [← hW1]; exact heap_alloc_new w _
  have hz1 : W1.heap.size = w.heap.size + 1 := by rw [← hW1]; simp
  have HH : Hid (Calls Tryd.prog 50 #[.slice A m c] W1 (HvPost m W1)) := HeavyEntries_any A m c es W1 ((Rd.below hy hob (Nat.le_refl _)).mono hob.size) hl hst
  have HP : Hid (∀ hb w', (hb = false → m ≤ 200) → Below w.heap.size w w' → HvPost m w (.returned (.bool hb)) w') := fun hb w' h1 h => ⟨⟨hb, rfl, h1⟩, h⟩
  have Hc : Hid (∀ w', Below W1.heap.size W1 w' → w'.cell? ⟨w.heap.size, 8, none⟩ = some (.slice S sn sc) ∧ w'.cell? ⟨w.heap.size, 9, none⟩ = some (.slice A m c)) := fun w' hb => by
    have q := (hb.block w.heap.size (by omega)).trans hrow
    exact ⟨cell_list q _ _ hx.snap, cell_list q _ _ hx.log⟩
  obtain ⟨J, hJ⟩ : ∃ J, HvPost m w = J := ⟨_, rfl⟩
  rw [hJ] at HP ⊢
  obtain ⟨y0, y1⟩ := Hc.out W1 (Below.refl _ _)
  have hx9 := hx.log
  have HW1 := Lib.hid hW1
  clear hW1 hJ hy hl hst hx hrow
  go_enter Tryd.func23, Tryd.ntmps23
  go_wp2_with fail
  rw [HW1.out]
  refine HH.out.mono ?_
  rintro e w2 ⟨⟨hb, rfl, hm⟩, hb2⟩
  obtain ⟨z0, z1⟩ := Hc.out w2 hb2
  have hbw := hob.trans (hb2.mono (by omega))
  have Hm := Lib.hid hm
  clear y0 y1 hb2 hx9 hm
  cases hb
  all_goals
    rcases Decidable.em (32768 < sn) with hbig | hbig
    all_goals
      go_wp2_with fail
      first
        | exact HP.out _ _ (fun _ => Hm.out (by trivial)) hbw
        | exact HP.out _ _ (fun _ => Hm.out) hbw
        | exact HP.out _ _ (fun h => by cases h) hbw
end Go.Proofs.YtkckncggiicciaaDoor
