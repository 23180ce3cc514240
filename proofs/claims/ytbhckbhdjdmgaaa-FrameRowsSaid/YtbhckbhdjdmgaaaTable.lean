/-
  The walks of frame.table and frame.more.
-/
import Derived.Test.YtbhckbhdjdmgaaaProg
import Derived.Test.YtbhckbhdjdmgaaaBits
import Derived.WalkSpells
import Derived.WalkLawsBesides
import Derived.Deep.LoopGhost
import Derived.Lib.Hide
namespace Go.Proofs.Ytbhckbhdjdmgaaa
open Go.RowKit
def zs : Array Value := Array.replicate 256 (.int .u32 0)
theorem zs_size : zs.size = 256 := by simp [zs]
theorem zs_ne : ¬ zs = #[] := by intro h; have := congrArg Array.size h; simp [zs_size] at this
theorem zeroV (w : World) : (zeroValue 53).run Try.prog w = .ok (.agg zs) w := by kernel_rfl
/-- The cells of the table, filled up to i. -/
def tabTo (cs : Array Value) (i : Nat) : Prop := cs.size = 256 ∧ (∀ j, j < 256 → ∃ u, cs[j]? = some (.int .u32 u)) ∧ ∀ j, j < i → cs[j]? = some (.int .u32 (Fr.tab j).toNat)
theorem tabTo_zero : tabTo zs 0 := ⟨zs_size, fun j hj => ⟨0, by simp [zs, hj]⟩, fun j hj => by omega⟩
theorem tabTo_set {cs : Array Value} {i : Nat} (h : tabTo cs i) (hi : i < 256) : tabTo (cs.setIfInBounds i (.int .u32 (Fr.tab i).toNat)) (i + 1) := by
  obtain ⟨h1, h2, h3⟩ := h
  refine ⟨by simpa using h1, fun j hj => ?_, fun j hj => ?_⟩
  · by_cases e : i = j
    · subst e; exact ⟨(Fr.tab i).toNat, by simp [h1, hi]⟩
    · obtain ⟨u, hu⟩ := h2 j hj
      exact ⟨u, by simpa [Array.getElem?_setIfInBounds, e] using hu⟩
  · by_cases e : i = j
    · subst e; simp [h1, hi]
    · simpa [Array.getElem?_setIfInBounds, e] using h3 j (by omega)
/-- The table as an array of values. -/
def tabA : Array Value := ((List.range 256).map fun i => (.int .u32 (Fr.tab i).toNat : Value)).toArray
theorem tabTo_full {cs : Array Value} (h : tabTo cs 256) : cs = tabA := by
  obtain ⟨h1, _, h3⟩ := h
  apply Array.ext_getElem?
  intro j
  by_cases hj : j < 256
  · rw [h3 j hj]; simp [tabA, hj]
  · rw [Array.getElem?_eq_none (by omega), Array.getElem?_eq_none (by simp [tabA]; omega)]
theorem tabA_size : tabA.size = 256 := by simp [tabA]
theorem tabA_all : tabA.all (·.oneCell') = true := by
  rw [Array.all_eq_true_iff_forall_mem]
  intro v hv
  simp only [tabA, List.mem_toArray, List.mem_map] at hv
  obtain ⟨i, _, rfl⟩ := hv
  rfl
theorem tabA_at {j : Nat} (hj : j < 256) : tabA[j]? = some (.int .u32 (Fr.tab j).toNat) := by simp [tabA, hj]

def TabRel (w : World) (wr : World) (i : Nat) : Prop :=
  Below w.heap.size w wr ∧ wr.heap.size = w.heap.size + 2 ∧ wr.heap[w.heap.size]? = some (.cells zs 53 (0, 0)) ∧
    ∃ cs, wr.heap[w.heap.size + 1]? = some (.cells cs 53 (0, 0)) ∧ tabTo cs i
theorem TabRel.start (w : World) : TabRel w ((w.alloc (.cells zs 53)).alloc (.cells zs 53)) 0 :=
  ⟨((Below.refl _ _).alloc (Nat.le_refl _) _).alloc (by simp) _, by simp, heap_alloc2_old _ _ _, zs, heap_alloc2_new _ _ _, tabTo_zero⟩
theorem TabRel.next {w wr : World} {i : Nat} (h : TabRel w wr i) (hi : i < 256) : TabRel w (wr.setCell ⟨w.heap.size + 1, i, none⟩ (.int .u32 (Fr.tab i).toNat)) (i + 1) := by
  obtain ⟨h1, h2, h3, cs, h4, h5⟩ := h
  refine ⟨h1.setCell (by simp) _, by simpa [World.setCell] using h2, by rw [heap_setCell_other _ _ _ _ (by simp)]; exact h3, _, heap_setCell_same _ _ _ _ _ _ h4, tabTo_set h5 hi⟩

set_option maxRecDepth 100000 in
set_option maxHeartbeats 400000 in
theorem table_any (w : World) : Calls Try.prog 30 #[] w fun e w' => e = .returned (.agg tabA) ∧ Below w.heap.size w w' := by
  have hz := zeroV
  have hne := zs_ne
  go_enter Try.func30, Try.ntmps30
  go_wp2_with fail
  go_loopg [5] 256 (fun n s5 wr => ∃ i : Nat, i + n = 256 ∧ s5 = .int .i64 i ∧ TabRel w wr i)
  case atStart => exact ⟨0, rfl, rfl, TabRel.start w⟩
  case round =>
    obtain ⟨i, hi, rfl, hr⟩ := hrel
    obtain ⟨gko, rfl⟩ : ∃ gko, gko = gk := ⟨_, rfl⟩
    have hle : i ≤ 256 := by omega
    by_cases hlt : i < 256
    · obtain ⟨u, hcell, hfro⟩ : ∃ u, wr.cell? ⟨w.heap.size + 1, i, none⟩ = some u ∧ wr.frozen? ⟨w.heap.size + 1, i, none⟩ = false := by
        obtain ⟨_, _, _, cs, h4, h5⟩ := hr
        obtain ⟨u, hu⟩ := h5.2.1 i hlt
        exact ⟨_, (cell_of_row _ _ _ _ _ _ h4).trans hu, frozen_of_row _ _ _ _ _ h4⟩
      have Hn := Lib.hid (hr.next hlt)
      clear hr
      have Hi := Lib.hid hi
      clear hi
      go_wp2_with fail
      go_loopg [3, 10] 8 (fun n s3 s10 wr1 => ∃ k : Nat, k + n = 8 ∧ s10 = .int .i64 k ∧ s3 = .int .u32 (Fr.stpn k (BitVec.ofNat 32 i)).toNat ∧ wr = wr1)
      case atStart =>
        refine ⟨0, rfl, rfl, ?_, rfl⟩
        have : i % 4294967296 = i := Nat.mod_eq_of_lt (by omega)
        simp [Fr.stpn, this]
      case round =>
        obtain ⟨k, hk, rfl, rfl, rfl⟩ := hrel
        have hk8 : k ≤ 8 := by omega
        have Hk := Lib.hid hk
        clear hk
        by_cases hk1 : k < 8
        · obtain ⟨S, HS⟩ : ∃ S, Hid (Fr.stpn k (BitVec.ofNat 32 i) = S) := ⟨_, rfl⟩
          rw [HS.out]
          have Hs : Hid (Fr.stpn (k + 1) (BitVec.ofNat 32 i) = Fr.stp S) := congrArg Fr.stp HS.out
          clear HS
          have hS := bv_lt S
          by_cases hb : S.getLsbD 0 = true
          · have ht := low_true hb
            have Hb := Lib.hid hb
            clear hb
            go_wp2_with fail
            go_roundg (gk - 1)
            case rel => exact ⟨k + 1, by have := Hk.out; omega, by go_num, val_int ((stp_true Hb.out).trans (by rw [Hs.out])), rfl⟩
            case measure => have := Hk.out; omega
          · have ht := low_false hb
            have Hb := Lib.hid hb
            clear hb
            go_wp2_with fail
            go_roundg (gk - 1)
            case rel => exact ⟨k + 1, by have := Hk.out; omega, by go_num, val_int ((stp_false Hb.out).trans (by rw [Hs.out])), rfl⟩
            case measure => have := Hk.out; omega
        · obtain rfl : k = 8 := by omega
          have hT : Fr.stpn 8 (BitVec.ofNat 32 i) = Fr.tab i := rfl
          rw [hT]
          clear hT
          go_wp2_with fail
          go_roundg (gko - 1)
          case rel => exact ⟨i + 1, by have := Hi.out; omega, by go_num, Hn.out⟩
          case measure => have := Hi.out; omega
    · obtain rfl : i = 256 := by omega
      obtain ⟨hb, _, h3, cs, h4, h5⟩ := hr
      obtain rfl := tabTo_full h5
      have Hb := Lib.hid hb
      clear hb h5
      go_wp2_with (first
        | refine wpList_load_row rfl _ _ rfl _ rfl _ _ _ _ h4 Try.underlying53 rfl (by kernel_rfl) ?_
        | refine wpList_store_row rfl _ _ _ rfl _ _ rfl rfl _ _ h3 (by kernel_rfl) (by rw [zs_size, tabA_size]) tabA_all ?_)
      refine bodyPost_ret (v := .agg tabA) (results_cell_row Try.results30 _ _ w.heap.size 53 tabA (0, 0) _ rfl (setRow_heap wr w.heap.size _ _ _ _ h3) Try.underlying53 rfl (by kernel_rfl)) rfl ⟨rfl, ?_⟩
      exact below_setRow Hb.out (Nat.le_refl _) _
end Go.Proofs.Ytbhckbhdjdmgaaa
