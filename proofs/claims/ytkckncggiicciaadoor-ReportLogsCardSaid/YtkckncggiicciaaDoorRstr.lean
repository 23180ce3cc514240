/-
  Numbers as digits; words with blanks between: the walks of report's small functions, and of the page's.
-/
import Derived.Test.YtkckncggiicciaaDoorMemb
import Derived.Test.YtkckncggiicciaaDoorShelf
import Derived.Lib.QuietBelow
import Derived.Lib.LaidTab
namespace Go.Proofs.YtkckncggiicciaaDoor
open Go.RowKit Go.Sort
set_option maxRecDepth 100000
/-- The table of the powers of ten lies where the program's text laid it. -/
def ItAt (w : World) : Prop := Lib.TabIs Tryd.prog w "internal/strconv.uint64pow10" .u64 Lib.pow10Tab
theorem pow10_named : Tryd.prog.globalNamed "internal/strconv.uint64pow10" = some 1 := by kernel_rfl
theorem ItAt.below {w w' : World} (h : ItAt w) (hb : Below w.heap.size w w') : ItAt w' := by
  have hc := Lib.TabIs.cell h pow10_named 0 (by decide)
  have hlt := World.block_lt_of_cell? _ _ hc
  unfold ItAt Lib.TabIs World.var? at *
  rw [pow10_named] at h ⊢
  simp only [Option.bind_some] at h ⊢
  rw [hb.block _ hlt]
  exact h
theorem ItAt.drewN {w : World} (h : ItAt w) (k : Nat) : ItAt (w.drewN k) := h
/-- A string, by its bytes. -/
def sV (l : List UInt8) : Value := .string ⟨l.toArray⟩
theorem sV_one (l : List UInt8) : (sV l).oneCell' = true := rfl
def In64 (n : Int) : Prop := -9223372036854775808 ≤ n ∧ n ≤ 9223372036854775807
theorem below_grow (w : World) (k : Nat) (os : Array Obj) : Below w.heap.size w (grow (w.drewN k) os) :=
  ⟨rfl, rfl, rfl, by rw [size_grow]; exact Nat.le_add_right _ _, fun j hj => heap_grow_old (w.drewN k) os hj⟩
theorem Itoa_any (n : Int) (w : World) (hn : In64 n) (hI : ItAt w) : Calls Tryd.prog 8 #[.int .i64 n] w fun e w' => e = .returned (sV (Lib.itoa n)) ∧ Below w.heap.size w w' :=
  (Tryd.strconv_Itoa n hn.1 hn.2 w hI).mono fun _ _ ⟨h1, k, os, h2⟩ => ⟨h1, by rw [h2]; exact below_grow w k os⟩
set_option maxHeartbeats 400000 in
theorem rn_any (n : Int) (w : World) (hn : In64 n) (hI : ItAt w) : Calls Tryd.prog 31 #[.int .i64 n] w fun e w' => e = .returned (sV (Lib.itoa n)) ∧ Below w.heap.size w w' := by
  have HI : Hid (∀ w', Below w.heap.size w w' → Calls Tryd.prog 8 #[.int .i64 n] w' fun e w'' => e = .returned (sV (Lib.itoa n)) ∧ Below w'.heap.size w' w'') := fun w' hb => Itoa_any n w' hn (hI.below hb)
  unfold sV at HI ⊢
  clear hn hI
  go_enter Tryd.func31, Tryd.ntmps31
  go_wp2_with (refine (HI.out _ (Below.refl _ _)).mono ?_; rintro e w2 ⟨rfl, hb2⟩)
  go_ret
  exact ⟨rfl, hb2⟩
set_option maxHeartbeats 400000 in
theorem number_any (n : Int) (w : World) (hn : In64 n) (hI : ItAt w) : Calls Tryd.prog 40 #[.int .i64 n] w fun e w' => e = .returned (sV (Lib.itoa n)) ∧ Below w.heap.size w w' := by
  have HI : Hid (∀ w', Below w.heap.size w w' → Calls Tryd.prog 8 #[.int .i64 n] w' fun e w'' => e = .returned (sV (Lib.itoa n)) ∧ Below w'.heap.size w' w'') := fun w' hb => Itoa_any n w' hn (hI.below hb)
  unfold sV at HI ⊢
  clear hn hI
  go_enter Tryd.func40, Tryd.ntmps40
  go_wp2_with (refine (HI.out _ (Below.refl _ _)).mono ?_; rintro e w2 ⟨rfl, hb2⟩)
  go_ret
  exact ⟨rfl, hb2⟩
/-- Words with blanks between. -/
def wordsL (xs : List (List UInt8)) : List UInt8 := Lib.join xs [32]
theorem Join_any (A : Option Addr) (n cap : Nat) (xs : List (List UInt8)) (w : World) (h0 : 0 < n) (hy : Rd w w.heap.size 1 A n cap (xs.map sV)) (hz : n ≤ 1000) (hl : (wordsL xs).length ≤ 1000000) :
    Calls Tryd.prog 61 #[.slice A n cap, .string ⟨#[32]⟩] w fun e w' => e = .returned (sV (wordsL xs)) ∧ Below w.heap.size w w' := by
  obtain ⟨h1, h2, h3, h4⟩ := hy
  obtain ⟨b, off, rfl, hb, hc⟩ := h4 h0
  rw [List.length_map, Nat.mul_one] at h1
  have e1 : (xs.map (fun l => (⟨l.toArray⟩ : ByteArray))).map (·.data.toList) = xs := by
    rw [List.map_map]
    have : ((fun x : ByteArray => x.data.toList) ∘ fun l : List UInt8 => (⟨l.toArray⟩ : ByteArray)) = id := by
      funext l
      simp
    rw [this, List.map_id]
  have := Tryd.strings_Join b off cap (xs.map fun l => (⟨l.toArray⟩ : ByteArray)) ⟨#[32]⟩ w (fun j x hx => hc j _ (by
    rw [List.getElem?_map] at hx ⊢
    cases hq : xs[j]? with
    | none => rw [hq] at hx; cases hx
    | some l => rw [hq] at hx; injection hx with hx; subst hx; rfl)) hb (by rw [List.length_map]; omega) (by rw [List.length_map]; omega) (by
      rw [e1]
      show (Lib.join xs [32]).length ≤ _
      unfold wordsL at hl
      omega)
  rw [e1, List.length_map, h1] at this
  exact this
set_option maxHeartbeats 400000 in
theorem words_any (A : Option Addr) (n cap : Nat) (xs : List (List UInt8)) (w : World) (h0 : 0 < n) (hy : Rd w w.heap.size 1 A n cap (xs.map sV)) (hz : n ≤ 1000) (hl : (wordsL xs).length ≤ 1000000) :
    Calls Tryd.prog 30 #[.slice A n cap] w fun e w' => e = .returned (sV (wordsL xs)) ∧ Below w.heap.size w w' := by
  have HI : Hid (∀ w', w = w' → Calls Tryd.prog 61 #[.slice A n cap, .string ⟨#[32]⟩] w' fun e w'' => e = .returned (sV (wordsL xs)) ∧ Below w'.heap.size w' w'') := fun w' e => by subst e; exact Join_any A n cap xs w h0 hy hz hl
  unfold sV at HI ⊢
  clear h0 hy hz hl
  go_enter Tryd.func30, Tryd.ntmps30
  go_wp2_with (refine (HI.out _ rfl).mono ?_; rintro e w2 ⟨rfl, hb2⟩)
  go_ret
  exact ⟨rfl, hb2⟩
end Go.Proofs.YtkckncggiicciaaDoor
