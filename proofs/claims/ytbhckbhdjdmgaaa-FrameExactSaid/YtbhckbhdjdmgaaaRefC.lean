/-
  The walks of the document's Seal, First, Scan.
-/
import Derived.Test.YtbhckbhdjdmgaaaRefB
import Derived.Test.YtbhckbhdjdmgaaaScan
namespace Go.Proofs.Ytbhckbhdjdmgaaa
open Go.RowKit
set_option maxHeartbeats 1600000 in
theorem RSeal_any (A : Option Addr) (n cap : Nat) (p : List UInt8) (w : World) (B : Nat) (hB : B ≤ w.heap.size) (hb : By w B A n cap p) (hn : n ≤ 1000000) :
    Calls Try.prog 15 #[.slice A n cap] w (TwinPost w (frm p)) := by
  have Hl := Lib.hid hb.len
  go_enter Try.func15, Try.ntmps15
  go_wp2_with fail
  refine (High_any n w).mono ?_
  rintro e w1 ⟨v1, rfl, ho1, hb1⟩
  obtain ⟨A1, c1, rfl, hy1⟩ := own_by ho1 (n := 4) rfl
  have hbn := hb.below hb1 hB
  go_wp2_with (first
    | (at_builtin
       refine wpList_appB rfl (.tmp 5) (.tmp 9) rfl w.heap.size (.slice none 0 0) [] rfl (World.ownsRow_nil _ _ _ _) w1.heap.size A1 4 c1 (hi4 n) rfl hy1 (by simp) hb1.size ?_
       intro v2 w2 ho2 hg2
       have hb2 : Below w.heap.size w w2 := hb1.grown hg2 hb1.size (by intro k hk; simp [Value.ownBlock] at hk))
    | (at_builtin
       refine wpList_appB rfl (.tmp 10) (.tmp 11) rfl w.heap.size v2 _ rfl ho2 B A n cap p rfl (hb.below hb2 hB) (by simp [hi4_length]; omega) hb2.size ?_
       intro v3 w3 ho3 hg3
       have hb3 : Below w.heap.size w w3 := hb2.grown hg3 hb2.size (fun k hk => (ho2.lt k hk).1)))
  rw [List.nil_append] at ho3
  have hle3 : (hi4 n ++ p).length = 4 + n := by rw [List.length_append, Hl.out]; rfl
  obtain ⟨A3, c3, rfl, hy3⟩ := own_by ho3 hle3
  refine (High_any n _).mono ?_
  rintro e w4 ⟨v4, rfl, ho4, hb4⟩
  have hb4' : Below w3.heap.size w3 w4 := ((Below.refl _ _).alloc (Nat.le_refl _) _).trans (hb4.mono (by simp))
  have hbw4 : Below w.heap.size w w4 := hb3.trans (hb4'.mono hb3.size)
  obtain ⟨A4, c4, rfl, hy4⟩ := own_by ho4 (n := 4) rfl
  have hst : OwnB w4 w3.heap.size (.slice (some ⟨w3.heap.size, 0, none⟩) 1 1) [0x9d] := (own_start w3).below hb4
  go_wp2_with (
    (at_builtin
     refine wpList_appB rfl (.tmp 13) (.tmp 17) rfl w3.heap.size _ _ rfl hst w4.heap.size A4 4 c4 (hi4 n) rfl hy4 (by simp) hb4'.size ?_
     intro v5 w5 ho5 hg5
     have hb5 : Below w3.heap.size w3 w5 := hb4'.grown hg5 hb4'.size (fun k hk => (hst.lt k hk).1)))
  have hbw5 : Below w.heap.size w w5 := hb3.trans (hb5.mono hb3.size)
  refine (RSum_any _ _ _ _ _ _ (hy3.below hb5 (Nat.le_refl _))).mono ?_
  rintro e w6 ⟨rfl, rfl⟩
  have hS := bv_lt (Fr.sum (hi4 n ++ p))
  go_wp2_with fail
  refine (High_any _ _).mono ?_
  rintro e w7 ⟨v7, rfl, ho7, hb7⟩
  have hbw7 : Below w.heap.size w w7 := hbw5.trans (hb7.mono hbw5.size)
  obtain ⟨A7, c7, rfl, hy7⟩ := own_by ho7 (n := 4) rfl
  have ho57 := ho5.below hb7
  go_wp2_with (first
    | (at_builtin
       refine wpList_appB rfl (.tmp 19) (.tmp 23) rfl w3.heap.size v5 _ rfl ho57 w7.heap.size A7 4 c7 _ rfl hy7 (by simp [hi4_length]) (Nat.le_trans hb5.size hb7.size) ?_
       intro v8 w8 ho8 hg8
       have hbw8 : Below w.heap.size w w8 := hbw7.grown hg8 hbw7.size (fun k hk => Nat.le_trans hb3.size (ho57.lt k hk).1)
       have hs8 : w3.heap.size ≤ w8.heap.size := Nat.le_trans (Nat.le_trans hb5.size hb7.size) hg8.size)
    | (at_builtin
       refine wpList_appB rfl (.tmp 25) (.tmp 26) rfl w3.heap.size v8 _ rfl ho8 B A n cap p rfl (hb.below hbw8 hB) (by simp [hi4_length]; omega) hs8 ?_
       intro v9 w9 ho9 hg9
       have hbw9 : Below w.heap.size w w9 := hbw8.grown hg9 hbw8.size (fun k hk => Nat.le_trans hb3.size (ho8.lt k hk).1)))
  go_ret
  refine ⟨v9, rfl, ?_, hbw9⟩
  have e : frm p = [157] ++ hi4 n ++ hi4 (Fr.sum (hi4 n ++ p)).toNat ++ p := by rw [← Hl.out]; simp [frm]
  rw [e]
  exact ho9.base hb3.size
end Go.Proofs.Ytbhckbhdjdmgaaa
