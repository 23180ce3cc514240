/-
  Rows of bytes of the call's own, beside XMemg's general words.
-/
import Derived.Test.YtkckncggiicciaaDoorMemg
import Derived.Laws.BytesArg
import Derived.Lib.ConvBytes
namespace Go.Proofs.YtkckncggiicciaaDoor
open Go.RowKit
theorem info_u8 : (Tryd.prog.info? 5).map (fun i => (i.zero, i.size, i.bytes)) = some (some (.int .u8 0), 1, 1) := by kernel_rfl
theorem size_u8 : (Tryd.prog.info? 5).map (·.size) = some 1 := by kernel_rfl
/-- A row of bytes of the call's own. -/
def OwnB (w : World) (base : Nat) (v : Value) (l : List UInt8) : Prop := w.ownsRow base 5 1 v l.length (l.map bv)
theorem own_by {w : World} {base : Nat} {v : Value} {l : List UInt8} (h : OwnB w base v l) {n : Nat} (hn : l.length = n) : ∃ A cap, v = .slice A n cap ∧ By w w.heap.size A n cap l := by
  subst hn
  exact Rd.of_own h
theorem OwnB.below {w w' : World} {base : Nat} {v : Value} {l : List UInt8} (h : OwnB w base v l) (hb : Below w.heap.size w w') : OwnB w' base v l := own_below h hb
theorem OwnB.base {w : World} {base base' : Nat} {v : Value} {l : List UInt8} (h : OwnB w base v l) (hb : base' ≤ base) : OwnB w base' v l := own_base h hb
theorem own_empty {w w2 : World} (h : w.heap.size ≤ w2.heap.size) : (w2.alloc (.cells #[] 5)).ownsRow w.heap.size 5 1 (.slice (some ⟨w2.heap.size, 0, none⟩) 0 0) 0 [] :=
  ⟨rfl, .inr ⟨w2.heap.size, 0, _, rfl, h, heap_alloc_new w2 _, Nat.le_refl _, by decide, rfl, rfl⟩⟩
theorem bvs_one {l : List UInt8} : ∀ u ∈ l.map bv, u.oneCell' = true := by
  intro u hu
  obtain ⟨c, _, rfl⟩ := List.mem_map.1 hu
  rfl
theorem grown_alloc {w w' : World} {o : Obj} {row : Option Nat} (h : (w.alloc o).grownBy w' row) : w.grownBy w' row :=
  ⟨h.os, h.tape, h.output, Nat.le_trans (by simp) h.size, fun k hk hr => (h.block k (by simp; omega) hr).trans (Below.heap_alloc w o k hk)⟩
/-- An append of bytes that are read onto a row of bytes of the call's own. -/
theorem wp_appB {w : World} {o : Oper} {a : Act} {K : Act → World → Prop} {Q : Exit → Act → World → Prop} (s x : Operand)
    (ho : o.op = .call { callee := .builtin .append, args := #[s, x], argTypes := #[26, 26] })
    (base : Nat) (v : Value) (l : List UInt8) (hs : a.eval s = v) (hown : OwnB w base v l)
    (B : Nat) (A : Option Addr) (m c : Nat) (l' : List UInt8) (hx : a.eval x = .slice A m c) (hr : By w B A m c l')
    (hbytes : l.length + m ≤ 140737488355328) (hbase : base ≤ w.heap.size)
    (h : ∀ v' w', OwnB w' base v' (l ++ l') → w.grownBy w' v.ownBlock → K (a.put o.dst v') w') : o.wp Tryd.prog a w K Q := by
  obtain ⟨i0, hi, hz0, hz1, hz2⟩ := info_parts info_u8
  refine wp_app s x _ ho base 5 i0 _ 1 1 Tryd.underlying26 hi hz0 hz1 hz2 rfl (by omega) v l.length (l.map bv) hs hown B A m c (l'.map bv) hx hr bvs_one (by simp only [maxLen]; omega) (by omega) hbase ?_
  intro v' w' h1 h2 _
  refine h v' w' ?_ h2
  unfold OwnB
  rw [List.length_append, List.map_append, hr.len]
  exact h1
theorem wpList_appB {w : World} {ops : Array Oper} {rest : List Oper} {o : Oper} {a : Act} {Q : Exit → Act → World → Prop} (hgd : o.guard = none) (s x : Operand)
    (ho : o.op = .call { callee := .builtin .append, args := #[s, x], argTypes := #[26, 26] })
    (base : Nat) (v : Value) (l : List UInt8) (hs : a.eval s = v) (hown : OwnB w base v l)
    (B : Nat) (A : Option Addr) (m c : Nat) (l' : List UInt8) (hx : a.eval x = .slice A m c) (hr : By w B A m c l')
    (hbytes : l.length + m ≤ 140737488355328) (hbase : base ≤ w.heap.size)
    (h : ∀ v' w', OwnB w' base v' (l ++ l') → w.grownBy w' v.ownBlock → wpList Tryd.prog ops Q rest (a.put o.dst v') w') : wpList Tryd.prog ops Q (o :: rest) a w :=
  wpList_plain hgd fun _ hK => wp_appB s x ho base v l hs hown B A m c l' hx hr hbytes hbase fun v' w' h2 h3 => hK _ _ (h v' w' h2 h3)
/-- The same in a region that draws its order. -/
theorem step_appB {w : World} {ops : Array Oper} {o : Oper} {a : Act} {K : Act → World → Prop} {Q : Exit → Act → World → Prop} {E : Prop} (hgd : o.guard = none) (s x : Operand)
    (ho : o.op = .call { callee := .builtin .append, args := #[s, x], argTypes := #[26, 26] })
    (base : Nat) (v : Value) (l : List UInt8) (hs : a.eval s = v) (hown : OwnB w base v l)
    (B : Nat) (A : Option Addr) (m c : Nat) (l' : List UInt8) (hx : a.eval x = .slice A m c) (hr : By w B A m c l')
    (hbytes : l.length + m ≤ 140737488355328) (hbase : base ≤ w.heap.size)
    (h : ∀ v' w', OwnB w' base v' (l ++ l') → w.grownBy w' v.ownBlock → K (a.put o.dst v') w') :
    if Region.wanted o (yielded ops a.tmps) = true then Oper.wp Tryd.prog o a w K Q else E := by
  have hw : Region.wanted o (yielded ops a.tmps) = true := by simp [Region.wanted, hgd]
  rw [if_pos hw]
  exact wp_appB s x ho base v l hs hown B A m c l' hx hr hbytes hbase h
/-- .. and where the row lies behind it. -/
theorem wpList_appBAt {w : World} {ops : Array Oper} {rest : List Oper} {o : Oper} {a : Act} {Q : Exit → Act → World → Prop} (hgd : o.guard = none) (s x : Operand)
    (ho : o.op = .call { callee := .builtin .append, args := #[s, x], argTypes := #[26, 26] })
    (base : Nat) (v : Value) (l : List UInt8) (hs : a.eval s = v) (hown : OwnB w base v l)
    (B : Nat) (A : Option Addr) (m c : Nat) (l' : List UInt8) (hx : a.eval x = .slice A m c) (hr : By w B A m c l')
    (hbytes : l.length + m ≤ 140737488355328) (hbase : base ≤ w.heap.size)
    (h : ∀ v' w', OwnB w' base v' (l ++ l') → w.grownBy w' v.ownBlock → (v'.ownBlock = v.ownBlock ∨ v'.ownBlock = some w.heap.size) → wpList Tryd.prog ops Q rest (a.put o.dst v') w') : wpList Tryd.prog ops Q (o :: rest) a w := by
  obtain ⟨i0, hi, hz0, hz1, hz2⟩ := info_parts info_u8
  refine wpList_plain hgd fun _ hK => wp_appAt s x _ ho base 5 i0 _ 1 1 Tryd.underlying26 hi hz0 hz1 hz2 rfl (by omega) v l.length (l.map bv) hs hown B A m c (l'.map bv) hx hr bvs_one (by simp only [maxLen]; omega) (by omega) hbase ?_
  intro v' w' h1 h2 _ h4
  refine hK _ _ (h v' w' ?_ h2 h4)
  unfold OwnB
  rw [List.length_append, List.map_append, hr.len]
  exact h1
/-- The same in a region that draws its order, and where the row lies behind it. -/
theorem step_appBAt {w : World} {ops : Array Oper} {o : Oper} {a : Act} {K : Act → World → Prop} {Q : Exit → Act → World → Prop} {E : Prop} (hgd : o.guard = none) (s x : Operand)
    (ho : o.op = .call { callee := .builtin .append, args := #[s, x], argTypes := #[26, 26] })
    (base : Nat) (v : Value) (l : List UInt8) (hs : a.eval s = v) (hown : OwnB w base v l)
    (B : Nat) (A : Option Addr) (m c : Nat) (l' : List UInt8) (hx : a.eval x = .slice A m c) (hr : By w B A m c l')
    (hbytes : l.length + m ≤ 140737488355328) (hbase : base ≤ w.heap.size)
    (h : ∀ v' w', OwnB w' base v' (l ++ l') → w.grownBy w' v.ownBlock → (v'.ownBlock = v.ownBlock ∨ v'.ownBlock = some w.heap.size) → K (a.put o.dst v') w') :
    if Region.wanted o (yielded ops a.tmps) = true then Oper.wp Tryd.prog o a w K Q else E := by
  have hw : Region.wanted o (yielded ops a.tmps) = true := by simp [Region.wanted, hgd]
  rw [if_pos hw]
  obtain ⟨i0, hi, hz0, hz1, hz2⟩ := info_parts info_u8
  refine wp_appAt s x _ ho base 5 i0 _ 1 1 Tryd.underlying26 hi hz0 hz1 hz2 rfl (by omega) v l.length (l.map bv) hs hown B A m c (l'.map bv) hx hr bvs_one (by simp only [maxLen]; omega) (by omega) hbase ?_
  intro v' w' h1 h2 _ h4
  refine h v' w' ?_ h2 h4
  unfold OwnB
  rw [List.length_append, List.map_append, hr.len]
  exact h1
theorem grown_trans_row {a b c : World} {row : Option Nat} (h : a.grownBy b row) (k : b.grownBy c row) : a.grownBy c row :=
  ⟨k.os.trans h.os, k.tape.trans h.tape, k.output.trans h.output, Nat.le_trans h.size k.size, fun i hi hne => (k.block i (Nat.lt_of_lt_of_le hi h.size) hne).trans (h.block i hi hne)⟩
/-- A cell of a row of bytes of the call's own: it reads, it may be written, and the row is then the row with that byte. -/
theorem own_cell {w : World} {base n cap k : Nat} {A : Option Addr} {l : List UInt8} (h : OwnB w base (.slice A n cap) l) (hl : l.length = n) (hk : k < n) :
    ∃ g, A = some ⟨g, 0, none⟩ ∧ ∃ c : UInt8, w.cell? ⟨g, k, none⟩ = some (.int .u8 (c.toNat : Int)) ∧ w.frozen? ⟨g, k, none⟩ = false ∧ Hid (l[k]? = some c) ∧
      Hid (∀ d : UInt8, OwnB (w.setCell ⟨g, k, none⟩ (.int .u8 (d.toNat : Int))) base (.slice (some ⟨g, 0, none⟩) n cap) (l.set k d) ∧
        w.grownBy (w.setCell ⟨g, k, none⟩ (.int .u8 (d.toNat : Int))) (some g)) := by
  subst hl
  obtain ⟨h1, ⟨e, h2⟩ | ⟨g, cap', cur, e, hb, hg, hn, hm, hs, ht⟩⟩ := h
  · omega
  · injection e with e1 e2 e3
    subst e1
    subst e3
    refine ⟨g, rfl, l[k], ?_, frozen_of_row w g k cur _ hg, by simp [Hid], fun d => ⟨?_, ⟨rfl, rfl, rfl, by simp [World.setCell], fun i hi hne => Below.heap_setCell _ _ _ _ (fun e => hne (by rw [e]))⟩⟩⟩
    · rw [cell_of_row w g k cur _ _ hg]
      have hx : (l.map bv)[k]? = some (bv l[k]) := by simp [hk]
      rw [← ht, List.getElem?_take, if_pos (by omega)] at hx
      simpa [bv] using hx
    · refine ⟨by simp, .inr ⟨g, cap, cur.setIfInBounds k (bv d), by simp, hb, heap_setCell_same w g k cur _ _ hg, by simpa using hn, hm, by simpa using hs, ?_⟩⟩
      have e : (l.set k d).map bv = (l.map bv).set k (bv d) := by rw [List.map_set]
      rw [e, ← ht]
      simp [List.take_set]
theorem by_one (w : World) (c : UInt8) : By (w.alloc (.cells #[.int .u8 (c.toNat : Int)] 5)) (w.heap.size + 1) (some ⟨w.heap.size, 0, none⟩) 1 1 [c] := rd_one w _ _
/-- Two new elements, as an append lays them. -/
theorem rd_two (w : World) (u v : Value) (e : TypeId) : Rd (w.alloc (.cells #[u, v] e)) (w.heap.size + 1) 1 (some ⟨w.heap.size, 0, none⟩) 2 2 [u, v] := by
  refine ⟨rfl, Nat.le_refl _, by decide, fun _ => ⟨w.heap.size, 0, rfl, by omega, fun j x hx => ?_⟩⟩
  rw [Nat.zero_add, cell_of_row _ _ _ _ _ _ (heap_alloc_new w _)]
  simpa using hx
theorem by_two (w : World) (c d : UInt8) : By (w.alloc (.cells #[.int .u8 (c.toNat : Int), .int .u8 (d.toNat : Int)] 5)) (w.heap.size + 1) (some ⟨w.heap.size, 0, none⟩) 2 2 [c, d] := rd_two w _ _ _
/-- A literal of one byte is a row of the call's own. -/
theorem own_lit {w : World} {base : Nat} (h : base ≤ w.heap.size) (c : UInt8) : OwnB (w.alloc (.cells #[.int .u8 (c.toNat : Int)] 5)) base (.slice (some ⟨w.heap.size, 0, none⟩) 1 1) [c] :=
  ⟨rfl, .inr ⟨w.heap.size, 1, _, rfl, h, heap_alloc_new w _, Nat.le_refl _, by decide, rfl, rfl⟩⟩
/-- The bytes of a slice, as a string. -/
theorem conv_by {w : World} {B n cap : Nat} {A : Option Addr} {l : List UInt8} (h : By w B A n cap l) : (convert 26 9 (.slice A n cap)).run Tryd.prog w = .ok (.string ⟨l.toArray⟩) w := by
  have hl := h.len
  by_cases h0 : 0 < n
  · obtain ⟨b, off, rfl, hb, hc⟩ := h.at h0
    rw [run_convert_bytes_arg w 26 5 Tryd.underlying26 Tryd.underlying5 b off n cap (l.map fun c => (c.toNat : Int)) (by simpa using hl) (fun k hk => ?_) 9 Tryd.underlying9]
    · have e : strOfNums (l.map fun c => (c.toNat : Int)) = ⟨l.toArray⟩ := by
        unfold strOfNums
        rw [List.map_map]
        congr 1
        have : ((fun n : Int => UInt8.ofNat n.toNat) ∘ fun c : UInt8 => (c.toNat : Int)) = id := by
          funext c
          simp
        rw [this, List.map_id]
      rw [e]
    · have hk' : k < l.length := by omega
      rw [hc k hk']
      simp [List.getD, hk']
  · obtain rfl : n = 0 := by omega
    have hl0 : l = [] := List.eq_nil_of_length_eq_zero hl
    subst hl0
    cases A with
    | none => exact run_convert_bytes_nil w 26 5 Tryd.underlying26 Tryd.underlying5 0 cap 9 Tryd.underlying9
    | some a =>
      obtain ⟨b, off, spot⟩ := a
      rw [run_convert_bytes_string w 26 9 5 _ 0 cap Tryd.underlying26 Tryd.underlying5 Tryd.underlying9, run_bytesToString w _ 0 cap [] (by simpa using run_loadCells_list (P := Tryd.prog) w ⟨b, off, spot⟩ [] (fun j v hj => by simp at hj))]
      rfl
end Go.Proofs.YtkckncggiicciaaDoor
