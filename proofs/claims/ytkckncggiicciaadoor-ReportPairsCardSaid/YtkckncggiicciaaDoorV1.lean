/-
  Joined texts, part 1: the lemmas and walks that the row stands on.
-/
import Derived.Test.YtkckncggiicciaaDoorProg
import Derived.WalkKit
import Derived.Laws.AppendOwn
import Derived.Maps.AppendAt
import Derived.Lib.Hide
import Derived.Deep.Draws
import Derived.Laws.BytesArg
import Derived.Lib.ConvBytes
import Derived.Shelf.Strings.OnBuilder
import Derived.Shelf.Small.Strs
import Derived.Shelf.LaysM
import Derived.Shelf.Strconv.Itoa3
import Derived.Shelf.LaysC
import Derived.Shelf.Strconv.ToError
import Derived.Shelf.Strconv.ToErrorRange
import Derived.Shelf.Strings.Search1
import Derived.Lib.QuietBelow
import Derived.Lib.LaidTab
import Derived.Laws.FloatArith
import Derived.WalkSpells
import Derived.WalkLawsBesides
import Derived.Laws.BitsAllLaws
import Derived.Deep.RegionHeld3
import Derived.BigQuiet
import Derived.Deep.QuietTactic
import Derived.Deep.LoopGhost
import Derived.Deep.MidRow
import Derived.IntWalk
import Derived.Lib.ItoaLen
/-
  General words on memory, for walks; of no type of the program's.
-/
namespace Go.Proofs.YtkckncggiicciaaDoor
open Go.RowKit
theorem val_int {k : IntKind} {a b : Int} (h : a = b) : Value.int k a = .int k b := by rw [h]
theorem ret_int {k : IntKind} {a b : Int} (h : a = b) : Ending.returned (.int k a) = .returned (.int k b) := by rw [h]
theorem ret_bool {a b : Bool} (h : a = b) : Ending.returned (.bool a) = .returned (.bool b) := by rw [h]
theorem addr_add (b off j : Nat) : (⟨b, off, none⟩ : Addr).add j = ⟨b, off + j, none⟩ := by unfold Addr.add; split <;> simp_all
/-- A byte as a cell. -/
def bv (c : UInt8) : Value := .int .u8 (c.toNat : Int)
theorem bv_one (c : UInt8) : (bv c).oneCell' = true := rfl
/-- A slice of n elements, capacity cap, at A, whose cells (size each) are xs, below block B. -/
def Rd (w : World) (B size : Nat) (A : Option Addr) (n cap : Nat) (xs : List Value) : Prop :=
  xs.length = n * size ∧ n ≤ cap ∧ cap ≤ maxLen ∧
    (0 < n → ∃ b off, A = some ⟨b, off, none⟩ ∧ b < B ∧ ∀ j u, xs[j]? = some u → w.cell? ⟨b, off + j, none⟩ = some u)
/-- A slice of bytes. -/
def By (w : World) (B : Nat) (A : Option Addr) (n cap : Nat) (l : List UInt8) : Prop := Rd w B 1 A n cap (l.map bv)
section
variable {w w' : World} {B B' size n cap : Nat} {A : Option Addr} {xs : List Value} {l : List UInt8}
theorem Rd.keep (h : Rd w B size A n cap xs) (hk : ∀ p : Addr, p.block < B → w'.cell? p = w.cell? p) : Rd w' B size A n cap xs := by
  obtain ⟨h1, h2, h3, h4⟩ := h
  refine ⟨h1, h2, h3, fun hn => ?_⟩
  obtain ⟨b, off, e, hb, hc⟩ := h4 hn
  exact ⟨b, off, e, hb, fun j u hu => (hk ⟨b, off + j, none⟩ hb).trans (hc j u hu)⟩
theorem Rd.mono (h : Rd w B size A n cap xs) (hB : B ≤ B') : Rd w B' size A n cap xs := by
  obtain ⟨h1, h2, h3, h4⟩ := h
  refine ⟨h1, h2, h3, fun hn => ?_⟩
  obtain ⟨b, off, e, hb, hc⟩ := h4 hn
  exact ⟨b, off, e, by omega, hc⟩
theorem Rd.below {C : Nat} (h : Rd w B size A n cap xs) (hb : Below C w w') (hB : B ≤ C) : Rd w' B size A n cap xs := h.keep fun p hp => hb.cell (by omega)
theorem Rd.drewN (h : Rd w B size A n cap xs) (k : Nat) : Rd (w.drewN k) B size A n cap xs := h
theorem Rd.alloc (h : Rd w B size A n cap xs) (hB : B ≤ w.heap.size) (o : Obj) : Rd (w.alloc o) B size A n cap xs := h.keep fun p hp => World.cell?_alloc_lt w o p (by omega)
theorem Rd.grown (h : Rd w B size A n cap xs) {row : Option Nat} (hg : w.grownBy w' row) (hB : B ≤ w.heap.size) (hr : ∀ g, row = some g → B ≤ g) : Rd w' B size A n cap xs :=
  h.keep fun p hp => World.cell?_of_block (hg.block p.block (by omega) (fun e => by have := hr _ e.symm; omega))
theorem Rd.nil (w : World) (B size : Nat) : Rd w B size none 0 0 [] := ⟨by simp, Nat.le_refl _, Nat.zero_le _, fun h => by omega⟩
theorem Rd.of_own {base : Nat} {e : TypeId} {v : Value} (h : w.ownsRow base e size v n xs) : ∃ A cap, v = .slice A n cap ∧ Rd w w.heap.size size A n cap xs := by
  obtain ⟨h1, ⟨rfl, rfl⟩ | ⟨g, cap, cur, rfl, hb, hg, hn, hm, hs, ht⟩⟩ := h
  · exact ⟨none, 0, rfl, h1, Nat.le_refl _, Nat.zero_le _, fun h => by omega⟩
  · refine ⟨_, cap, rfl, h1, hn, hm, fun _ => ⟨g, 0, rfl, (Array.getElem?_eq_some_iff.1 hg).1, fun j u hu => ?_⟩⟩
    rw [Nat.zero_add, cell_of_row w g j cur e (0, 0) hg]
    rw [← ht, List.getElem?_take] at hu
    split at hu
    · simpa using hu
    · cases hu
theorem By.len (h : By w B A n cap l) : l.length = n := by simpa using h.1
/-- The cells of a slice of bytes that is not empty. -/
theorem By.at (h : By w B A n cap l) (hn : 0 < n) : ∃ b off, A = some ⟨b, off, none⟩ ∧ b < B ∧ ∀ j (hj : j < l.length), w.cell? ⟨b, off + j, none⟩ = some (.int .u8 (l[j].toNat : Int)) := by
  obtain ⟨b, off, e, hb, hc⟩ := h.2.2.2 hn
  exact ⟨b, off, e, hb, fun j hj => hc j _ (by simp [bv, hj])⟩
/-- The k-th byte, in a round. -/
theorem By.step (h : By w B A n cap l) {k : Nat} (hk : k < n) : ∃ b off c, A = some ⟨b, off, none⟩ ∧ b < B ∧ w.cell? ⟨b, off + k, none⟩ = some (.int .u8 ((c : UInt8).toNat : Int)) ∧ Hid (l[k]? = some c ∧ l.take (k + 1) = l.take k ++ [c]) := by
  obtain ⟨b, off, e, hb, hc⟩ := h.at (by omega)
  have hl := h.len
  exact ⟨b, off, l[k]'(by omega), e, hb, hc k (by omega), by simp, List.take_succ_eq_append_getElem (by omega)⟩
/-- x[k:] -/
theorem Rd.drop (h : Rd w B size A n cap xs) (k : Nat) (hk : k ≤ n) : Rd w B size (if cap = k then A else A.map (·.add (k * size))) (n - k) (cap - k) (xs.drop (k * size)) := by
  obtain ⟨h1, h2, h3, h4⟩ := h
  refine ⟨by rw [List.length_drop, h1, Nat.sub_mul], by omega, by omega, fun hn => ?_⟩
  obtain ⟨b, off, rfl, hb, hc⟩ := h4 (by omega)
  rw [if_neg (by omega)]
  refine ⟨b, off + k * size, by simp [Addr.add], hb, fun j u hu => ?_⟩
  rw [Nat.add_assoc]
  exact hc _ u (by rw [← hu, List.getElem?_drop])
/-- x[:k] -/
theorem Rd.take (h : Rd w B size A n cap xs) (k : Nat) (hk : k ≤ n) : Rd w B size A k cap (xs.take (k * size)) := by
  obtain ⟨h1, h2, h3, h4⟩ := h
  have hm : k * size ≤ n * size := Nat.mul_le_mul_right _ hk
  refine ⟨by rw [List.length_take, h1]; omega, by omega, h3, fun hn => ?_⟩
  obtain ⟨b, off, rfl, hb, hc⟩ := h4 (by omega)
  refine ⟨b, off, rfl, hb, fun j u hu => hc j u ?_⟩
  rw [List.getElem?_take] at hu
  split at hu
  · exact hu
  · cases hu
end
/-- The slicing of a slice of bytes: x[lo:hi], x[lo:], x[:hi], under one name. -/
theorem By.cut {P : Program} {w : World} {B n cap : Nat} {A : Option Addr} {l : List UInt8} (t e : TypeId) (ht : P.underlying t = some (.slice e)) (hs : (P.info? e).map (·.size) = some 1)
    (h : By w B A n cap l) (lo hi m : Nat) (ilo ihi : Int) (e1 : ilo = lo) (e2 : ihi = hi) (em : lo + m = hi) (h2 : hi ≤ n) :
    ∃ A' c', (∀ W, (Instr.slice t (.slice A n cap) (some (.int .i64 ilo)) (some (.int .i64 ihi)) none).run P W = .ok (.slice A' m c') W) ∧
      By w B A' m c' ((l.drop lo).take m) := by
  subst e1
  subst e2
  obtain rfl : m = hi - lo := by omega
  have h1 : lo ≤ hi := by omega
  clear em
  have hcap := h.2.1
  have hel : P.elem t = e := by simp [Program.elem, ht]
  refine ⟨if cap = lo then A else A.map (·.add (lo * 1)), cap - lo, fun W => ?_, ?_⟩
  · have hsz : (sizeOf e).run P W = .ok 1 W := by
      cases hq : P.info? e with
      | none => simp [hq] at hs
      | some i => simp [hq] at hs; simp [sizeOf, typeInfo, hq, hs]
    have hr := run_slice_lh (P := P) W t A n cap (by rw [hel]; exact ht) .i64 .i64 (lo : Int) (hi : Int) (by omega) (by omega) (by omega)
    rw [hr, hel, hsz]
    simp [sliced, Result.andThen]
  · have hd := Rd.drop h lo (by omega)
    have htk := Rd.take hd (hi - lo) (by omega)
    unfold By
    simpa [List.map_drop, List.map_take] using htk
theorem By.cutL {P : Program} {w : World} {B n cap : Nat} {A : Option Addr} {l : List UInt8} (t e : TypeId) (ht : P.underlying t = some (.slice e)) (hs : (P.info? e).map (·.size) = some 1)
    (h : By w B A n cap l) (lo m : Nat) (ilo : Int) (e1 : ilo = lo) (em : lo + m = n) :
    ∃ A' c', (∀ W, (Instr.slice t (.slice A n cap) (some (.int .i64 ilo)) none none).run P W = .ok (.slice A' m c') W) ∧
      By w B A' m c' (l.drop lo) := by
  subst e1
  obtain rfl : m = n - lo := by omega
  have h1 : lo ≤ n := by omega
  clear em
  have hcap := h.2.1
  have hel : P.elem t = e := by simp [Program.elem, ht]
  refine ⟨if cap = lo then A else A.map (·.add (lo * 1)), cap - lo, fun W => ?_, ?_⟩
  · have hsz : (sizeOf e).run P W = .ok 1 W := by
      cases hq : P.info? e with
      | none => simp [hq] at hs
      | some i => simp [hq] at hs; simp [sizeOf, typeInfo, hq, hs]
    have hr := run_slice_l (P := P) W t A n cap (by rw [hel]; exact ht) .i64 (lo : Int) (by omega) (by omega)
    rw [hr, hel, hsz]
    simp [sliced, Result.andThen]
  · have hd := Rd.drop h lo (by omega)
    unfold By
    simpa [List.map_drop] using hd
theorem By.cutH {P : Program} {w : World} {B n cap : Nat} {A : Option Addr} {l : List UInt8} (t e : TypeId) (ht : P.underlying t = some (.slice e)) (hs : (P.info? e).map (·.size) = some 1)
    (h : By w B A n cap l) (hi : Nat) (ihi : Int) (e1 : ihi = hi) (em : hi ≤ n) :
    ∃ A' c', (∀ W, (Instr.slice t (.slice A n cap) none (some (.int .i64 ihi)) none).run P W = .ok (.slice A' hi c') W) ∧
      By w B A' hi c' (l.take hi) := by
  subst e1
  have hcap := h.2.1
  have hel : P.elem t = e := by simp [Program.elem, ht]
  refine ⟨if cap = 0 then A else A.map (·.add (0 * 1)), cap, fun W => ?_, ?_⟩
  · have hsz : (sizeOf e).run P W = .ok 1 W := by
      cases hq : P.info? e with
      | none => simp [hq] at hs
      | some i => simp [hq] at hs; simp [sizeOf, typeInfo, hq, hs]
    have hr := run_slice_h (P := P) W t A n cap (by rw [hel]; exact ht) .i64 (hi : Int) (by omega) (by omega)
    rw [hr, hel, hsz]
    simp [sliced, Result.andThen]
  · have hd := Rd.take h hi (by omega)
    unfold By
    have e : (if cap = 0 then A else A.map (·.add (0 * 1))) = A := by
      split
      · rfl
      · cases A <;> simp [Addr.add]
    rw [e]
    simpa [List.map_take] using hd
/-- x[:hi] of a slice whose elements are one cell each: the address stays. -/
theorem run_sliceH {P : Program} (t e : TypeId) (ht : P.underlying t = some (.slice e)) (hs : (P.info? e).map (·.size) = some 1) (A : Option Addr) (n cap hi : Nat) (ihi : Int) (e1 : ihi = hi) (hc : hi ≤ cap) (W : World) :
    (Instr.slice t (.slice A n cap) none (some (.int .i64 ihi)) none).run P W = .ok (.slice A hi cap) W := by
  subst e1
  have hel : P.elem t = e := by simp [Program.elem, ht]
  have hsz : (sizeOf e).run P W = .ok 1 W := by
    cases hq : P.info? e with
    | none => simp [hq] at hs
    | some i => simp [hq] at hs; simp [sizeOf, typeInfo, hq, hs]
  have hr := run_slice_h (P := P) W t A n cap (by rw [hel]; exact ht) .i64 (hi : Int) (by omega) (by omega)
  rw [hr, hel, hsz]
  have e : (if cap = 0 then A else A.map (·.add (0 * 1))) = A := by
    split
    · rfl
    · cases A <;> simp [Addr.add]
  simp only [Result.andThen, sliced, Int.toNat_natCast, e, Nat.sub_zero]
/-! ### Rows of the call's own -/
theorem own_below {w w' : World} {base : Nat} {e : TypeId} {size : Nat} {v : Value} {n : Nat} {xs : List Value} (h : w.ownsRow base e size v n xs) (hb : Below w.heap.size w w') : w'.ownsRow base e size v n xs :=
  h.kept (row := none) ⟨hb.os, hb.tape, hb.output, hb.size, fun k hk _ => hb.block k hk⟩ (by cases v.ownBlock <;> simp)
theorem own_base {w : World} {base base' : Nat} {e : TypeId} {size : Nat} {v : Value} {n : Nat} {xs : List Value} (h : w.ownsRow base e size v n xs) (hb : base' ≤ base) : w.ownsRow base' e size v n xs := by
  obtain ⟨h1, h2 | ⟨g, cap, cur, h3, h4, h5⟩⟩ := h
  · exact ⟨h1, .inl h2⟩
  · exact ⟨h1, .inr ⟨g, cap, cur, h3, by omega, h5⟩⟩
theorem below_setRow {B g : Nat} {a w : World} (h : Below B a w) (hg : B ≤ g) (cs : Array Value) : Below B a (w.setRow g cs) :=
  h.trans ⟨rfl, rfl, rfl, by simp, fun k hk => setRow_other w g k cs (by omega)⟩
theorem below_drewN {B : Nat} {a w : World} (h : Below B a w) (n : Nat) : Below B a (w.drewN n) := ⟨h.os, h.tape, h.output, h.size, h.block⟩
/-- One new element, as an append lays it. -/
theorem rd_one (w : World) (u : Value) (e : TypeId) : Rd (w.alloc (.cells #[u] e)) (w.heap.size + 1) 1 (some ⟨w.heap.size, 0, none⟩) 1 1 [u] := by
  refine ⟨rfl, Nat.le_refl _, by decide, fun _ => ⟨w.heap.size, 0, rfl, by omega, fun j x hx => ?_⟩⟩
  rw [Nat.zero_add, cell_of_row _ _ _ _ _ _ (heap_alloc_new w _)]
  simpa using hx
theorem one_one {u : Value} (h : u.oneCell' = true) : ∀ x ∈ [u], x.oneCell' = true := by
  intro x hx
  simp at hx
  subst hx
  exact h
/-- An append onto a row of the call's own: the source is read, whatever it is. -/
theorem wp_appAt {P : Program} {w : World} {o : Oper} {a : Act} {K : Act → World → Prop} {Q : Exit → Act → World → Prop} (s x : Operand) (t : TypeId)
    (ho : o.op = .call { callee := .builtin .append, args := #[s, x], argTypes := #[t, t] })
    (base : Nat) (e : TypeId) (i : TypeInfo) (z : Value) (size bytes : Nat) (ht : P.underlying t = some (.slice e)) (hi : P.info? e = some i) (hz : i.zero = some z)
    (hsize : i.size = size) (hby : i.bytes = bytes) (hzs : z.cells.size = size) (hsz : 0 < size)
    (v : Value) (n : Nat) (xs : List Value) (hs : a.eval s = v) (hown : w.ownsRow base e size v n xs)
    (B : Nat) (A : Option Addr) (m c : Nat) (news : List Value) (hx : a.eval x = .slice A m c) (hr : Rd w B size A m c news) (h1 : ∀ u ∈ news, u.oneCell' = true)
    (h63 : n + m ≤ maxLen) (hbytes : (n + m) * bytes ≤ 140737488355328) (hbase : base ≤ w.heap.size)
    (h : ∀ v' w', w'.ownsRow base e size v' (n + m) (xs ++ news) → w.grownBy w' v.ownBlock → (v' = .slice none 0 0 ↔ v = .slice none 0 0 ∧ m = 0) → (v'.ownBlock = v.ownBlock ∨ v'.ownBlock = some w.heap.size) → K (a.put o.dst v') w') : o.wp P a w K Q := by
  rcases Nat.eq_zero_or_pos m with rfl | hm
  · have hn : news = [] := List.eq_nil_of_length_eq_zero (by simpa using hr.1)
    subst hn
    have hrun : (Builtin.append_ #[t, t] o.type #[v, .slice A 0 c]).run P w = .ok v w := by
      rcases hown.2 with ⟨rfl, rfl⟩ | ⟨g, cap, cur, rfl, _, _, hnc, _⟩
      · simp [Builtin.append_, run_underlying ht, sizeOf, typeInfo, hi, Builtin.lenOf, Builtin.firstCells]
        cases A <;> simp [loadCells, loadCellsFrom]
      · cases A <;> simp [Builtin.append_, run_underlying ht, sizeOf, typeInfo, hi, Builtin.lenOf, Builtin.firstCells, hnc, storeCells, loadCells, loadCellsFrom]
    unfold Oper.wp execOp
    simp only [ho, resolve, invoke, builtin, Sem.run_bind, Sem.run_pure, Result.andThen_ok, List.map_toArray, List.map_cons, List.map_nil, hs, hx, hrun]
    exact h v w (by simpa using hown) ⟨rfl, rfl, rfl, Nat.le_refl _, fun _ _ _ => rfl⟩ (by simp) (.inl rfl)
  · obtain ⟨b, off, rfl, hb, hc⟩ := hr.2.2.2 hm
    obtain ⟨v', w', hrun, h2, h3, h4, h5⟩ := run_append_own_at (P := P) w base t o.type e i z size bytes ht hi hz hsize hby hzs hsz v n xs hown ⟨b, off, none⟩ m c news hr.1 (fun j u hu => by rw [addr_add]; exact hc j u hu) h1 h63 hbytes hbase
    unfold Oper.wp execOp
    simp only [ho, resolve, invoke, builtin, Sem.run_bind, Sem.run_pure, Result.andThen_ok, List.map_toArray, List.map_cons, List.map_nil, hs, hx, hrun]
    exact h v' w' h2 h3 h4 h5
theorem wp_app {P : Program} {w : World} {o : Oper} {a : Act} {K : Act → World → Prop} {Q : Exit → Act → World → Prop} (s x : Operand) (t : TypeId)
    (ho : o.op = .call { callee := .builtin .append, args := #[s, x], argTypes := #[t, t] })
    (base : Nat) (e : TypeId) (i : TypeInfo) (z : Value) (size bytes : Nat) (ht : P.underlying t = some (.slice e)) (hi : P.info? e = some i) (hz : i.zero = some z)
    (hsize : i.size = size) (hby : i.bytes = bytes) (hzs : z.cells.size = size) (hsz : 0 < size)
    (v : Value) (n : Nat) (xs : List Value) (hs : a.eval s = v) (hown : w.ownsRow base e size v n xs)
    (B : Nat) (A : Option Addr) (m c : Nat) (news : List Value) (hx : a.eval x = .slice A m c) (hr : Rd w B size A m c news) (h1 : ∀ u ∈ news, u.oneCell' = true)
    (h63 : n + m ≤ maxLen) (hbytes : (n + m) * bytes ≤ 140737488355328) (hbase : base ≤ w.heap.size)
    (h : ∀ v' w', w'.ownsRow base e size v' (n + m) (xs ++ news) → w.grownBy w' v.ownBlock → (v' = .slice none 0 0 ↔ v = .slice none 0 0 ∧ m = 0) → K (a.put o.dst v') w') : o.wp P a w K Q :=
  wp_appAt s x t ho base e i z size bytes ht hi hz hsize hby hzs hsz v n xs hs hown B A m c news hx hr h1 h63 hbytes hbase fun v' w' h2 h3 h4 _ => h v' w' h2 h3 h4
theorem wpList_app {P : Program} {w : World} {ops : Array Oper} {rest : List Oper} {o : Oper} {a : Act} {Q : Exit → Act → World → Prop} (hgd : o.guard = none) (s x : Operand) (t : TypeId)
    (ho : o.op = .call { callee := .builtin .append, args := #[s, x], argTypes := #[t, t] })
    (base : Nat) (e : TypeId) (i : TypeInfo) (z : Value) (size bytes : Nat) (ht : P.underlying t = some (.slice e)) (hi : P.info? e = some i) (hz : i.zero = some z)
    (hsize : i.size = size) (hby : i.bytes = bytes) (hzs : z.cells.size = size) (hsz : 0 < size)
    (v : Value) (n : Nat) (xs : List Value) (hs : a.eval s = v) (hown : w.ownsRow base e size v n xs)
    (B : Nat) (A : Option Addr) (m c : Nat) (news : List Value) (hx : a.eval x = .slice A m c) (hr : Rd w B size A m c news) (h1 : ∀ u ∈ news, u.oneCell' = true)
    (h63 : n + m ≤ maxLen) (hbytes : (n + m) * bytes ≤ 140737488355328) (hbase : base ≤ w.heap.size)
    (h : ∀ v' w', w'.ownsRow base e size v' (n + m) (xs ++ news) → w.grownBy w' v.ownBlock → (v' = .slice none 0 0 ↔ v = .slice none 0 0 ∧ m = 0) → wpList P ops Q rest (a.put o.dst v') w') : wpList P ops Q (o :: rest) a w :=
  wpList_plain hgd fun _ hK => wp_app s x t ho base e i z size bytes ht hi hz hsize hby hzs hsz v n xs hs hown B A m c news hx hr h1 h63 hbytes hbase fun v' w' h2 h3 h4 => hK _ _ (h v' w' h2 h3 h4)
/-- A call that only reads: it may draw. -/
def Qt (w : World) (v : Value) (e : Ending) (w' : World) : Prop := e = .returned v ∧ ∃ k, w' = w.drewN k
end Go.Proofs.YtkckncggiicciaaDoor
/-
  Rows of bytes of the call's own, beside XMemg's general words.
-/
namespace Go.Proofs.YtkckncggiicciaaDoor
open Go.RowKit
theorem info_u8 : (Tryd.prog.info? 5).map (fun i => (i.zero, i.size, i.bytes)) = some (some (.int .u8 0), 1, 1) := by kernel_rfl
theorem size_u8 : (Tryd.prog.info? 5).map (·.size) = some 1 := by kernel_rfl
/-- A row of bytes of the call's own. -/
def OwnB (w : World) (base : Nat) (v : Value) (l : List UInt8) : Prop := w.ownsRow base 5 1 v l.length (l.map bv)
theorem own_by {w : World} {base : Nat} {v : Value} {l : List UInt8} (h : OwnB w base v l) {n : Nat} (hn : l.length = n) : ∃ A cap, v = .slice A n cap ∧ By w w.heap.size A n cap l := by
  subst hn
  exact Rd.of_own h
theorem OwnB.below {w w' : World} {base : Nat} {v : Value} {l : List UInt8} (h : OwnB w base v l) (hb : Below w.heap.size w w') : OwnB w' base v l := own_below h hb
theorem OwnB.base {w : World} {base base' : Nat} {v : Value} {l : List UInt8} (h : OwnB w base v l) (hb : base' ≤ base) : OwnB w base' v l := own_base h hb
theorem own_empty {w w2 : World} (h : w.heap.size ≤ w2.heap.size) : (w2.alloc (.cells #[] 5)).ownsRow w.heap.size 5 1 (.slice (some ⟨w2.heap.size, 0, none⟩) 0 0) 0 [] :=
  ⟨rfl, .inr ⟨w2.heap.size, 0, _, rfl, h, heap_alloc_new w2 _, Nat.le_refl _, by decide, rfl, rfl⟩⟩
theorem bvs_one {l : List UInt8} : ∀ u ∈ l.map bv, u.oneCell' = true := by
  intro u hu
  obtain ⟨c, _, rfl⟩ := List.mem_map.1 hu
  rfl
theorem grown_alloc {w w' : World} {o : Obj} {row : Option Nat} (h : (w.alloc o).grownBy w' row) : w.grownBy w' row :=
  ⟨h.os, h.tape, h.output, Nat.le_trans (by simp) h.size, fun k hk hr => (h.block k (by simp; omega) hr).trans (Below.heap_alloc w o k hk)⟩
/-- An append of bytes that are read onto a row of bytes of the call's own. -/
theorem wp_appB {w : World} {o : Oper} {a : Act} {K : Act → World → Prop} {Q : Exit → Act → World → Prop} (s x : Operand)
    (ho : o.op = .call { callee := .builtin .append, args := #[s, x], argTypes := #[26, 26] })
    (base : Nat) (v : Value) (l : List UInt8) (hs : a.eval s = v) (hown : OwnB w base v l)
    (B : Nat) (A : Option Addr) (m c : Nat) (l' : List UInt8) (hx : a.eval x = .slice A m c) (hr : By w B A m c l')
    (hbytes : l.length + m ≤ 140737488355328) (hbase : base ≤ w.heap.size)
    (h : ∀ v' w', OwnB w' base v' (l ++ l') → w.grownBy w' v.ownBlock → K (a.put o.dst v') w') : o.wp Tryd.prog a w K Q := by
  obtain ⟨i0, hi, hz0, hz1, hz2⟩ := info_parts info_u8
  refine wp_app s x _ ho base 5 i0 _ 1 1 Tryd.underlying26 hi hz0 hz1 hz2 rfl (by omega) v l.length (l.map bv) hs hown B A m c (l'.map bv) hx hr bvs_one (by simp only [maxLen]; omega) (by omega) hbase ?_
  intro v' w' h1 h2 _
  refine h v' w' ?_ h2
  unfold OwnB
  rw [List.length_append, List.map_append, hr.len]
  exact h1
theorem wpList_appB {w : World} {ops : Array Oper} {rest : List Oper} {o : Oper} {a : Act} {Q : Exit → Act → World → Prop} (hgd : o.guard = none) (s x : Operand)
    (ho : o.op = .call { callee := .builtin .append, args := #[s, x], argTypes := #[26, 26] })
    (base : Nat) (v : Value) (l : List UInt8) (hs : a.eval s = v) (hown : OwnB w base v l)
    (B : Nat) (A : Option Addr) (m c : Nat) (l' : List UInt8) (hx : a.eval x = .slice A m c) (hr : By w B A m c l')
    (hbytes : l.length + m ≤ 140737488355328) (hbase : base ≤ w.heap.size)
    (h : ∀ v' w', OwnB w' base v' (l ++ l') → w.grownBy w' v.ownBlock → wpList Tryd.prog ops Q rest (a.put o.dst v') w') : wpList Tryd.prog ops Q (o :: rest) a w :=
  wpList_plain hgd fun _ hK => wp_appB s x ho base v l hs hown B A m c l' hx hr hbytes hbase fun v' w' h2 h3 => hK _ _ (h v' w' h2 h3)
/-- The same in a region that draws its order. -/
theorem step_appB {w : World} {ops : Array Oper} {o : Oper} {a : Act} {K : Act → World → Prop} {Q : Exit → Act → World → Prop} {E : Prop} (hgd : o.guard = none) (s x : Operand)
    (ho : o.op = .call { callee := .builtin .append, args := #[s, x], argTypes := #[26, 26] })
    (base : Nat) (v : Value) (l : List UInt8) (hs : a.eval s = v) (hown : OwnB w base v l)
    (B : Nat) (A : Option Addr) (m c : Nat) (l' : List UInt8) (hx : a.eval x = .slice A m c) (hr : By w B A m c l')
    (hbytes : l.length + m ≤ 140737488355328) (hbase : base ≤ w.heap.size)
    (h : ∀ v' w', OwnB w' base v' (l ++ l') → w.grownBy w' v.ownBlock → K (a.put o.dst v') w') :
    if Region.wanted o (yielded ops a.tmps) = true then Oper.wp Tryd.prog o a w K Q else E := by
  have hw : Region.wanted o (yielded ops a.tmps) = true := by simp [Region.wanted, hgd]
  rw [if_pos hw]
  exact wp_appB s x ho base v l hs hown B A m c l' hx hr hbytes hbase h
/-- .. and where the row lies behind it. -/
theorem wpList_appBAt {w : World} {ops : Array Oper} {rest : List Oper} {o : Oper} {a : Act} {Q : Exit → Act → World → Prop} (hgd : o.guard = none) (s x : Operand)
    (ho : o.op = .call { callee := .builtin .append, args := #[s, x], argTypes := #[26, 26] })
    (base : Nat) (v : Value) (l : List UInt8) (hs : a.eval s = v) (hown : OwnB w base v l)
    (B : Nat) (A : Option Addr) (m c : Nat) (l' : List UInt8) (hx : a.eval x = .slice A m c) (hr : By w B A m c l')
    (hbytes : l.length + m ≤ 140737488355328) (hbase : base ≤ w.heap.size)
    (h : ∀ v' w', OwnB w' base v' (l ++ l') → w.grownBy w' v.ownBlock → (v'.ownBlock = v.ownBlock ∨ v'.ownBlock = some w.heap.size) → wpList Tryd.prog ops Q rest (a.put o.dst v') w') : wpList Tryd.prog ops Q (o :: rest) a w := by
  obtain ⟨i0, hi, hz0, hz1, hz2⟩ := info_parts info_u8
  refine wpList_plain hgd fun _ hK => wp_appAt s x _ ho base 5 i0 _ 1 1 Tryd.underlying26 hi hz0 hz1 hz2 rfl (by omega) v l.length (l.map bv) hs hown B A m c (l'.map bv) hx hr bvs_one (by simp only [maxLen]; omega) (by omega) hbase ?_
  intro v' w' h1 h2 _ h4
  refine hK _ _ (h v' w' ?_ h2 h4)
  unfold OwnB
  rw [List.length_append, List.map_append, hr.len]
  exact h1
/-- The same in a region that draws its order, and where the row lies behind it. -/
theorem step_appBAt {w : World} {ops : Array Oper} {o : Oper} {a : Act} {K : Act → World → Prop} {Q : Exit → Act → World → Prop} {E : Prop} (hgd : o.guard = none) (s x : Operand)
    (ho : o.op = .call { callee := .builtin .append, args := #[s, x], argTypes := #[26, 26] })
    (base : Nat) (v : Value) (l : List UInt8) (hs : a.eval s = v) (hown : OwnB w base v l)
    (B : Nat) (A : Option Addr) (m c : Nat) (l' : List UInt8) (hx : a.eval x = .slice A m c) (hr : By w B A m c l')
    (hbytes : l.length + m ≤ 140737488355328) (hbase : base ≤ w.heap.size)
    (h : ∀ v' w', OwnB w' base v' (l ++ l') → w.grownBy w' v.ownBlock → (v'.ownBlock = v.ownBlock ∨ v'.ownBlock = some w.heap.size) → K (a.put o.dst v') w') :
    if Region.wanted o (yielded ops a.tmps) = true then Oper.wp Tryd.prog o a w K Q else E := by
  have hw : Region.wanted o (yielded ops a.tmps) = true := by simp [Region.wanted, hgd]
  rw [if_pos hw]
  obtain ⟨i0, hi, hz0, hz1, hz2⟩ := info_parts info_u8
  refine wp_appAt s x _ ho base 5 i0 _ 1 1 Tryd.underlying26 hi hz0 hz1 hz2 rfl (by omega) v l.length (l.map bv) hs hown B A m c (l'.map bv) hx hr bvs_one (by simp only [maxLen]; omega) (by omega) hbase ?_
  intro v' w' h1 h2 _ h4
  refine h v' w' ?_ h2 h4
  unfold OwnB
  rw [List.length_append, List.map_append, hr.len]
  exact h1
theorem grown_trans_row {a b c : World} {row : Option Nat} (h : a.grownBy b row) (k : b.grownBy c row) : a.grownBy c row :=
  ⟨k.os.trans h.os, k.tape.trans h.tape, k.output.trans h.output, Nat.le_trans h.size k.size, fun i hi hne => (k.block i (Nat.lt_of_lt_of_le hi h.size) hne).trans (h.block i hi hne)⟩
/-- A cell of a row of bytes of the call's own: it reads, it may be written, and the row is then the row with that byte. -/
theorem own_cell {w : World} {base n cap k : Nat} {A : Option Addr} {l : List UInt8} (h : OwnB w base (.slice A n cap) l) (hl : l.length = n) (hk : k < n) :
    ∃ g, A = some ⟨g, 0, none⟩ ∧ ∃ c : UInt8, w.cell? ⟨g, k, none⟩ = some (.int .u8 (c.toNat : Int)) ∧ w.frozen? ⟨g, k, none⟩ = false ∧ Hid (l[k]? = some c) ∧
      Hid (∀ d : UInt8, OwnB (w.setCell ⟨g, k, none⟩ (.int .u8 (d.toNat : Int))) base (.slice (some ⟨g, 0, none⟩) n cap) (l.set k d) ∧
        w.grownBy (w.setCell ⟨g, k, none⟩ (.int .u8 (d.toNat : Int))) (some g)) := by
  subst hl
  obtain ⟨h1, ⟨e, h2⟩ | ⟨g, cap', cur, e, hb, hg, hn, hm, hs, ht⟩⟩ := h
  · omega
  · injection e with e1 e2 e3
    subst e1
    subst e3
    refine ⟨g, rfl, l[k], ?_, frozen_of_row w g k cur _ hg, by simp [Hid], fun d => ⟨?_, ⟨rfl, rfl, rfl, by simp [World.setCell], fun i hi hne => Below.heap_setCell _ _ _ _ (fun e => hne (by rw [e]))⟩⟩⟩
    · rw [cell_of_row w g k cur _ _ hg]
      have hx : (l.map bv)[k]? = some (bv l[k]) := by simp [hk]
      rw [← ht, List.getElem?_take, if_pos (by omega)] at hx
      simpa [bv] using hx
    · refine ⟨by simp, .inr ⟨g, cap, cur.setIfInBounds k (bv d), by simp, hb, heap_setCell_same w g k cur _ _ hg, by simpa using hn, hm, by simpa using hs, ?_⟩⟩
      have e : (l.set k d).map bv = (l.map bv).set k (bv d) := by rw [List.map_set]
      rw [e, ← ht]
      simp [List.take_set]
theorem by_one (w : World) (c : UInt8) : By (w.alloc (.cells #[.int .u8 (c.toNat : Int)] 5)) (w.heap.size + 1) (some ⟨w.heap.size, 0, none⟩) 1 1 [c] := rd_one w _ _
/-- Two new elements, as an append lays them. -/
theorem rd_two (w : World) (u v : Value) (e : TypeId) : Rd (w.alloc (.cells #[u, v] e)) (w.heap.size + 1) 1 (some ⟨w.heap.size, 0, none⟩) 2 2 [u, v] := by
  refine ⟨rfl, Nat.le_refl _, by decide, fun _ => ⟨w.heap.size, 0, rfl, by omega, fun j x hx => ?_⟩⟩
  rw [Nat.zero_add, cell_of_row _ _ _ _ _ _ (heap_alloc_new w _)]
  simpa using hx
theorem by_two (w : World) (c d : UInt8) : By (w.alloc (.cells #[.int .u8 (c.toNat : Int), .int .u8 (d.toNat : Int)] 5)) (w.heap.size + 1) (some ⟨w.heap.size, 0, none⟩) 2 2 [c, d] := rd_two w _ _ _
/-- A literal of one byte is a row of the call's own. -/
theorem own_lit {w : World} {base : Nat} (h : base ≤ w.heap.size) (c : UInt8) : OwnB (w.alloc (.cells #[.int .u8 (c.toNat : Int)] 5)) base (.slice (some ⟨w.heap.size, 0, none⟩) 1 1) [c] :=
  ⟨rfl, .inr ⟨w.heap.size, 1, _, rfl, h, heap_alloc_new w _, Nat.le_refl _, by decide, rfl, rfl⟩⟩
/-- The bytes of a slice, as a string. -/
theorem conv_by {w : World} {B n cap : Nat} {A : Option Addr} {l : List UInt8} (h : By w B A n cap l) : (convert 26 9 (.slice A n cap)).run Tryd.prog w = .ok (.string ⟨l.toArray⟩) w := by
  have hl := h.len
  by_cases h0 : 0 < n
  · obtain ⟨b, off, rfl, hb, hc⟩ := h.at h0
    rw [run_convert_bytes_arg w 26 5 Tryd.underlying26 Tryd.underlying5 b off n cap (l.map fun c => (c.toNat : Int)) (by simpa using hl) (fun k hk => ?_) 9 Tryd.underlying9]
    · have e : strOfNums (l.map fun c => (c.toNat : Int)) = ⟨l.toArray⟩ := by
        unfold strOfNums
        rw [List.map_map]
        congr 1
        have : ((fun n : Int => UInt8.ofNat n.toNat) ∘ fun c : UInt8 => (c.toNat : Int)) = id := by
          funext c
          simp
        rw [this, List.map_id]
      rw [e]
    · have hk' : k < l.length := by omega
      rw [hc k hk']
      simp [List.getD, hk']
  · obtain rfl : n = 0 := by omega
    have hl0 : l = [] := List.eq_nil_of_length_eq_zero hl
    subst hl0
    cases A with
    | none => exact run_convert_bytes_nil w 26 5 Tryd.underlying26 Tryd.underlying5 0 cap 9 Tryd.underlying9
    | some a =>
      obtain ⟨b, off, spot⟩ := a
      rw [run_convert_bytes_string w 26 9 5 _ 0 cap Tryd.underlying26 Tryd.underlying5 Tryd.underlying9, run_bytesToString w _ 0 cap [] (by simpa using run_loadCells_list (P := Tryd.prog) w ⟨b, off, spot⟩ [] (fun j v hj => by simp at hj))]
      rfl
end Go.Proofs.YtkckncggiicciaaDoor
/-
  Contracts of library functions at this program, laid by the shelf.
-/
namespace Go.Proofs
open Go.Shelf
def Tryd.lays156_ren : Go.Shelf.Ren := ⟨fun | 156 => 61 | 165 => 84 | 166 => 85 | 169 => 86 | 240 => 105 | 241 => 106 | 276 => 125 | 277 => 126 | n => n, fun | 31 => 34 | 9 => 9 | 3 => 3 | 4 => 4 | 0 => 0 | 20 => 20 | 72 => 137 | 76 => 139 | 70 => 135 | 37 => 26 | 75 => 131 | 127 => 157 | 164 => 176 | 5 => 5 | 80 => 141 | n => n, fun | n => n⟩
theorem Tryd.lays156 : Go.Proofs.Lays.n156 Tryd.prog Tryd.lays156_ren := {
  mixed := by kernel_rfl
  f156 := Tryd.func61.trans (congrArg some (by kernel_rfl))
  f165 := Tryd.func84.trans (congrArg some (by kernel_rfl))
  f166 := Tryd.func85.trans (congrArg some (by kernel_rfl))
  f169 := Tryd.func86.trans (congrArg some (by kernel_rfl))
  f240 := Tryd.func105.trans (congrArg some (by kernel_rfl))
  f241 := Tryd.func106.trans (congrArg some (by kernel_rfl))
  f276 := Tryd.func125.trans (congrArg some (by kernel_rfl))
  f277 := Tryd.func126.trans (congrArg some (by kernel_rfl))
  t0 := Tryd.underlying0
  a0 := Tryd.isAgg0
  z0 := Tryd.sizeOf0
  v0 := Tryd.zeroValue0
  t3 := Tryd.underlying3
  a3 := Tryd.isAgg3
  z3 := Tryd.sizeOf3
  v3 := Tryd.zeroValue3
  t4 := Tryd.underlying4
  a4 := Tryd.isAgg4
  z4 := Tryd.sizeOf4
  v4 := Tryd.zeroValue4
  t9 := Tryd.underlying9
  a9 := Tryd.isAgg9
  z9 := Tryd.sizeOf9
  v9 := Tryd.zeroValue9
  t20 := Tryd.underlying20
  a20 := Tryd.isAgg20
  z20 := Tryd.sizeOf20
  v20 := Tryd.zeroValue20
  t31 := Tryd.underlying34
  a31 := Tryd.isAgg34
  z31 := Tryd.sizeOf34
  v31 := Tryd.zeroValue34
  t37 := Tryd.underlying26
  a37 := Tryd.isAgg26
  z37 := Tryd.sizeOf26
  v37 := Tryd.zeroValue26
  t70 := Tryd.underlying135
  a70 := Tryd.isAgg135
  z70 := Tryd.sizeOf135
  v70 := Tryd.zeroValue135
  t72 := Tryd.underlying137
  a72 := Tryd.isAgg137
  z72 := Tryd.sizeOf137
  v72 := Tryd.zeroValue137
  t75 := Tryd.underlying131
  a75 := Tryd.isAgg131
  z75 := Tryd.sizeOf131
  v75 := Tryd.zeroValue131
  t76 := Tryd.underlying139
  a76 := Tryd.isAgg139
  z76 := Tryd.sizeOf139
  v76 := Tryd.zeroValue139
  t127 := Tryd.underlying157
  a127 := Tryd.isAgg157
  z127 := Tryd.sizeOf157
  v127 := Tryd.zeroValue157
  t164 := Tryd.underlying176
  a164 := Tryd.isAgg176
  z164 := Tryd.sizeOf176
  v164 := Tryd.zeroValue176 }
theorem Tryd.Builder_Extra_156 : Builder.Extra Tryd.prog Tryd.lays156_ren := {
  sizeBuilder := by kernel_rfl
  liesBuilder := by kernel_rfl
  t5 := Tryd.underlying5
  a5 := Tryd.isAgg5
  z5 := Tryd.sizeOf5
  v5 := Tryd.zeroValue5
  infoByte := by kernel_rfl
  cellsByte := by kernel_rfl
  sizeByte := by kernel_rfl
  neB5 := by decide }
open Go.RowKit in
theorem Tryd.strings_Join_none (a : Option Addr) (c : Nat) (sep : ByteArray) (w : World) :
    Calls Tryd.prog 61 #[.slice a 0 c, .string sep] w fun e w' => e = .returned (.string ⟨#[]⟩) ∧ w' = w := Any.strings_Join_none Tryd.lays156 Tryd.Builder_Extra_156 a c sep w
open Go.RowKit in
theorem Tryd.strings_Join (bk o c : Nat) (xs : List ByteArray) (sep : ByteArray) (w : World) (hcells : ∀ (j : Nat) x, xs[j]? = some x → w.cell? ⟨bk, o + j, none⟩ = some (.string x)) (hbk : bk < w.heap.size) (hN : xs.length ≤ 140737488355328) (hcap : xs.length ≤ c) (hlen : (Lib.join (xs.map (·.data.toList)) sep.data.toList).length ≤ 140737488355328) :
    Calls Tryd.prog 61 #[.slice (some ⟨bk, o, none⟩) xs.length c, .string sep] w fun e w' => e = .returned (.string ⟨(Lib.join (xs.map (·.data.toList)) sep.data.toList).toArray⟩) ∧ Below w.heap.size w w' := Any.strings_Join Tryd.lays156 Tryd.Builder_Extra_156 bk o c xs sep w hcells hbk hN hcap hlen
def Tryd.lays137_ren : Go.Shelf.Ren := ⟨fun | 137 => 80 | 217 => 104 | 266 => 124 | n => n, fun | 9 => 9 | 5 => 5 | 3 => 3 | n => n, fun | n => n⟩
theorem Tryd.lays137 : Go.Proofs.Lays.n137 Tryd.prog Tryd.lays137_ren := {
  mixed := by kernel_rfl
  f137 := Tryd.func80.trans (congrArg some (by kernel_rfl))
  f217 := Tryd.func104.trans (congrArg some (by kernel_rfl))
  f266 := Tryd.func124.trans (congrArg some (by kernel_rfl))
  t3 := Tryd.underlying3
  a3 := Tryd.isAgg3
  z3 := Tryd.sizeOf3
  v3 := Tryd.zeroValue3
  t5 := Tryd.underlying5
  a5 := Tryd.isAgg5
  z5 := Tryd.sizeOf5
  v5 := Tryd.zeroValue5
  t9 := Tryd.underlying9
  a9 := Tryd.isAgg9
  z9 := Tryd.sizeOf9
  v9 := Tryd.zeroValue9 }
open Go.RowKit in
theorem Tryd.strings_IndexByte (s : ByteArray) (c : Int) (w : World) :
    Calls Tryd.prog 80 #[.string s, .int .u8 c] w fun e w' => e = .returned (.int .i64 (Lib.indexByte s.data.toList c.toNat.toUInt8)) ∧ w' = w := Any.strings_IndexByte Tryd.lays137 s c w
def Tryd.laysM171_ren : Go.Shelf.Ren := ⟨fun | 171 => 8 | 243 => 32 | 246 => 62 | 283 => 87 | 284 => 88 | 285 => 89 | 286 => 90 | 129 => 108 | 317 => 107 | 318 => 109 | 319 => 110 | 320 => 111 | 337 => 127 | 338 => 128 | n => n, fun | 3 => 3 | 9 => 9 | 2 => 2 | 4 => 4 | 171 => 142 | 0 => 0 | 53 => 93 | 37 => 26 | 5 => 5 | 173 => 145 | 212 => 160 | 51 => 161 | 20 => 20 | 213 => 162 | 46 => 95 | 232 => 187 | 233 => 188 | n => n, fun | 17 => 1 | 18 => 5 | 19 => 6 | n => n⟩
theorem Tryd.laysM171 : Go.Proofs.LaysM.n171 Tryd.prog Tryd.laysM171_ren := {
  mixed := by kernel_rfl
  f129 := Tryd.func108.trans (congrArg some (by kernel_rfl))
  f171 := Tryd.func8.trans (congrArg some (by kernel_rfl))
  f243 := Tryd.func32.trans (congrArg some (by kernel_rfl))
  f246 := Tryd.func62.trans (congrArg some (by kernel_rfl))
  f283 := Tryd.func87.trans (congrArg some (by kernel_rfl))
  f284 := Tryd.func88.trans (congrArg some (by kernel_rfl))
  f285 := Tryd.func89.trans (congrArg some (by kernel_rfl))
  f286 := Tryd.func90.trans (congrArg some (by kernel_rfl))
  f317 := Tryd.func107.trans (congrArg some (by kernel_rfl))
  f318 := Tryd.func109.trans (congrArg some (by kernel_rfl))
  f319 := Tryd.func110.trans (congrArg some (by kernel_rfl))
  f320 := Tryd.func111.trans (congrArg some (by kernel_rfl))
  f337 := Tryd.func127.trans (congrArg some (by kernel_rfl))
  f338 := Tryd.func128.trans (congrArg some (by kernel_rfl))
  t0 := Tryd.underlying0
  a0 := Tryd.isAgg0
  z0 := Tryd.sizeOf0
  v0 := Tryd.zeroValue0
  t2 := Tryd.underlying2
  a2 := Tryd.isAgg2
  z2 := Tryd.sizeOf2
  v2 := Tryd.zeroValue2
  t3 := Tryd.underlying3
  a3 := Tryd.isAgg3
  z3 := Tryd.sizeOf3
  v3 := Tryd.zeroValue3
  t4 := Tryd.underlying4
  a4 := Tryd.isAgg4
  z4 := Tryd.sizeOf4
  v4 := Tryd.zeroValue4
  t5 := Tryd.underlying5
  a5 := Tryd.isAgg5
  z5 := Tryd.sizeOf5
  v5 := Tryd.zeroValue5
  t9 := Tryd.underlying9
  a9 := Tryd.isAgg9
  z9 := Tryd.sizeOf9
  v9 := Tryd.zeroValue9
  t20 := Tryd.underlying20
  a20 := Tryd.isAgg20
  z20 := Tryd.sizeOf20
  v20 := Tryd.zeroValue20
  t37 := Tryd.underlying26
  a37 := Tryd.isAgg26
  z37 := Tryd.sizeOf26
  v37 := Tryd.zeroValue26
  t46 := Tryd.underlying95
  a46 := Tryd.isAgg95
  z46 := Tryd.sizeOf95
  v46 := Tryd.zeroValue95
  t51 := Tryd.underlying161
  a51 := Tryd.isAgg161
  z51 := Tryd.sizeOf161
  v51 := Tryd.zeroValue161
  t53 := Tryd.underlying93
  a53 := Tryd.isAgg93
  z53 := Tryd.sizeOf93
  v53 := Tryd.zeroValue93
  t171 := Tryd.underlying142
  a171 := Tryd.isAgg142
  z171 := Tryd.sizeOf142
  v171 := Tryd.zeroValue142
  t173 := Tryd.underlying145
  a173 := Tryd.isAgg145
  z173 := Tryd.sizeOf145
  v173 := Tryd.zeroValue145
  t212 := Tryd.underlying160
  a212 := Tryd.isAgg160
  z212 := Tryd.sizeOf160
  v212 := Tryd.zeroValue160
  t213 := Tryd.underlying162
  a213 := Tryd.isAgg162
  z213 := Tryd.sizeOf162
  t232 := Tryd.underlying187
  a232 := Tryd.isAgg187
  z232 := Tryd.sizeOf187
  v232 := Tryd.zeroValue187
  t233 := Tryd.underlying188
  a233 := Tryd.isAgg188
  z233 := Tryd.sizeOf188
  v233 := Tryd.zeroValue188
  g17 := by kernel_rfl
  g18 := by kernel_rfl
  g19 := by kernel_rfl
  i0 := by kernel_rfl
  i2 := by kernel_rfl
  i3 := by kernel_rfl
  i4 := by kernel_rfl
  i5 := by kernel_rfl
  i9 := by kernel_rfl
  i20 := by kernel_rfl
  i37 := by kernel_rfl
  i46 := by kernel_rfl
  i51 := by kernel_rfl
  i53 := by kernel_rfl
  i171 := by kernel_rfl
  i173 := by kernel_rfl
  i212 := by kernel_rfl
  i232 := by kernel_rfl
  i233 := by kernel_rfl
  m17 := by kernel_rfl
  m18 := by kernel_rfl
  m19 := by kernel_rfl }
open Go.RowKit Go.Sort Go.Lib in
theorem Tryd.strconv_Itoa (n : Int) (h0 : -9223372036854775808 ≤ n) (h1 : n ≤ 9223372036854775807) (w : World) (htab : Lib.TabIs Tryd.prog w "internal/strconv.uint64pow10" .u64 Lib.pow10Tab) :
    Calls Tryd.prog 8 #[.int .i64 n] w fun e w' => e = .returned (.string ⟨(Lib.itoa n).toArray⟩) ∧ ∃ k os, w' = grow (w.drewN k) os := Any.strconv_Itoa Tryd.laysM171 n h0 h1 w htab
def Tryd.laysC245_ren : Go.Shelf.Ren := ⟨fun | 245 => 103 | 279 => 120 | 280 => 121 | 281 => 122 | 282 => 123 | 316 => 132 | 171 => 8 | 205 => 133 | 243 => 32 | 246 => 62 | 283 => 87 | 284 => 88 | 285 => 89 | 286 => 90 | 129 => 108 | 317 => 107 | 318 => 109 | 319 => 110 | 320 => 111 | 337 => 127 | 338 => 128 | n => n, fun | 9 => 9 | 3 => 3 | 75 => 131 | 167 => 170 | 4 => 4 | 168 => 173 | 210 => 185 | 37 => 26 | 0 => 0 | 127 => 157 | 145 => 191 | 143 => 189 | 2 => 2 | 171 => 142 | 53 => 93 | 5 => 5 | 173 => 145 | 212 => 160 | 51 => 161 | 20 => 20 | 213 => 162 | 46 => 95 | 232 => 187 | 233 => 188 | 80 => 141 | n => n, fun | 15 => 2 | 16 => 3 | 17 => 1 | 18 => 5 | 19 => 6 | n => n⟩
theorem Tryd.laysC245 : Go.Proofs.LaysC.n245 Tryd.prog Tryd.laysC245_ren := {
  mixed := by kernel_rfl
  f129 := Tryd.func108.trans (congrArg some (by kernel_rfl))
  f171 := Tryd.func8.trans (congrArg some (by kernel_rfl))
  f205 := Tryd.func133.trans (congrArg some (by kernel_rfl))
  f243 := Tryd.func32.trans (congrArg some (by kernel_rfl))
  f245 := Tryd.func103.trans (congrArg some (by kernel_rfl))
  f246 := Tryd.func62.trans (congrArg some (by kernel_rfl))
  f279 := Tryd.func120.trans (congrArg some (by kernel_rfl))
  f280 := Tryd.func121.trans (congrArg some (by kernel_rfl))
  f281 := Tryd.func122.trans (congrArg some (by kernel_rfl))
  f282 := Tryd.func123.trans (congrArg some (by kernel_rfl))
  f283 := Tryd.func87.trans (congrArg some (by kernel_rfl))
  f284 := Tryd.func88.trans (congrArg some (by kernel_rfl))
  f285 := Tryd.func89.trans (congrArg some (by kernel_rfl))
  f286 := Tryd.func90.trans (congrArg some (by kernel_rfl))
  f316 := Tryd.func132.trans (congrArg some (by kernel_rfl))
  f317 := Tryd.func107.trans (congrArg some (by kernel_rfl))
  f318 := Tryd.func109.trans (congrArg some (by kernel_rfl))
  f319 := Tryd.func110.trans (congrArg some (by kernel_rfl))
  f320 := Tryd.func111.trans (congrArg some (by kernel_rfl))
  f337 := Tryd.func127.trans (congrArg some (by kernel_rfl))
  f338 := Tryd.func128.trans (congrArg some (by kernel_rfl))
  t0 := Tryd.underlying0
  a0 := Tryd.isAgg0
  z0 := Tryd.sizeOf0
  v0 := Tryd.zeroValue0
  t2 := Tryd.underlying2
  a2 := Tryd.isAgg2
  z2 := Tryd.sizeOf2
  v2 := Tryd.zeroValue2
  t3 := Tryd.underlying3
  a3 := Tryd.isAgg3
  z3 := Tryd.sizeOf3
  v3 := Tryd.zeroValue3
  t4 := Tryd.underlying4
  a4 := Tryd.isAgg4
  z4 := Tryd.sizeOf4
  v4 := Tryd.zeroValue4
  t5 := Tryd.underlying5
  a5 := Tryd.isAgg5
  z5 := Tryd.sizeOf5
  v5 := Tryd.zeroValue5
  t9 := Tryd.underlying9
  a9 := Tryd.isAgg9
  z9 := Tryd.sizeOf9
  v9 := Tryd.zeroValue9
  t20 := Tryd.underlying20
  a20 := Tryd.isAgg20
  z20 := Tryd.sizeOf20
  v20 := Tryd.zeroValue20
  t37 := Tryd.underlying26
  a37 := Tryd.isAgg26
  z37 := Tryd.sizeOf26
  v37 := Tryd.zeroValue26
  t46 := Tryd.underlying95
  a46 := Tryd.isAgg95
  z46 := Tryd.sizeOf95
  v46 := Tryd.zeroValue95
  t51 := Tryd.underlying161
  a51 := Tryd.isAgg161
  z51 := Tryd.sizeOf161
  v51 := Tryd.zeroValue161
  t53 := Tryd.underlying93
  a53 := Tryd.isAgg93
  z53 := Tryd.sizeOf93
  v53 := Tryd.zeroValue93
  t75 := Tryd.underlying131
  a75 := Tryd.isAgg131
  z75 := Tryd.sizeOf131
  v75 := Tryd.zeroValue131
  t127 := Tryd.underlying157
  a127 := Tryd.isAgg157
  z127 := Tryd.sizeOf157
  v127 := Tryd.zeroValue157
  t143 := Tryd.underlying189
  a143 := Tryd.isAgg189
  z143 := Tryd.sizeOf189
  v143 := Tryd.zeroValue189
  t145 := Tryd.underlying191
  a145 := Tryd.isAgg191
  z145 := Tryd.sizeOf191
  v145 := Tryd.zeroValue191
  t167 := Tryd.underlying170
  a167 := Tryd.isAgg170
  z167 := Tryd.sizeOf170
  v167 := Tryd.zeroValue170
  t168 := Tryd.underlying173
  a168 := Tryd.isAgg173
  z168 := Tryd.sizeOf173
  v168 := Tryd.zeroValue173
  t171 := Tryd.underlying142
  a171 := Tryd.isAgg142
  z171 := Tryd.sizeOf142
  v171 := Tryd.zeroValue142
  t173 := Tryd.underlying145
  a173 := Tryd.isAgg145
  z173 := Tryd.sizeOf145
  v173 := Tryd.zeroValue145
  t210 := Tryd.underlying185
  a210 := Tryd.isAgg185
  z210 := Tryd.sizeOf185
  v210 := Tryd.zeroValue185
  t212 := Tryd.underlying160
  a212 := Tryd.isAgg160
  z212 := Tryd.sizeOf160
  v212 := Tryd.zeroValue160
  t213 := Tryd.underlying162
  a213 := Tryd.isAgg162
  z213 := Tryd.sizeOf162
  t232 := Tryd.underlying187
  a232 := Tryd.isAgg187
  z232 := Tryd.sizeOf187
  v232 := Tryd.zeroValue187
  t233 := Tryd.underlying188
  a233 := Tryd.isAgg188
  z233 := Tryd.sizeOf188
  v233 := Tryd.zeroValue188
  g15 := by kernel_rfl
  g16 := by kernel_rfl
  g17 := by kernel_rfl
  g18 := by kernel_rfl
  g19 := by kernel_rfl
  t80 := Tryd.underlying141
  a80 := Tryd.isAgg141
  z80 := Tryd.sizeOf141
  v80 := Tryd.zeroValue141
  i0 := by kernel_rfl
  i2 := by kernel_rfl
  i3 := by kernel_rfl
  i4 := by kernel_rfl
  i5 := by kernel_rfl
  i9 := by kernel_rfl
  i20 := by kernel_rfl
  i37 := by kernel_rfl
  i46 := by kernel_rfl
  i51 := by kernel_rfl
  i53 := by kernel_rfl
  i75 := by kernel_rfl
  i80 := by kernel_rfl
  i127 := by kernel_rfl
  i143 := by kernel_rfl
  i145 := by kernel_rfl
  i167 := by kernel_rfl
  i168 := by kernel_rfl
  i171 := by kernel_rfl
  i173 := by kernel_rfl
  i210 := by kernel_rfl
  i212 := by kernel_rfl
  i232 := by kernel_rfl
  i233 := by kernel_rfl
  m15 := by kernel_rfl
  m16 := by kernel_rfl
  m17 := by kernel_rfl
  m18 := by kernel_rfl
  m19 := by kernel_rfl
  c0 := by kernel_rfl
  c2 := by kernel_rfl
  c3 := by kernel_rfl
  c4 := by kernel_rfl
  c5 := by kernel_rfl
  c9 := by kernel_rfl
  c20 := by kernel_rfl
  c37 := by kernel_rfl
  c46 := by kernel_rfl
  c51 := by kernel_rfl
  c53 := by kernel_rfl
  c75 := by kernel_rfl
  c80 := by kernel_rfl
  c127 := by kernel_rfl
  c143 := by kernel_rfl
  c145 := by kernel_rfl
  c167 := by kernel_rfl
  c168 := by kernel_rfl
  c171 := by kernel_rfl
  c173 := by kernel_rfl
  c210 := by kernel_rfl
  c212 := by kernel_rfl
  c213 := by kernel_rfl
  c232 := by kernel_rfl
  c233 := by kernel_rfl }
open Go.RowKit in
theorem Tryd.strconv_toError_syntax (fn s : ByteArray) (base bits : Int) (ev : Value) (w : World) (hlim : s.size ≤ 281474976710656) (hv : w.cell? ⟨2, 0, none⟩ = some ev) (hev : ev = .nilIface ∨ ∃ te pe, ev = .iface te pe) :
    Calls Tryd.prog 103 #[.string fn, .string s, .int .i64 base, .int .i64 bits, .iface 170 (.int .i64 2)] w fun e w' => ∃ N, e = .returned (.iface 173 (.pointer (some ⟨N, 0, none⟩))) ∧ w.heap.size ≤ N ∧ w'.heap[N]? = some (.cells #[.string fn, .string s, ev] 185 (0, 0)) ∧ Below w.heap.size w w' := Any.strconv_toError_syntax Tryd.laysC245 fn s base bits ev w hlim hv hev
open Go.RowKit in
theorem Tryd.strconv_toError_range (fn s : ByteArray) (base bits : Int) (ev : Value) (w : World) (hlim : s.size ≤ 281474976710656) (hv : w.cell? ⟨3, 0, none⟩ = some ev) (hev : ev = .nilIface ∨ ∃ te pe, ev = .iface te pe) :
    Calls Tryd.prog 103 #[.string fn, .string s, .int .i64 base, .int .i64 bits, .iface 170 (.int .i64 1)] w fun e w' => ∃ N, e = .returned (.iface 173 (.pointer (some ⟨N, 0, none⟩))) ∧ w.heap.size ≤ N ∧ w'.heap[N]? = some (.cells #[.string fn, .string s, ev] 185 (0, 0)) ∧ Below w.heap.size w w' := Any.strconv_toError_range Tryd.laysC245 fn s base bits ev w hlim hv hev
def Tryd.lays217_ren : Go.Shelf.Ren := ⟨fun | 217 => 104 | 266 => 124 | n => n, fun | 9 => 9 | 5 => 5 | 3 => 3 | n => n, fun | n => n⟩
theorem Tryd.lays217 : Go.Proofs.Lays.n217 Tryd.prog Tryd.lays217_ren := {
  mixed := by kernel_rfl
  f217 := Tryd.func104.trans (congrArg some (by kernel_rfl))
  f266 := Tryd.func124.trans (congrArg some (by kernel_rfl))
  t3 := Tryd.underlying3
  a3 := Tryd.isAgg3
  z3 := Tryd.sizeOf3
  v3 := Tryd.zeroValue3
  t5 := Tryd.underlying5
  a5 := Tryd.isAgg5
  z5 := Tryd.sizeOf5
  v5 := Tryd.zeroValue5
  t9 := Tryd.underlying9
  a9 := Tryd.isAgg9
  z9 := Tryd.sizeOf9
  v9 := Tryd.zeroValue9 }
open Go.RowKit Go.Lib in
theorem Tryd.stringslite_IndexByte (s : ByteArray) (c : Int) (w : World) :
    Calls Tryd.prog 104 #[.string s, .int .u8 c] w fun e w' => e = .returned (.int .i64 (Lib.indexByte s.data.toList c.toNat.toUInt8)) ∧ w' = w := Any.stringslite_IndexByte Tryd.lays217 s c w
end Go.Proofs
/-
  Numbers as digits; words with blanks between: the walks of report's small functions, and of the page's.
-/
namespace Go.Proofs.YtkckncggiicciaaDoor
open Go.RowKit Go.Sort
set_option maxRecDepth 100000
/-- The table of the powers of ten lies where the program's text laid it. -/
def ItAt (w : World) : Prop := Lib.TabIs Tryd.prog w "internal/strconv.uint64pow10" .u64 Lib.pow10Tab
theorem pow10_named : Tryd.prog.globalNamed "internal/strconv.uint64pow10" = some 1 := by kernel_rfl
theorem ItAt.below {w w' : World} (h : ItAt w) (hb : Below w.heap.size w w') : ItAt w' := by
  have hc := Lib.TabIs.cell h pow10_named 0 (by decide)
  have hlt := World.block_lt_of_cell? _ _ hc
  unfold ItAt Lib.TabIs World.var? at *
  rw [pow10_named] at h ⊢
  simp only [Option.bind_some] at h ⊢
  rw [hb.block _ hlt]
  exact h
theorem ItAt.drewN {w : World} (h : ItAt w) (k : Nat) : ItAt (w.drewN k) := h
/-- A string, by its bytes. -/
def sV (l : List UInt8) : Value := .string ⟨l.toArray⟩
theorem sV_one (l : List UInt8) : (sV l).oneCell' = true := rfl
def In64 (n : Int) : Prop := -9223372036854775808 ≤ n ∧ n ≤ 9223372036854775807
theorem below_grow (w : World) (k : Nat) (os : Array Obj) : Below w.heap.size w (grow (w.drewN k) os) :=
  ⟨rfl, rfl, rfl, by rw [size_grow]; exact Nat.le_add_right _ _, fun j hj => heap_grow_old (w.drewN k) os hj⟩
theorem Itoa_any (n : Int) (w : World) (hn : In64 n) (hI : ItAt w) : Calls Tryd.prog 8 #[.int .i64 n] w fun e w' => e = .returned (sV (Lib.itoa n)) ∧ Below w.heap.size w w' :=
  (Tryd.strconv_Itoa n hn.1 hn.2 w hI).mono fun _ _ ⟨h1, k, os, h2⟩ => ⟨h1, by rw [h2]; exact below_grow w k os⟩
set_option maxHeartbeats 400000 in
theorem rn_any (n : Int) (w : World) (hn : In64 n) (hI : ItAt w) : Calls Tryd.prog 31 #[.int .i64 n] w fun e w' => e = .returned (sV (Lib.itoa n)) ∧ Below w.heap.size w w' := by
  have HI : Hid (∀ w', Below w.heap.size w w' → Calls Tryd.prog 8 #[.int .i64 n] w' fun e w'' => e = .returned (sV (Lib.itoa n)) ∧ Below w'.heap.size w' w'') := fun w' hb => Itoa_any n w' hn (hI.below hb)
  unfold sV at HI ⊢
  clear hn hI
  go_enter Tryd.func31, Tryd.ntmps31
  go_wp2_with (refine (HI.out _ (Below.refl _ _)).mono ?_; rintro e w2 ⟨rfl, hb2⟩)
  go_ret
  exact ⟨rfl, hb2⟩
set_option maxHeartbeats 400000 in
theorem number_any (n : Int) (w : World) (hn : In64 n) (hI : ItAt w) : Calls Tryd.prog 40 #[.int .i64 n] w fun e w' => e = .returned (sV (Lib.itoa n)) ∧ Below w.heap.size w w' := by
  have HI : Hid (∀ w', Below w.heap.size w w' → Calls Tryd.prog 8 #[.int .i64 n] w' fun e w'' => e = .returned (sV (Lib.itoa n)) ∧ Below w'.heap.size w' w'') := fun w' hb => Itoa_any n w' hn (hI.below hb)
  unfold sV at HI ⊢
  clear hn hI
  go_enter Tryd.func40, Tryd.ntmps40
  go_wp2_with (refine (HI.out _ (Below.refl _ _)).mono ?_; rintro e w2 ⟨rfl, hb2⟩)
  go_ret
  exact ⟨rfl, hb2⟩
/-- Words with blanks between. -/
def wordsL (xs : List (List UInt8)) : List UInt8 := Lib.join xs [32]
theorem Join_any (A : Option Addr) (n cap : Nat) (xs : List (List UInt8)) (w : World) (h0 : 0 < n) (hy : Rd w w.heap.size 1 A n cap (xs.map sV)) (hz : n ≤ 1000) (hl : (wordsL xs).length ≤ 1000000) :
    Calls Tryd.prog 61 #[.slice A n cap, .string ⟨#[32]⟩] w fun e w' => e = .returned (sV (wordsL xs)) ∧ Below w.heap.size w w' := by
  obtain ⟨h1, h2, h3, h4⟩ := hy
  obtain ⟨b, off, rfl, hb, hc⟩ := h4 h0
  rw [List.length_map, Nat.mul_one] at h1
  have e1 : (xs.map (fun l => (⟨l.toArray⟩ : ByteArray))).map (·.data.toList) = xs := by
    rw [List.map_map]
    have : ((fun x : ByteArray => x.data.toList) ∘ fun l : List UInt8 => (⟨l.toArray⟩ : ByteArray)) = id := by
      funext l
      simp
    rw [this, List.map_id]
  have := Tryd.strings_Join b off cap (xs.map fun l => (⟨l.toArray⟩ : ByteArray)) ⟨#[32]⟩ w (fun j x hx => hc j _ (by
    rw [List.getElem?_map] at hx ⊢
    cases hq : xs[j]? with
    | none => rw [hq] at hx; cases hx
    | some l => rw [hq] at hx; injection hx with hx; subst hx; rfl)) hb (by rw [List.length_map]; omega) (by rw [List.length_map]; omega) (by
      rw [e1]
      show (Lib.join xs [32]).length ≤ _
      unfold wordsL at hl
      omega)
  rw [e1, List.length_map, h1] at this
  exact this
set_option maxHeartbeats 400000 in
theorem words_any (A : Option Addr) (n cap : Nat) (xs : List (List UInt8)) (w : World) (h0 : 0 < n) (hy : Rd w w.heap.size 1 A n cap (xs.map sV)) (hz : n ≤ 1000) (hl : (wordsL xs).length ≤ 1000000) :
    Calls Tryd.prog 30 #[.slice A n cap] w fun e w' => e = .returned (sV (wordsL xs)) ∧ Below w.heap.size w w' := by
  have HI : Hid (∀ w', w = w' → Calls Tryd.prog 61 #[.slice A n cap, .string ⟨#[32]⟩] w' fun e w'' => e = .returned (sV (wordsL xs)) ∧ Below w'.heap.size w' w'') := fun w' e => by subst e; exact Join_any A n cap xs w h0 hy hz hl
  unfold sV at HI ⊢
  clear h0 hy hz hl
  go_enter Tryd.func30, Tryd.ntmps30
  go_wp2_with (refine (HI.out _ rfl).mono ?_; rintro e w2 ⟨rfl, hb2⟩)
  go_ret
  exact ⟨rfl, hb2⟩
end Go.Proofs.YtkckncggiicciaaDoor
/-
  Rounding in plain Lean: a rational number to a rung of the doubles; it is monotone, and right at each rung.
-/
namespace Go.Proofs.YtkckncggiicciaaDoor
/-- n / g, rounded to a whole number, half to even. -/
def rhe (n g : Nat) : Nat := n / g + (decide (g < 2 * (n % g)) || (decide (g = 2 * (n % g)) && decide (n / g % 2 = 1))).toNat
theorem bool_le (b : Bool) : b.toNat ≤ 1 := by cases b <;> decide
theorem rhe_le (n g : Nat) : n / g ≤ rhe n g ∧ rhe n g ≤ n / g + 1 := by
  unfold rhe
  have := bool_le (decide (g < 2 * (n % g)) || (decide (g = 2 * (n % g)) && decide (n / g % 2 = 1)))
  omega
theorem rhe_mono {n1 n2 g : Nat} (h : n1 ≤ n2) : rhe n1 g ≤ rhe n2 g := by
  have hq : n1 / g ≤ n2 / g := Nat.div_le_div_right h
  have h1 := rhe_le n1 g
  have h2 := rhe_le n2 g
  by_cases hlt : n1 / g < n2 / g
  · omega
  have he : n1 / g = n2 / g := by omega
  have e1 := Nat.div_add_mod n1 g
  have e2 := Nat.div_add_mod n2 g
  rw [he] at e1
  have hr : n1 % g ≤ n2 % g := by omega
  unfold rhe
  rw [he]
  generalize n2 / g = q
  generalize n1 % g = r1 at *
  generalize n2 % g = r2 at *
  have : (decide (g < 2 * r1) || (decide (g = 2 * r1) && decide (q % 2 = 1))).toNat ≤ (decide (g < 2 * r2) || (decide (g = 2 * r2) && decide (q % 2 = 1))).toNat := by
    by_cases a1 : g < 2 * r1
    · have a2 : g < 2 * r2 := by omega
      simp [a1, a2]
    · by_cases a2 : g < 2 * r2
      · simp only [a2, decide_true, Bool.true_or, Bool.toNat_true]
        exact bool_le _
      · by_cases a3 : g = 2 * r1
        · have a4 : g = 2 * r2 := by omega
          have a5 : r1 = r2 := by omega
          subst a5
          exact Nat.le_refl _
        · simp [a1, a3]
  omega
theorem rhe_scale {n g k : Nat} (hk : 0 < k) : rhe (n * k) (g * k) = rhe n g := by
  unfold rhe
  rw [Nat.mul_div_mul_right _ _ hk, Nat.mul_mod_mul_right]
  have e1 : (g * k < 2 * (n % g * k)) = (g < 2 * (n % g)) := by
    rw [← Nat.mul_assoc]
    exact propext (Nat.mul_lt_mul_right hk)
  have e2 : (g * k = 2 * (n % g * k)) = (g = 2 * (n % g)) := by
    rw [← Nat.mul_assoc]
    exact propext (Nat.mul_right_cancel_iff hk)
  simp only [e1, e2]
theorem rhe_whole (m : Nat) {g : Nat} (hg : 0 < g) : rhe (m * g) g = m := by
  unfold rhe
  rw [Nat.mul_div_cancel _ hg, Nat.mul_mod_left]
  have h2 : decide (g = 2 * 0) = false := by simp; omega
  simp [h2]
theorem rhe_zero (g : Nat) (hg : 0 < g) : rhe 0 g = 0 := by
  have := rhe_whole 0 hg
  rwa [Nat.zero_mul] at this
/-- The digits that are dropped of a number of so many least ones. -/
def lev (q : Nat) : Nat := q.log2 - 52
/-- The rung of N / D least numbers. -/
def rq (N D : Nat) : Nat := min (lev (N / D) * 4503599627370496 + rhe N (D * 2 ^ lev (N / D))) 9218868437227405312
theorem rq_le (N D : Nat) : rq N D ≤ 9218868437227405312 := Nat.min_le_right _ _
theorem rq_zero {D : Nat} (hD : 0 < D) : rq 0 D = 0 := by
  unfold rq lev
  rw [Nat.zero_div, Nat.log2_zero, rhe_zero _ (Nat.mul_pos hD (Nat.two_pow_pos _))]
  rfl
theorem log2_mono {a b : Nat} (h : a ≤ b) : a.log2 ≤ b.log2 := by
  by_cases h0 : a = 0
  · subst h0; simp
  · rw [Nat.le_log2 (by omega)]
    exact Nat.le_trans (Nat.log2_self_le h0) h
theorem lev_mono {a b : Nat} (h : a ≤ b) : lev a ≤ lev b := by
  have := log2_mono h
  unfold lev
  omega
/-- What is kept has at most 53 digits, and just so many where some are dropped. -/
theorem kept_bd (N D : Nat) : rhe N (D * 2 ^ lev (N / D)) ≤ 9007199254740992 ∧ (0 < lev (N / D) → 4503599627370496 ≤ rhe N (D * 2 ^ lev (N / D))) := by
  have h := rhe_le N (D * 2 ^ lev (N / D))
  have e : N / (D * 2 ^ lev (N / D)) = N / D / 2 ^ lev (N / D) := by rw [Nat.div_div_eq_div_mul]
  rw [e] at h
  generalize N / D = q at *
  have hlt : q / 2 ^ lev q < 9007199254740992 := by
    rw [Nat.div_lt_iff_lt_mul (Nat.two_pow_pos _)]
    have h1 : q < 2 ^ (q.log2 + 1) := Nat.lt_log2_self
    have h2 : 2 ^ (q.log2 + 1) ≤ 2 ^ (53 + lev q) := Nat.pow_le_pow_right (by omega) (by unfold lev; omega)
    rw [Nat.pow_add 2 53 (lev q)] at h2
    have h3 : (2 : Nat) ^ 53 = 9007199254740992 := rfl
    rw [h3] at h2
    exact Nat.lt_of_lt_of_le h1 h2
  refine ⟨Nat.le_trans h.2 hlt, fun hl => ?_⟩
  have hge : 4503599627370496 ≤ q / 2 ^ lev q := by
    rw [Nat.le_div_iff_mul_le (Nat.two_pow_pos _)]
    have h0 : q ≠ 0 := by
      rintro rfl
      simp [lev] at hl
    have h1 := Nat.log2_self_le h0
    have h2 : 2 ^ (52 + lev q) ≤ 2 ^ q.log2 := Nat.pow_le_pow_right (by omega) (by unfold lev at hl ⊢; omega)
    rw [Nat.pow_add 2 52 (lev q)] at h2
    have h3 : (2 : Nat) ^ 52 = 4503599627370496 := rfl
    rw [h3] at h2
    exact Nat.le_trans h2 h1
  exact Nat.le_trans hge h.1
theorem top_lt (l1 l2 k1 k2 i : Nat) (hl : l1 < l2) (h1 : k1 ≤ 9007199254740992) (h2 : 4503599627370496 ≤ k2) : min (l1 * 4503599627370496 + k1) i ≤ min (l2 * 4503599627370496 + k2) i := by omega
theorem top_le (l k1 k2 i : Nat) (h : k1 ≤ k2) : min (l * 4503599627370496 + k1) i ≤ min (l * 4503599627370496 + k2) i := by omega
theorem rq_mono_same {N1 N2 D : Nat} (h : N1 ≤ N2) : rq N1 D ≤ rq N2 D := by
  have hq : N1 / D ≤ N2 / D := Nat.div_le_div_right h
  have hl := lev_mono hq
  have k1 := kept_bd N1 D
  have k2 := kept_bd N2 D
  unfold rq
  by_cases hlt : lev (N1 / D) < lev (N2 / D)
  · exact top_lt _ _ _ _ _ hlt k1.1 (k2.2 (Nat.lt_of_le_of_lt (Nat.zero_le _) hlt))
  · have he : lev (N1 / D) = lev (N2 / D) := Nat.le_antisymm hl (Nat.le_of_not_lt hlt)
    rw [he]
    exact top_le _ _ _ _ (rhe_mono h)
theorem rq_scale {N D k : Nat} (hk : 0 < k) : rq (N * k) (D * k) = rq N D := by
  unfold rq
  rw [Nat.mul_div_mul_right _ _ hk, Nat.mul_right_comm D k, rhe_scale hk]
theorem rq_mono {N1 D1 N2 D2 : Nat} (h1 : 0 < D1) (h2 : 0 < D2) (h : N1 * D2 ≤ N2 * D1) : rq N1 D1 ≤ rq N2 D2 := by
  rw [← rq_scale (N := N1) (D := D1) h2, ← rq_scale (N := N2) (D := D2) h1, Nat.mul_comm D2 D1]
  exact rq_mono_same h
theorem rq_eq {N1 D1 N2 D2 : Nat} (h1 : 0 < D1) (h2 : 0 < D2) (h : N1 * D2 = N2 * D1) : rq N1 D1 = rq N2 D2 :=
  Nat.le_antisymm (rq_mono h1 h2 (Nat.le_of_eq h)) (rq_mono h2 h1 (Nat.le_of_eq h.symm))
/-- How many least numbers a rung stands for. -/
def mg (r : Nat) : Nat := if r < 4503599627370496 then r else (4503599627370496 + r % 4503599627370496) * 2 ^ (r / 4503599627370496 - 1)
theorem rq_mg {r D : Nat} (hD : 0 < D) (hr : r ≤ 9218868437227405312) : rq (mg r * D) D = r := by
  by_cases h : r < 9007199254740992
  · have e : mg r = r := by
      unfold mg
      split
      · rfl
      · have : r / 4503599627370496 = 1 := by omega
        rw [this]
        simp
        omega
    rw [e]
    unfold rq
    rw [Nat.mul_div_cancel _ hD]
    have hl : lev r = 0 := by
      unfold lev
      by_cases h0 : r = 0
      · subst h0; simp
      · have : r.log2 < 53 := (Nat.log2_lt h0).2 h
        omega
    rw [hl, Nat.pow_zero, Nat.mul_one, rhe_whole _ hD]
    omega
  · obtain ⟨e, he⟩ : ∃ e, r / 4503599627370496 = e + 2 := ⟨r / 4503599627370496 - 2, by omega⟩
    obtain ⟨m, hm⟩ : ∃ m, r % 4503599627370496 = m := ⟨_, rfl⟩
    have hm2 : m < 4503599627370496 := by omega
    have hmg : mg r = (4503599627370496 + m) * 2 ^ (e + 1) := by
      unfold mg
      rw [if_neg (by omega), he, hm]
      rfl
    have hlog : ((4503599627370496 + m) * 2 ^ (e + 1)).log2 = 52 + (e + 1) := by
      have h0 : (4503599627370496 + m) * 2 ^ (e + 1) ≠ 0 := Nat.ne_of_gt (Nat.mul_pos (by omega) (Nat.two_pow_pos _))
      apply Nat.le_antisymm
      · have : ((4503599627370496 + m) * 2 ^ (e + 1)).log2 < 52 + (e + 1) + 1 := by
          rw [Nat.log2_lt h0, show 52 + (e + 1) + 1 = 53 + (e + 1) by omega, Nat.pow_add 2 53 (e + 1)]
          exact Nat.mul_lt_mul_of_pos_right (by show _ < 9007199254740992; omega) (Nat.two_pow_pos _)
        omega
      · rw [Nat.le_log2 h0, Nat.pow_add 2 52 (e + 1)]
        exact Nat.mul_le_mul_right _ (by show 4503599627370496 ≤ _; omega)
    rw [hmg]
    unfold rq
    rw [Nat.mul_div_cancel _ hD]
    have hl : lev ((4503599627370496 + m) * 2 ^ (e + 1)) = e + 1 := by
      unfold lev
      rw [hlog]
      omega
    rw [hl, Nat.mul_assoc, Nat.mul_comm (2 ^ (e + 1)) D, rhe_whole _ (Nat.mul_pos hD (Nat.two_pow_pos _))]
    omega
theorem rq_mg1 {r : Nat} (hr : r ≤ 9218868437227405312) : rq (mg r) 1 = r := by
  have := rq_mg (D := 1) (by omega) hr
  rwa [Nat.mul_one] at this
theorem mg_zero : mg 0 = 0 := rfl
theorem mg_lt {r s : Nat} (hs : s ≤ 9218868437227405312) (h : r < s) : mg r < mg s := by
  apply Nat.lt_of_not_le
  intro hle
  have := rq_mono_same (D := 1) hle
  rw [rq_mg1 hs, rq_mg1 (by omega)] at this
  omega
theorem mg_le {r s : Nat} (hs : s ≤ 9218868437227405312) (h : r ≤ s) : mg r ≤ mg s := by
  rcases Nat.lt_or_ge r s with h1 | h1
  · exact Nat.le_of_lt (mg_lt hs h1)
  · obtain rfl : r = s := by omega
    exact Nat.le_refl _
theorem mg_pos {r : Nat} (hr : r ≤ 9218868437227405312) (h : 0 < r) : 0 < mg r := mg_lt hr h
/-- A bound by a rung stays one. -/
theorem rq_le_of {N D r : Nat} (hD : 0 < D) (hr : r ≤ 9218868437227405312) (h : N ≤ mg r * D) : rq N D ≤ r := by
  have := rq_mono_same (D := D) h
  rwa [rq_mg hD hr] at this
theorem le_rq_of {N D r : Nat} (hD : 0 < D) (hr : r ≤ 9218868437227405312) (h : mg r * D ≤ N) : r ≤ rq N D := by
  have := rq_mono_same (D := D) h
  rwa [rq_mg hD hr] at this
/-! ### The model's rounding -/
theorem cut_even (neg : Bool) (n drop : Nat) : Ieee.Toward.even.cut neg n drop = rhe n (2 ^ drop) := by
  unfold Ieee.Toward.cut
  simp only [Nat.one_shiftLeft]
  by_cases h : drop ≤ n.log2 + 2
  · rw [Nat.min_eq_left h]
    unfold rhe
    congr 2
  · rw [Nat.min_eq_right (by omega)]
    have hn : n < 2 ^ (n.log2 + 1) := Nat.lt_log2_self
    have h2 : 2 ^ (n.log2 + 2) = 2 * 2 ^ (n.log2 + 1) := by rw [Nat.pow_succ, Nat.mul_comm]
    have h3 : 2 ^ (n.log2 + 2) ≤ 2 ^ drop := Nat.pow_le_pow_right (by omega) (by omega)
    unfold rhe
    rw [Nat.div_eq_of_lt (by omega : n < 2 ^ (n.log2 + 2)), Nat.div_eq_of_lt (by omega : n < 2 ^ drop), Nat.mod_eq_of_lt (by omega : n < 2 ^ (n.log2 + 2)), Nat.mod_eq_of_lt (by omega : n < 2 ^ drop)]
    have a1 : ¬ 2 ^ (n.log2 + 2) < 2 * n := by omega
    have a2 : ¬ 2 ^ drop < 2 * n := by omega
    simp [a1, a2]
theorem nearest_eq (neg : Bool) (mag : Nat) (place : Int) (a c : Nat) (h : place + 1074 = (a : Int) - c) : Ieee.double.nearest neg mag place = Ieee.double.word neg (rq (mag * 2 ^ a) (2 ^ c)) := by
  unfold Ieee.Format.nearest
  by_cases h0 : mag = 0
  · rw [if_pos h0, h0, Nat.zero_mul, rq_zero (Nat.two_pow_pos _)]
  rw [if_neg h0]
  dsimp only
  have hlp : Ieee.double.leastPlace = -1074 := rfl
  have hbi : Ieee.double.binade = 4503599627370496 := rfl
  have hir : Ieee.double.infRung = 9218868437227405312 := rfl
  have hfb : (Ieee.double.fractionBits : Int) = 52 := rfl
  rw [hlp, hbi, hir, hfb, cut_even, Nat.shiftLeft_eq]
  have hlev : lev (mag * 2 ^ a / 2 ^ c) = mag.log2 + a - c - 52 := by
    by_cases hc : c ≤ mag.log2 + a
    · have : (mag * 2 ^ a / 2 ^ c).log2 = mag.log2 + a - c := by
        have hle : 2 ^ (mag.log2 + a - c) ≤ mag * 2 ^ a / 2 ^ c := by
          rw [Nat.le_div_iff_mul_le (Nat.two_pow_pos _), ← Nat.pow_add, Nat.sub_add_cancel hc, Nat.pow_add]
          exact Nat.mul_le_mul_right _ (Nat.log2_self_le h0)
        have hlt : mag * 2 ^ a / 2 ^ c < 2 ^ (mag.log2 + a - c + 1) := by
          rw [Nat.div_lt_iff_lt_mul (Nat.two_pow_pos _), ← Nat.pow_add, show mag.log2 + a - c + 1 + c = mag.log2 + 1 + a by omega, Nat.pow_add]
          exact Nat.mul_lt_mul_of_pos_right Nat.lt_log2_self (Nat.two_pow_pos _)
        have hne : mag * 2 ^ a / 2 ^ c ≠ 0 := by
          have := Nat.two_pow_pos (mag.log2 + a - c)
          omega
        have h1 := (Nat.le_log2 hne).2 hle
        have h2 := (Nat.log2_lt hne).2 hlt
        omega
      unfold lev
      rw [this]
    · have hlt : mag * 2 ^ a < 2 ^ c := by
        have h1 : mag * 2 ^ a < 2 ^ (mag.log2 + 1 + a) := by
          rw [Nat.pow_add]
          exact Nat.mul_lt_mul_of_pos_right Nat.lt_log2_self (Nat.two_pow_pos _)
        exact Nat.lt_of_lt_of_le h1 (Nat.pow_le_pow_right (by omega) (by omega))
      rw [Nat.div_eq_of_lt hlt]
      simp [lev]
      omega
  obtain ⟨last, hlast⟩ : ∃ last : Int, max (place + (mag.log2 : Int) - 52) (-1074) = last := ⟨_, rfl⟩
  rw [hlast]
  have hL : (last - -1074).toNat = lev (mag * 2 ^ a / 2 ^ c) := by rw [hlev]; omega
  have hL0 : 0 ≤ last + 1074 := by omega
  unfold rq
  rw [hL]
  have hk : rhe (mag * 2 ^ (place - last).toNat) (2 ^ (last - place).toNat) = rhe (mag * 2 ^ a) (2 ^ c * 2 ^ lev (mag * 2 ^ a / 2 ^ c)) := by
    rw [← Nat.pow_add, ← hL]
    have e1 : a = (place - last).toNat + (a - (place - last).toNat) := by omega
    have e2 : c + (last - -1074).toNat = (last - place).toNat + (a - (place - last).toNat) := by omega
    rw [e2]
    conv => rhs; arg 1; rw [e1, Nat.pow_add, ← Nat.mul_assoc]
    rw [Nat.pow_add 2 (last - place).toNat, rhe_scale (Nat.two_pow_pos _)]
  rw [hk]
end Go.Proofs.YtkckncggiicciaaDoor
/-
  Doubles in plain Lean: their order is that of signed rungs; sums, products and quotients are roundings of the exact ones.
-/
namespace Go.Proofs.YtkckncggiicciaaDoor
/-- A double's sign, its rung, its rung with the sign, its value in least numbers. -/
def sg (x : Nat) : Bool := x / 9223372036854775808 % 2 == 1
def rg (x : Nat) : Nat := x % 9223372036854775808
def isNan (x : Nat) : Bool := decide (9218868437227405312 < rg x)
def isFin (x : Nat) : Bool := decide (rg x < 9218868437227405312)
def rk (x : Nat) : Int := if sg x then -(rg x : Int) else rg x
def sv (x : Nat) : Int := if sg x then -(mg (rg x) : Int) else mg (rg x)
def wd (s : Bool) (r : Nat) : Nat := if s then 9223372036854775808 + r else r
theorem word_wd (s : Bool) (r : Nat) : Ieee.double.word s r = wd s r := rfl
theorem sg_wd {s : Bool} {r : Nat} (h : r < 9223372036854775808) : sg (wd s r) = s := by
  unfold sg wd
  cases s
  · simp; omega
  · simp; omega
theorem rg_wd {s : Bool} {r : Nat} (h : r < 9223372036854775808) : rg (wd s r) = r := by
  unfold rg wd
  cases s
  · simp; omega
  · simp; omega
theorem wd_lt {s : Bool} {r : Nat} (h : r < 9223372036854775808) : wd s r < 18446744073709551616 := by
  unfold wd
  cases s <;> simp <;> omega
theorem wd_self {x : Nat} (h : x < 18446744073709551616) : wd (sg x) (rg x) = x := by
  unfold wd sg rg
  by_cases h1 : x / 9223372036854775808 % 2 = 1
  · simp [h1]; omega
  · simp [h1]; omega
theorem eq_of_sg_rg {x y : Nat} (hx : x < 18446744073709551616) (hy : y < 18446744073709551616) (h1 : sg x = sg y) (h2 : rg x = rg y) : x = y := by
  rw [← wd_self hx, ← wd_self hy, h1, h2]
theorem read_num {x : Nat} (h : rg x < 9218868437227405312) : ∃ m p : Nat, Ieee.double.read x = .number (sg x) m (-1074 + (p : Int)) ∧ m * 2 ^ p = mg (rg x) := by
  unfold Ieee.Format.read
  have hlp : Ieee.double.leastPlace = -1074 := rfl
  have hbi : Ieee.double.binade = 4503599627370496 := rfl
  have hir : Ieee.double.infRung = 9218868437227405312 := rfl
  have hsw : Ieee.double.signWeight = 9223372036854775808 := rfl
  simp only [hlp, hbi, hir, hsw]
  have hr : x % 9223372036854775808 = rg x := rfl
  rw [hr]
  by_cases h1 : rg x < 4503599627370496
  · rw [if_pos h1]
    refine ⟨rg x, 0, rfl, ?_⟩
    unfold mg
    rw [if_pos h1]
    simp
  · rw [if_neg h1, if_pos h]
    refine ⟨_, _, rfl, ?_⟩
    unfold mg
    rw [if_neg h1]
theorem read_inf {x : Nat} (h : rg x = 9218868437227405312) : Ieee.double.read x = .infinity (sg x) := by
  unfold Ieee.Format.read
  have hlp : Ieee.double.leastPlace = -1074 := rfl
  have hbi : Ieee.double.binade = 4503599627370496 := rfl
  have hir : Ieee.double.infRung = 9218868437227405312 := rfl
  have hsw : Ieee.double.signWeight = 9223372036854775808 := rfl
  simp only [hlp, hbi, hir, hsw]
  have hr : x % 9223372036854775808 = rg x := rfl
  rw [hr, if_neg (by omega), if_neg (by omega), if_pos h]
  rfl
theorem read_nan {x : Nat} (h : 9218868437227405312 < rg x) : ∃ t, Ieee.double.read x = .nan (sg x) t := by
  unfold Ieee.Format.read
  have hlp : Ieee.double.leastPlace = -1074 := rfl
  have hbi : Ieee.double.binade = 4503599627370496 := rfl
  have hir : Ieee.double.infRung = 9218868437227405312 := rfl
  have hsw : Ieee.double.signWeight = 9223372036854775808 := rfl
  simp only [hlp, hbi, hir, hsw]
  have hr : x % 9223372036854775808 = rg x := rfl
  rw [hr, if_neg (by omega), if_neg (by omega), if_neg (by omega)]
  exact ⟨_, rfl⟩
theorem signed_eq (s : Bool) (m k : Nat) : Ieee.signed s m k = if s then -((m * 2 ^ k : Nat) : Int) else ((m * 2 ^ k : Nat) : Int) := by
  unfold Ieee.signed
  rw [Nat.shiftLeft_eq]
/-- A number at a deeper place: its value. -/
theorem signed_sv {x m p b : Nat} (h : m * 2 ^ p = mg (rg x)) (hb : b ≤ p) : Ieee.signed (sg x) m (p - b) * ((2 ^ b : Nat) : Int) = sv x := by
  rw [signed_eq]
  unfold sv
  have e : (m * 2 ^ (p - b)) * 2 ^ b = mg (rg x) := by
    rw [Nat.mul_assoc, ← Nat.pow_add, Nat.sub_add_cancel hb, h]
  rw [← e]
  split
  · rw [Int.neg_mul]; rw [← Int.natCast_mul]
  · rw [← Int.natCast_mul]
/-! ### Order -/
def ord3 (a b : Int) : Ordering := if a < b then .lt else if a = b then .eq else .gt
theorem compare_int (a b : Int) : compare a b = ord3 a b := by
  rfl
theorem sv_lt {x y : Nat} (hx : rg x ≤ 9218868437227405312) (hy : rg y ≤ 9218868437227405312) : sv x < sv y ↔ rk x < rk y := by
  unfold sv rk
  have h1 : ∀ {r s : Nat}, r ≤ 9218868437227405312 → s ≤ 9218868437227405312 → (mg r < mg s ↔ r < s) := fun {r s} hr hs =>
    ⟨fun h => Nat.lt_of_not_le fun hle => by have := mg_le hr hle; omega, fun h => mg_lt hs h⟩
  have a1 := h1 hx hy
  have a2 := h1 hy hx
  have b1 := h1 (Nat.zero_le _) hx
  have b2 := h1 (Nat.zero_le _) hy
  rw [mg_zero] at b1 b2
  cases sg x <;> cases sg y <;> simp <;> omega
theorem sv_eq {x y : Nat} (hx : rg x ≤ 9218868437227405312) (hy : rg y ≤ 9218868437227405312) : sv x = sv y ↔ rk x = rk y := by
  have h1 := sv_lt hx hy
  have h2 := sv_lt hy hx
  omega
theorem order_num {x y : Nat} (hx : rg x ≤ 9218868437227405312) (hy : rg y ≤ 9218868437227405312) : Ieee.double.order x y = some (ord3 (rk x) (rk y)) := by
  unfold Ieee.Format.order
  by_cases fx : rg x < 9218868437227405312
  · obtain ⟨m, p, ex, hm⟩ := read_num fx
    by_cases fy : rg y < 9218868437227405312
    · obtain ⟨n, q, ey, hn⟩ := read_num fy
      rw [ex, ey]
      unfold Ieee.Datum.order
      have e1 : ((-1074 + (p : Int)) - min (-1074 + (p : Int)) (-1074 + (q : Int))).toNat = p - min p q := by omega
      have e2 : ((-1074 + (q : Int)) - min (-1074 + (p : Int)) (-1074 + (q : Int))).toNat = q - min p q := by omega
      simp only [e1, e2]
      have s1 := signed_sv hm (Nat.min_le_left p q)
      have s2 := signed_sv hn (Nat.min_le_right p q)
      rw [compare_int]
      have hp : (0 : Int) < ((2 ^ min p q : Nat) : Int) := by exact_mod_cast Nat.two_pow_pos _
      generalize Ieee.signed (sg x) m (p - min p q) = A at *
      generalize Ieee.signed (sg y) n (q - min p q) = B at *
      have c1 : A < B ↔ rk x < rk y := by
        rw [← sv_lt hx hy, ← s1, ← s2]
        exact ⟨fun h => Int.mul_lt_mul_of_pos_right h hp, fun h => Int.lt_of_mul_lt_mul_right h (Int.le_of_lt hp)⟩
      have c2 : B < A ↔ rk y < rk x := by
        rw [← sv_lt hy hx, ← s1, ← s2]
        exact ⟨fun h => Int.mul_lt_mul_of_pos_right h hp, fun h => Int.lt_of_mul_lt_mul_right h (Int.le_of_lt hp)⟩
      congr 1
      unfold ord3
      by_cases h1 : rk x < rk y
      · rw [if_pos h1, if_pos (c1.2 h1)]
      · rw [if_neg h1, if_neg (fun h => h1 (c1.1 h))]
        by_cases h2 : rk x = rk y
        · rw [if_pos h2, if_pos (by omega)]
        · rw [if_neg h2, if_neg (by omega)]
    · rw [ex, read_inf (by omega : rg y = 9218868437227405312)]
      unfold Ieee.Datum.order ord3 rk
      cases sg x <;> cases sg y <;> simp <;> (repeat' split) <;> (first | rfl | omega)
  · by_cases fy : rg y < 9218868437227405312
    · obtain ⟨n, q, ey, hn⟩ := read_num fy
      rw [ey, read_inf (by omega : rg x = 9218868437227405312)]
      unfold Ieee.Datum.order ord3 rk
      cases sg x <;> cases sg y <;> simp <;> (repeat' split) <;> (first | rfl | omega)
    · rw [read_inf (by omega : rg x = 9218868437227405312), read_inf (by omega : rg y = 9218868437227405312)]
      have ex : rg x = 9218868437227405312 := by omega
      have ey : rg y = 9218868437227405312 := by omega
      unfold Ieee.Datum.order ord3 rk
      rw [ex, ey]
      cases sg x <;> cases sg y <;> rfl
theorem order_nan {x y : Nat} (h : 9218868437227405312 < rg x ∨ 9218868437227405312 < rg y) : Ieee.double.order x y = none := by
  unfold Ieee.Format.order
  by_cases hx : 9218868437227405312 < rg x
  · obtain ⟨t, e⟩ := read_nan hx
    rw [e]
    rfl
  · obtain ⟨t, e⟩ := read_nan (h.resolve_left hx)
    rw [e]
    by_cases fx : rg x < 9218868437227405312
    · obtain ⟨m, p, ex, hm⟩ := read_num fx
      rw [ex]
      rfl
    · rw [read_inf (by omega : rg x = 9218868437227405312)]
      rfl
/-! ### Sums -/
/-- The rung of a whole number of least ones, with its sign. -/
def sr (t : Int) : Int := if t < 0 then -(rq t.natAbs 1 : Int) else rq t.natAbs 1
theorem sr_mono {a b : Int} (h : a ≤ b) : sr a ≤ sr b := by
  unfold sr
  split <;> split
  · have := rq_mono_same (N1 := b.natAbs) (N2 := a.natAbs) (D := 1) (by omega)
    omega
  · omega
  · omega
  · have := rq_mono_same (N1 := a.natAbs) (N2 := b.natAbs) (D := 1) (by omega)
    omega
theorem sr_sv {x : Nat} (hx : rg x ≤ 9218868437227405312) : sr (sv x) = rk x := by
  have h := rq_mg1 hx
  have h0 := mg_zero
  unfold sr sv rk
  cases sg x
  · simp [h]
    intro h1; omega
  · simp only [if_true, Int.natAbs_neg, Int.natAbs_natCast, h]
    by_cases h1 : rg x = 0
    · rw [h1, h0]; simp
    · have := mg_pos hx (by omega)
      rw [if_pos (by omega)]
theorem add_fin {x y : Nat} (hx : rg x < 9218868437227405312) (hy : rg y < 9218868437227405312) :
    Ieee.double.add x y = some (wd (if sv x + sv y = 0 then sg x && sg y else decide (sv x + sv y < 0)) (rq (sv x + sv y).natAbs 1)) := by
  obtain ⟨m, p, ex, hm⟩ := read_num hx
  obtain ⟨n, q, ey, hn⟩ := read_num hy
  unfold Ieee.Format.add
  rw [ex, ey]
  unfold Ieee.Datum.sum
  have e1 : ((-1074 + (p : Int)) - min (-1074 + (p : Int)) (-1074 + (q : Int))).toNat = p - min p q := by omega
  have e2 : ((-1074 + (q : Int)) - min (-1074 + (p : Int)) (-1074 + (q : Int))).toNat = q - min p q := by omega
  simp only [e1, e2, Option.map_some, Ieee.Format.write]
  have s1 := signed_sv hm (Nat.min_le_left p q)
  have s2 := signed_sv hn (Nat.min_le_right p q)
  rw [nearest_eq _ _ _ (min p q) 0 (by omega), word_wd]
  have hp : (0 : Int) < ((2 ^ min p q : Nat) : Int) := by exact_mod_cast Nat.two_pow_pos _
  rw [← s1, ← s2, ← Int.add_mul]
  generalize Ieee.signed (sg x) m (p - min p q) = A at *
  generalize Ieee.signed (sg y) n (q - min p q) = B at *
  have c0 : (A + B = 0) ↔ ((A + B) * ((2 ^ min p q : Nat) : Int) = 0) := by
    rw [Int.mul_eq_zero]
    exact ⟨.inl, fun h => h.resolve_right (by omega)⟩
  have c1 : (A + B < 0) ↔ ((A + B) * ((2 ^ min p q : Nat) : Int) < 0) := by
    constructor
    · intro h
      have := Int.mul_lt_mul_of_pos_right h hp
      rwa [Int.zero_mul] at this
    · intro h
      apply Int.lt_of_mul_lt_mul_right (a := ((2 ^ min p q : Nat) : Int)) _ (Int.le_of_lt hp)
      rwa [Int.zero_mul]
  rw [Int.natAbs_mul, Int.natAbs_natCast]
  congr 2
  by_cases h0 : A + B = 0
  · rw [if_pos h0, if_pos (c0.1 h0)]
  · rw [if_neg h0, if_neg (fun h => h0 (c0.2 h))]
    simp only [c1]
theorem rk_add {x y : Nat} (hx : rg x < 9218868437227405312) (hy : rg y < 9218868437227405312) :
    ∃ r, Ieee.double.add x y = some r ∧ r < 18446744073709551616 ∧ rg r ≤ 9218868437227405312 ∧ rk r = sr (sv x + sv y) ∧ (sv x + sv y = 0 → sg r = (sg x && sg y)) ∧ (sv x + sv y ≠ 0 → sg r = decide (sv x + sv y < 0)) := by
  have hle := rq_le (sv x + sv y).natAbs 1
  refine ⟨_, add_fin hx hy, wd_lt (by omega), by rw [rg_wd (by omega)]; exact hle, ?_, fun h => ?_, fun h => ?_⟩
  · unfold rk
    rw [sg_wd (by omega), rg_wd (by omega)]
    unfold sr
    by_cases h0 : sv x + sv y = 0
    · rw [if_pos h0, h0]
      have : rq (0 : Int).natAbs 1 = 0 := rq_zero (by omega)
      rw [this]
      split <;> rfl
    · rw [if_neg h0]
      simp
  · rw [sg_wd (by omega), if_pos h]
  · rw [sg_wd (by omega), if_neg h]
theorem inf_lt : Ieee.double.infRung = 9218868437227405312 := rfl
theorem add_inf_fin {x y : Nat} (hx : rg x = 9218868437227405312) (hy : rg y < 9218868437227405312) : Ieee.double.add x y = some (wd (sg x) 9218868437227405312) := by
  obtain ⟨n, q, ey, hn⟩ := read_num hy
  unfold Ieee.Format.add
  rw [read_inf hx, ey]
  rfl
theorem add_fin_inf {x y : Nat} (hx : rg x < 9218868437227405312) (hy : rg y = 9218868437227405312) : Ieee.double.add x y = some (wd (sg y) 9218868437227405312) := by
  obtain ⟨n, q, ex, hn⟩ := read_num hx
  unfold Ieee.Format.add
  rw [read_inf hy, ex]
  rfl
theorem add_inf_inf {x y : Nat} (hx : rg x = 9218868437227405312) (hy : rg y = 9218868437227405312) : Ieee.double.add x y = if sg x = sg y then some (wd (sg x) 9218868437227405312) else none := by
  unfold Ieee.Format.add
  rw [read_inf hx, read_inf hy]
  unfold Ieee.Datum.sum
  dsimp only
  split <;> rfl
theorem add_nan {x y : Nat} (h : 9218868437227405312 < rg x ∨ 9218868437227405312 < rg y) : Ieee.double.add x y = none := by
  unfold Ieee.Format.add
  by_cases hx : 9218868437227405312 < rg x
  · obtain ⟨t, e⟩ := read_nan hx
    rw [e]
    rfl
  · obtain ⟨t, e⟩ := read_nan (h.resolve_left hx)
    rw [e]
    by_cases fx : rg x < 9218868437227405312
    · obtain ⟨m, p, ex, hm⟩ := read_num fx
      rw [ex]
      rfl
    · rw [read_inf (by omega : rg x = 9218868437227405312)]
      rfl
theorem add_comm (x y : Nat) : Ieee.double.add x y = Ieee.double.add y x := by
  by_cases hn : 9218868437227405312 < rg x ∨ 9218868437227405312 < rg y
  · rw [add_nan hn, add_nan (hn.elim .inr .inl)]
  by_cases fx : rg x < 9218868437227405312
  · by_cases fy : rg y < 9218868437227405312
    · rw [add_fin fx fy, add_fin fy fx, Int.add_comm (sv y), Bool.and_comm (sg y)]
    · rw [add_fin_inf fx (by omega), add_inf_fin (by omega) fx]
  · by_cases fy : rg y < 9218868437227405312
    · rw [add_inf_fin (by omega) fy, add_fin_inf fy (by omega)]
    · rw [add_inf_inf (by omega) (by omega), add_inf_inf (by omega) (by omega)]
      by_cases h : sg x = sg y
      · rw [if_pos h, if_pos h.symm, h]
      · rw [if_neg h, if_neg (fun e => h e.symm)]
/-- The other sign. -/
def opp (x : Nat) : Nat := wd (!sg x) (rg x)
theorem rg_lt (x : Nat) : rg x < 9223372036854775808 := Nat.mod_lt _ (by omega)
theorem sg_opp (x : Nat) : sg (opp x) = !sg x := sg_wd (rg_lt x)
theorem rg_opp (x : Nat) : rg (opp x) = rg x := rg_wd (rg_lt x)
theorem sv_opp (x : Nat) : sv (opp x) = -sv x := by
  unfold sv
  rw [sg_opp, rg_opp]
  cases sg x <;> simp
theorem rk_opp (x : Nat) : rk (opp x) = -rk x := by
  unfold rk
  rw [sg_opp, rg_opp]
  cases sg x <;> simp
theorem sub_add (x y : Nat) : Ieee.double.sub x y = Ieee.double.add x (opp y) := by
  unfold Ieee.Format.sub Ieee.Format.add
  by_cases hn : 9218868437227405312 < rg y
  · obtain ⟨t, e⟩ := read_nan hn
    obtain ⟨t', e'⟩ := read_nan (x := opp y) (by rw [rg_opp]; exact hn)
    rw [e, e']
    cases Ieee.double.read x <;> rfl
  by_cases fy : rg y < 9218868437227405312
  · have e : Ieee.double.read (opp y) = (Ieee.double.read y).opposite := by
      unfold Ieee.Format.read
      have hsw : Ieee.double.signWeight = 9223372036854775808 := rfl
      have h1 : opp y % 9223372036854775808 = y % 9223372036854775808 := rg_opp y
      have h2 : (opp y / 9223372036854775808 % 2 == 1) = !(y / 9223372036854775808 % 2 == 1) := sg_opp y
      simp only [hsw, h1, h2]
      split
      · rfl
      · split
        · rfl
        · split <;> rfl
    rw [e]
  · have ey : rg y = 9218868437227405312 := by omega
    rw [read_inf ey, read_inf (x := opp y) (by rw [rg_opp]; exact ey), sg_opp]
    rfl
end Go.Proofs.YtkckncggiicciaaDoor
/-
  Products, quotients, whole numbers, and rounding up: what the model's words are.
-/
namespace Go.Proofs.YtkckncggiicciaaDoor
/-- So many least numbers are one. -/
def K1 : Nat := 1074
theorem K1_eq : (K1 : Int) = 1074 := rfl
def U1 : Nat := 2 ^ K1
theorem U1_pos : 0 < U1 := Nat.two_pow_pos _
theorem mul_fin {x y : Nat} (hx : rg x < 9218868437227405312) (hy : rg y < 9218868437227405312) :
    Ieee.double.mul x y = some (wd (sg x ^^ sg y) (rq (mg (rg x) * mg (rg y)) U1)) := by
  obtain ⟨m, p, ex, hm⟩ := read_num hx
  obtain ⟨n, q, ey, hn⟩ := read_num hy
  unfold Ieee.Format.mul
  rw [ex, ey]
  unfold Ieee.Datum.product
  simp only [Option.map_some, Ieee.Format.write]
  rw [nearest_eq _ _ _ (p + q) K1 (by have := K1_eq; omega), word_wd, ← hm, ← hn]
  have e : m * n * 2 ^ (p + q) = m * 2 ^ p * (n * 2 ^ q) := by
    rw [Nat.pow_add, Nat.mul_assoc, Nat.mul_assoc, Nat.mul_left_comm n]
  rw [e]
  rfl
theorem mul_inf_fin {x y : Nat} (hx : rg x = 9218868437227405312) (hy : rg y < 9218868437227405312) (h0 : 0 < rg y) : Ieee.double.mul y x = some (wd (sg y ^^ sg x) 9218868437227405312) := by
  obtain ⟨n, q, ey, hn⟩ := read_num hy
  have hn0 : n ≠ 0 := by
    rintro rfl
    rw [Nat.zero_mul] at hn
    have := mg_pos (r := rg y) (by omega) h0
    omega
  unfold Ieee.Format.mul
  rw [read_inf hx, ey]
  unfold Ieee.Datum.product
  simp only [if_neg hn0, Option.map_some]
  rw [Bool.xor_comm]
  rfl
/-- A digit that tells whether anything is left over serves for the rest. -/
theorem sticky (dv n h : Nat) (hn : 0 < n) : rhe (2 * (dv / n) + (dv % n != 0).toNat) (4 * h) = rhe (2 * dv) (n * (4 * h)) := by
  by_cases h0 : h = 0
  · subst h0
    simp [rhe]
    have e := Nat.div_add_mod dv n
    have hlt := Nat.mod_lt dv hn
    by_cases hz : dv = 0
    · subst hz; simp
    · have h1 : (decide (0 < 2 * (2 * dv))) = true := by simp; omega
      have h2 : (decide (0 < 2 * (2 * (dv / n) + (dv % n != 0).toNat))) = true := by
        by_cases hr : dv % n = 0
        · have : 0 < dv / n := by
            rcases Nat.eq_zero_or_pos (dv / n) with h | h
            · rw [h, Nat.mul_zero] at e; omega
            · exact h
          simp; omega
        · have : (dv % n != 0) = true := by simpa using hr
          rw [this]; simp
      have h3 : decide (0 < dv) = true := by simp; omega
      simp_all
  have hh : 0 < h := by omega
  obtain ⟨A, hA⟩ : ∃ A, dv / n = A := ⟨_, rfl⟩
  obtain ⟨R, hR⟩ : ∃ R, dv % n = R := ⟨_, rfl⟩
  have hRn : R < n := by rw [← hR]; exact Nat.mod_lt _ hn
  have hdv : dv = n * A + R := by rw [← hA, ← hR]; exact (Nat.div_add_mod dv n).symm
  obtain ⟨B, hB⟩ : ∃ B, A / (2 * h) = B := ⟨_, rfl⟩
  obtain ⟨C, hC⟩ : ∃ C, A % (2 * h) = C := ⟨_, rfl⟩
  have hC2 : C < 2 * h := by rw [← hC]; exact Nat.mod_lt _ (by omega)
  have hAe : A = 2 * h * B + C := by rw [← hB, ← hC]; exact (Nat.div_add_mod A (2 * h)).symm
  rw [hA, hR]
  have hs := bool_le (R != 0)
  obtain ⟨S, hS⟩ : ∃ S, (R != 0).toNat = S := ⟨_, rfl⟩
  have hS0 : S = 0 ↔ R = 0 := by rw [← hS]; by_cases h : R = 0 <;> simp [h]
  rw [hS] at hs ⊢
  -- the left side
  have l1 : 2 * A + S = (2 * C + S) + 4 * h * B := by
    have : 2 * (2 * h * B) = 4 * h * B := by rw [← Nat.mul_assoc, ← Nat.mul_assoc]
    rw [hAe, Nat.mul_add, this]; omega
  have l2 : (2 * A + S) / (4 * h) = B := by
    rw [l1, Nat.add_mul_div_left _ _ (by omega), Nat.div_eq_of_lt (by omega), Nat.zero_add]
  have l3 : (2 * A + S) % (4 * h) = 2 * C + S := by
    rw [l1, Nat.add_mul_mod_self_left, Nat.mod_eq_of_lt (by omega)]
  -- the right side
  have hnC : n * C + R < n * (2 * h) := by
    have : n * C + n ≤ n * (2 * h) := by rw [← Nat.mul_succ]; exact Nat.mul_le_mul_left _ hC2
    omega
  have r0 : n * (4 * h) = 2 * (n * (2 * h)) := by rw [← Nat.mul_assoc 2, Nat.mul_comm 2 n, Nat.mul_assoc, ← Nat.mul_assoc 2 2]
  have r1 : 2 * dv = 2 * (n * C + R) + n * (4 * h) * B := by
    rw [hdv, hAe, r0]
    have : n * (2 * h * B + C) = n * (2 * h) * B + n * C := by rw [Nat.mul_add, Nat.mul_assoc n]
    rw [this, Nat.mul_assoc 2 (n * (2 * h)) B]
    omega
  have r2 : 2 * dv / (n * (4 * h)) = B := by
    rw [r1, Nat.add_mul_div_left _ _ (Nat.mul_pos hn (by omega)), Nat.div_eq_of_lt (by rw [r0]; omega), Nat.zero_add]
  have r3 : 2 * dv % (n * (4 * h)) = 2 * (n * C + R) := by
    rw [r1, Nat.add_mul_mod_self_left, Nat.mod_eq_of_lt (by rw [r0]; omega)]
  unfold rhe
  rw [l2, l3, r2, r3, r0]
  have q0 : n * (2 * h) = 2 * (n * h) := by rw [Nat.mul_left_comm]
  rw [q0]
  have c1 : (4 * h < 2 * (2 * C + S)) ↔ (2 * (2 * (n * h)) < 2 * (2 * (n * C + R))) := by
    rcases Nat.lt_trichotomy C h with hc | hc | hc
    · have : n * C + n ≤ n * h := by rw [← Nat.mul_succ]; exact Nat.mul_le_mul_left _ hc
      omega
    · subst hc; omega
    · have : n * h + n ≤ n * C := by rw [← Nat.mul_succ]; exact Nat.mul_le_mul_left _ hc
      omega
  have c2 : (4 * h = 2 * (2 * C + S)) ↔ (2 * (2 * (n * h)) = 2 * (2 * (n * C + R))) := by
    rcases Nat.lt_trichotomy C h with hc | hc | hc
    · have : n * C + n ≤ n * h := by rw [← Nat.mul_succ]; exact Nat.mul_le_mul_left _ hc
      omega
    · subst hc; omega
    · have : n * h + n ≤ n * C := by rw [← Nat.mul_succ]; exact Nat.mul_le_mul_left _ hc
      omega
  simp only [c1, c2]
/-- The level of a fraction that is shifted. -/
theorem lev_frac {X n a c : Nat} (hn : 0 < n) (h0 : X / n ≠ 0) : lev (X * 2 ^ a / (n * 2 ^ c)) = (X / n).log2 + a - c - 52 := by
  have b1 : n * 2 ^ (X / n).log2 ≤ X := by
    have := (Nat.le_div_iff_mul_le hn).1 (Nat.log2_self_le h0)
    rwa [Nat.mul_comm] at this
  have b2 : X < n * 2 ^ ((X / n).log2 + 1) := by
    have := (Nat.div_lt_iff_lt_mul hn).1 (Nat.lt_log2_self (n := X / n))
    rwa [Nat.mul_comm] at this
  generalize (X / n).log2 = k at *
  by_cases hc : c ≤ k + a
  · have hle : 2 ^ (k + a - c) ≤ X * 2 ^ a / (n * 2 ^ c) := by
      rw [Nat.le_div_iff_mul_le (Nat.mul_pos hn (Nat.two_pow_pos _)), Nat.mul_left_comm, ← Nat.pow_add, Nat.sub_add_cancel hc, Nat.pow_add, ← Nat.mul_assoc]
      exact Nat.mul_le_mul_right _ b1
    have hlt : X * 2 ^ a / (n * 2 ^ c) < 2 ^ (k + a - c + 1) := by
      rw [Nat.div_lt_iff_lt_mul (Nat.mul_pos hn (Nat.two_pow_pos _)), Nat.mul_left_comm, ← Nat.pow_add, show k + a - c + 1 + c = k + 1 + a by omega, Nat.pow_add, ← Nat.mul_assoc]
      exact Nat.mul_lt_mul_of_pos_right b2 (Nat.two_pow_pos _)
    have hne : X * 2 ^ a / (n * 2 ^ c) ≠ 0 := by
      have := Nat.two_pow_pos (k + a - c)
      omega
    have h1 := (Nat.le_log2 hne).2 hle
    have h2 := (Nat.log2_lt hne).2 hlt
    unfold lev
    omega
  · have hlt : X * 2 ^ a < n * 2 ^ c := by
      have h1 : X * 2 ^ a < n * 2 ^ (k + 1 + a) := by
        rw [Nat.pow_add, ← Nat.mul_assoc]
        exact Nat.mul_lt_mul_of_pos_right b2 (Nat.two_pow_pos _)
      exact Nat.lt_of_lt_of_le h1 (Nat.mul_le_mul_left _ (Nat.pow_le_pow_right (by omega) (by omega)))
    rw [Nat.div_eq_of_lt hlt]
    simp [lev]
    omega
theorem log2_two (a s : Nat) (h : s ≤ 1) (ha : 0 < a) : (2 * a + s).log2 = a.log2 + 1 := by
  apply Nat.le_antisymm
  · have : (2 * a + s).log2 < a.log2 + 1 + 1 := by
      rw [Nat.log2_lt (by omega), Nat.pow_succ]
      have := Nat.lt_log2_self (n := a)
      omega
    omega
  · rw [Nat.le_log2 (by omega), Nat.pow_succ]
    have := Nat.log2_self_le (n := a) (by omega)
    omega
/-- A quotient of 54 digits and what is left over is rounded as the whole one. -/
theorem rq_sticky {dv n : Nat} (a c : Nat) (hn : 0 < n) (hd : dv = 0 ∨ 2 ^ 53 ≤ dv / n) : rq ((2 * (dv / n) + (dv % n != 0).toNat) * 2 ^ a) (2 ^ c) = rq (2 * dv * 2 ^ a) (n * 2 ^ c) := by
  rcases hd with rfl | hd
  · simp [rq_zero, Nat.two_pow_pos, Nat.mul_pos hn (Nat.two_pow_pos c)]
  have hA : 0 < dv / n := Nat.lt_of_lt_of_le (Nat.two_pow_pos _) hd
  have hlA : 53 ≤ (dv / n).log2 := (Nat.le_log2 (by omega)).2 hd
  have hs := bool_le (dv % n != 0)
  have e2 : 2 * dv / n = 2 * (dv / n) ∨ 2 * dv / n = 2 * (dv / n) + 1 := by
    have h1 := Nat.div_add_mod dv n
    have h2 := Nat.mod_lt dv hn
    have : 2 * dv = 2 * (dv % n) + n * (2 * (dv / n)) := by rw [Nat.mul_left_comm]; omega
    rw [this, Nat.add_mul_div_left _ _ hn]
    by_cases h3 : 2 * (dv % n) < n
    · rw [Nat.div_eq_of_lt h3]; omega
    · have : 2 * (dv % n) / n = 1 := by
        rw [Nat.div_eq_iff hn]; omega
      rw [this]; omega
  have hlog2 : (2 * dv / n).log2 = (dv / n).log2 + 1 := by
    rcases e2 with e | e
    · rw [e]; exact log2_two _ 0 (by omega) hA
    · rw [e]; exact log2_two _ 1 (by omega) hA
  have l1 : lev ((2 * (dv / n) + (dv % n != 0).toNat) * 2 ^ a / 2 ^ c) = (dv / n).log2 + 1 + a - c - 52 := by
    have := lev_frac (X := 2 * (dv / n) + (dv % n != 0).toNat) (n := 1) (a := a) (c := c) (by omega) (by rw [Nat.div_one]; omega)
    rw [Nat.one_mul, Nat.div_one, log2_two _ _ hs hA] at this
    exact this
  have l2 : lev (2 * dv * 2 ^ a / (n * 2 ^ c)) = (dv / n).log2 + 1 + a - c - 52 := by
    rw [lev_frac hn (by omega), hlog2]
  unfold rq
  rw [l1, l2]
  generalize hL : (dv / n).log2 + 1 + a - c - 52 = L
  obtain ⟨k, hk⟩ : ∃ k, c + L = (2 + k) + a := ⟨c + L - a - 2, by omega⟩
  have g1 : 2 ^ c * 2 ^ L = 4 * 2 ^ k * 2 ^ a := by rw [← Nat.pow_add, hk, Nat.pow_add, Nat.pow_add]
  have g2 : n * 2 ^ c * 2 ^ L = n * (4 * 2 ^ k) * 2 ^ a := by rw [Nat.mul_assoc, g1, ← Nat.mul_assoc]
  rw [g1, g2, rhe_scale (Nat.two_pow_pos _), rhe_scale (Nat.two_pow_pos _), sticky _ _ _ hn]
theorem div_fin {x y : Nat} (hx : rg x < 9218868437227405312) (hy : rg y < 9218868437227405312) (h0 : 0 < rg y) :
    Ieee.double.div x y = some (wd (sg x ^^ sg y) (rq (mg (rg x) * U1) (mg (rg y)))) := by
  obtain ⟨m, p, ex, hm⟩ := read_num hx
  obtain ⟨n, q, ey, hn⟩ := read_num hy
  have hn0 : n ≠ 0 := by
    rintro rfl
    rw [Nat.zero_mul] at hn
    have := mg_pos (r := rg y) (by omega) h0
    omega
  have hnp : 0 < n := by omega
  unfold Ieee.Format.div
  rw [ex, ey]
  have hfb : Ieee.double.fractionBits + 2 = 54 := rfl
  rw [hfb]
  unfold Ieee.Datum.quotient
  simp only [if_neg hn0, Option.map_some, Ieee.Format.write]
  obtain ⟨e, he⟩ : ∃ e, 54 + n.log2 - m.log2 = e := ⟨_, rfl⟩
  rw [he, nearest_eq _ _ _ (p + K1) (q + e + 1) (by have := K1_eq; omega), word_wd]
  refine congrArg some (congrArg (wd _) ?_)
  have hd : m <<< e = 0 ∨ 2 ^ 53 ≤ m <<< e / n := by
    rw [Nat.shiftLeft_eq]
    by_cases hm0 : m = 0
    · left; rw [hm0, Nat.zero_mul]
    · right
      rw [Nat.le_div_iff_mul_le hnp]
      have a1 := Nat.log2_self_le hm0
      have a2 := Nat.lt_log2_self (n := n)
      have a3 : 2 ^ m.log2 * 2 ^ e ≤ m * 2 ^ e := Nat.mul_le_mul_right _ a1
      have a4 : 2 ^ (54 + n.log2) ≤ 2 ^ m.log2 * 2 ^ e := by rw [← Nat.pow_add]; exact Nat.pow_le_pow_right (by omega) (by omega)
      have a5 : 2 ^ 53 * n ≤ 2 ^ 53 * 2 ^ (n.log2 + 1) := Nat.mul_le_mul_left _ (Nat.le_of_lt a2)
      rw [← Nat.pow_add, show 53 + (n.log2 + 1) = 54 + n.log2 by omega] at a5
      omega
  rw [rq_sticky _ _ hnp hd, ← hm, ← hn, Nat.shiftLeft_eq]
  have e1 : 2 * (m * 2 ^ e) * 2 ^ (p + K1) = m * 2 ^ p * U1 * 2 ^ (e + 1) := by
    have u : 2 ^ (p + K1) = 2 ^ p * U1 := Nat.pow_add 2 p K1
    rw [u, Nat.pow_succ]
    generalize 2 ^ p = P
    generalize U1 = V
    generalize 2 ^ e = E
    ac_rfl
  have e2 : n * 2 ^ (q + e + 1) = n * 2 ^ q * 2 ^ (e + 1) := by
    rw [show q + e + 1 = q + (e + 1) by omega, Nat.pow_add, Nat.mul_assoc]
  rw [e1, e2, rq_scale (Nat.two_pow_pos _)]
theorem div_fin_inf {x y : Nat} (hx : rg x < 9218868437227405312) (hy : rg y = 9218868437227405312) : Ieee.double.div x y = some (wd (sg x ^^ sg y) 0) := by
  obtain ⟨m, p, ex, hm⟩ := read_num hx
  unfold Ieee.Format.div
  rw [ex, read_inf hy]
  rfl
theorem div_inf_fin {x y : Nat} (hx : rg x = 9218868437227405312) (hy : rg y < 9218868437227405312) : Ieee.double.div x y = some (wd (sg x ^^ sg y) 9218868437227405312) := by
  obtain ⟨m, p, ey, hm⟩ := read_num hy
  unfold Ieee.Format.div
  rw [ey, read_inf hx]
  rfl
theorem div_nan {x y : Nat} (h : 9218868437227405312 < rg x ∨ 9218868437227405312 < rg y) : Ieee.double.div x y = none := by
  unfold Ieee.Format.div
  by_cases hx : 9218868437227405312 < rg x
  · obtain ⟨t, e⟩ := read_nan hx
    rw [e]
    rfl
  · obtain ⟨t, e⟩ := read_nan (h.resolve_left hx)
    rw [e]
    by_cases fx : rg x < 9218868437227405312
    · obtain ⟨m, p, ex, hm⟩ := read_num fx
      rw [ex]
      rfl
    · rw [read_inf (by omega : rg x = 9218868437227405312)]
      rfl
theorem mul_nan {x y : Nat} (h : 9218868437227405312 < rg x ∨ 9218868437227405312 < rg y) : Ieee.double.mul x y = none := by
  unfold Ieee.Format.mul
  by_cases hx : 9218868437227405312 < rg x
  · obtain ⟨t, e⟩ := read_nan hx
    rw [e]
    rfl
  · obtain ⟨t, e⟩ := read_nan (h.resolve_left hx)
    rw [e]
    by_cases fx : rg x < 9218868437227405312
    · obtain ⟨m, p, ex, hm⟩ := read_num fx
      rw [ex]
      rfl
    · rw [read_inf (by omega : rg x = 9218868437227405312)]
      rfl
/-! ### Whole numbers -/
theorem int_float (n : Int) : Go.floatOfInt .f64 n = wd (decide (n < 0)) (rq (n.natAbs * U1) 1) := by
  unfold Go.floatOfInt FloatKind.nearest FloatKind.encode
  show Ieee.double.nearest _ _ _ = _
  rw [nearest_eq _ _ _ K1 0 (by have := K1_eq; omega), word_wd]
  rfl
theorem rk_int (n : Int) : Go.floatOfInt .f64 n < 18446744073709551616 ∧ rg (Go.floatOfInt .f64 n) = rq (n.natAbs * U1) 1 ∧ sg (Go.floatOfInt .f64 n) = decide (n < 0) := by
  have := rq_le (n.natAbs * U1) 1
  rw [int_float]
  exact ⟨wd_lt (by omega), rg_wd (by omega), sg_wd (by omega)⟩
end Go.Proofs.YtkckncggiicciaaDoor
/-
  The walks of Go's float helpers, and of num.
-/
namespace Go.Proofs.YtkckncggiicciaaDoor
open Go.RowKit
/-! ### Comparisons, as the walk spells them -/
theorem fmt64 : FloatKind.f64.format = Ieee.double := rfl
theorem cmp_ne_self (x : Nat) : (FloatKind.f64.format.order x x != some Ordering.eq) = isNan x := by
  rw [fmt64]
  unfold isNan
  by_cases h : 9218868437227405312 < rg x
  · rw [order_nan (.inl h)]; simp [h]
  · rw [order_num (by omega) (by omega)]; simp [h, ord3]
theorem cmp_lt (x y : Nat) : (FloatKind.f64.format.order x y == some Ordering.lt) = (!isNan x && !isNan y && decide (rk x < rk y)) := by
  rw [fmt64]
  unfold isNan
  by_cases h : 9218868437227405312 < rg x ∨ 9218868437227405312 < rg y
  · rw [order_nan h]
    rcases h with h | h <;> simp [h]
  · rw [order_num (by omega) (by omega)]
    have h1 : ¬ 9218868437227405312 < rg x := by omega
    have h2 : ¬ 9218868437227405312 < rg y := by omega
    simp only [h1, h2, decide_false, Bool.not_false, Bool.true_and]
    unfold ord3
    by_cases h3 : rk x < rk y
    · simp [h3]
    · by_cases h4 : rk x = rk y <;> simp [h3, h4]
theorem cmp_eq (x y : Nat) : (FloatKind.f64.format.order x y == some Ordering.eq) = (!isNan x && !isNan y && decide (rk x = rk y)) := by
  rw [fmt64]
  unfold isNan
  by_cases h : 9218868437227405312 < rg x ∨ 9218868437227405312 < rg y
  · rw [order_nan h]
    rcases h with h | h <;> simp [h]
  · rw [order_num (by omega) (by omega)]
    have h1 : ¬ 9218868437227405312 < rg x := by omega
    have h2 : ¬ 9218868437227405312 < rg y := by omega
    simp only [h1, h2, decide_false, Bool.not_false, Bool.true_and]
    unfold ord3
    by_cases h3 : rk x < rk y
    · have : rk x ≠ rk y := by omega
      simp [h3, this]
    · by_cases h4 : rk x = rk y <;> simp [h3, h4]
theorem cmp_gt (x y : Nat) : (FloatKind.f64.format.order x y == some Ordering.gt) = (!isNan x && !isNan y && decide (rk y < rk x)) := by
  rw [fmt64]
  unfold isNan
  by_cases h : 9218868437227405312 < rg x ∨ 9218868437227405312 < rg y
  · rw [order_nan h]
    rcases h with h | h <;> simp [h]
  · rw [order_num (by omega) (by omega)]
    have h1 : ¬ 9218868437227405312 < rg x := by omega
    have h2 : ¬ 9218868437227405312 < rg y := by omega
    simp only [h1, h2, decide_false, Bool.not_false, Bool.true_and]
    unfold ord3
    by_cases h3 : rk x < rk y
    · have : ¬ rk y < rk x := by omega
      simp [h3, this]
    · by_cases h4 : rk x = rk y
      · simp [h4]
      · have : rk y < rk x := by omega
        simp [h3, h4, this]
/-! ### Operations that have no answer: any NaN -/
def nanOf (w : World) (x y : Nat) : Nat := (Question.nanBits .f64 x y).cut (w.tape w.drawn (.nanBits .f64 x y))
theorem nanOf_nan (w : World) (x y : Nat) : isNan (nanOf w x y) = true ∧ nanOf w x y < 18446744073709551616 := by
  unfold nanOf Question.cut isNan rg
  generalize w.tape w.drawn (.nanBits .f64 x y) = t
  have e1 : (2 : Nat) ^ 63 = 9223372036854775808 := rfl
  have e2 : (2 : Nat) ^ 52 - 1 = 4503599627370495 := rfl
  simp only [decide_eq_true_eq, e1, e2]
  have h1 : t % 2 < 2 := Nat.mod_lt _ (by omega)
  have h2 : t / 2 % 4503599627370495 < 4503599627370495 := Nat.mod_lt _ (by omega)
  generalize t % 2 = a at *
  generalize t / 2 % 4503599627370495 = b at *
  omega
theorem run_float_nan {P : Program} (w : World) (op : BinOp) (t : TypeId) (x y : Nat) (hop : op = .add ∨ op = .sub ∨ op = .mul ∨ op = .quo) (h : floatBits op .f64 x y = none) :
    (binOp op t (.float .f64 x) (.float .f64 y)).run P w = .ok (.float .f64 (nanOf w x y)) w.drew := by
  unfold floatBits at h
  rcases hop with rfl | rfl | rfl | rfl <;> simp only at h <;> (simp [binOp, Op.floatArith, h, choose, Sem.run, Question.forced, nanOf]; try rfl)
/-- The one NaN for every NaN. -/
def canon (x : Nat) : Nat := if isNan x then 9221120237041090561 else x
def key (x : Nat) : Int := if isNan x then 9221120237041090561 else if sg x then -(rg x : Int) - 1 else rg x
def lessB (a b : Nat) : Bool := decide (key a < key b)
def sameB (a b : Nat) : Bool := decide (key a = key b)
theorem isNan_false {x : Nat} (h : isNan x = false) : rg x ≤ 9218868437227405312 := by
  unfold isNan at h
  simp at h
  exact h
theorem isNan_true {x : Nat} (h : isNan x = true) : 9218868437227405312 < rg x := by
  unfold isNan at h
  simpa using h
theorem key_le (x : Nat) : key x ≤ 9221120237041090561 := by
  unfold key
  cases h : isNan x
  · have := isNan_false h
    simp only [Bool.false_eq_true, if_false]
    split <;> omega
  · simp
theorem less_nan {a : Nat} (b : Nat) (h : isNan a = true) : lessB a b = false := by
  have := key_le b
  unfold lessB
  have e : key a = 9221120237041090561 := by unfold key; rw [h]; rfl
  rw [e]
  simp
  omega
theorem key_num {a : Nat} (h : isNan a = false) : key a = if sg a then -(rg a : Int) - 1 else rg a := by
  unfold key
  rw [h]
  rfl
theorem key_lt_nan {a : Nat} (h : isNan a = false) : key a < 9221120237041090561 := by
  have := isNan_false h
  rw [key_num h]
  split <;> omega
theorem key_nan {a : Nat} (h : isNan a = true) : key a = 9221120237041090561 := by unfold key; rw [h]; rfl
theorem less_by_nan {a b : Nat} (h : isNan a = false) (hb : isNan b = true) : lessB a b = true := by
  have := key_lt_nan h
  unfold lessB
  rw [key_nan hb]
  simpa using this
theorem less_eq {a b : Nat} (ha : isNan a = false) (hb : isNan b = false) (h : rk a = rk b) : lessB a b = (sg a && !sg b) := by
  unfold lessB
  rw [key_num ha, key_num hb]
  unfold rk at h
  cases sg a <;> cases sg b <;> simp at h ⊢ <;> omega
theorem less_ne {a b : Nat} (ha : isNan a = false) (hb : isNan b = false) (h : rk a ≠ rk b) : lessB a b = decide (rk a < rk b) := by
  unfold lessB
  rw [key_num ha, key_num hb]
  unfold rk at h ⊢
  cases sg a <;> cases sg b <;> simp at h ⊢ <;> omega
theorem canon_lt {x : Nat} (h : x < 18446744073709551616) : canon x < 18446744073709551616 := by unfold canon; split <;> omega
theorem canon_key {x : Nat} (h : x < 18446744073709551616) : (canon x : Int) = if 0 ≤ key x then key x else 9223372036854775807 - key x := by
  cases hx : isNan x
  · have e : canon x = x := by unfold canon; rw [hx]; rfl
    rw [e, key_num hx]
    have := wd_self h
    have := isNan_false hx
    unfold wd at *
    cases h1 : sg x <;> simp [h1] at * <;> omega
  · rw [key_nan hx]
    unfold canon
    rw [hx]
    rfl
theorem same_canon {a b : Nat} (ha : a < 18446744073709551616) (hb : b < 18446744073709551616) : sameB a b = decide (canon a = canon b) := by
  unfold sameB
  have h1 := canon_key ha
  have h2 := canon_key hb
  have h3 := key_le a
  have h4 := key_le b
  by_cases h : key a = key b
  · rw [h] at h1
    have : canon a = canon b := by omega
    simp [h, this]
  · have : canon a ≠ canon b := by
      intro e
      rw [e] at h1
      split at h1 <;> split at h2 <;> omega
    simp [h, this]
/-- From nought to infinity, and not minus nought. -/
def rightB (x : Nat) : Bool := !isNan x && !sg x
theorem cmp_ge (x y : Nat) : (FloatKind.f64.format.order x y == some Ordering.gt || FloatKind.f64.format.order x y == some Ordering.eq) = (!isNan x && !isNan y && decide (rk y ≤ rk x)) := by
  rw [cmp_gt, cmp_eq, Bool.eq_iff_iff]
  cases isNan x <;> cases isNan y <;> simp
  omega
theorem cmp_le (x y : Nat) : (FloatKind.f64.format.order x y == some Ordering.lt || FloatKind.f64.format.order x y == some Ordering.eq) = (!isNan x && !isNan y && decide (rk x ≤ rk y)) := by
  rw [cmp_lt, cmp_eq, Bool.eq_iff_iff]
  cases isNan x <;> cases isNan y <;> simp
  omega
theorem rk_zero : rk 0 = 0 := rfl
theorem right_eq (x : Nat) : rightB x = ((!isNan x && decide (0 ≤ rk x)) && !sg x) := by
  unfold rightB rk
  cases isNan x <;> cases sg x <;> simp
end Go.Proofs.YtkckncggiicciaaDoor
/-
  The walks of package math's small functions.
-/
namespace Go.Proofs.YtkckncggiicciaaDoor
open Go.RowKit
/-- A float is stored. -/
theorem run_store_float (n : Nat) (a : Addr) (w : World) : (store a (.float .f64 n)).run Tryd.prog w = stored Tryd.prog w a (.float .f64 n) .plain := run_store Tryd.prog w a _ _ rfl
theorem call_bits (x : Nat) (w : World) : (callFunc 46 #[.float .f64 x]).run Tryd.prog w = .ok (.value (.int .u64 (x : Int))) w := by
  rw [run_callFunc_extern Tryd.func46 (by kernel_rfl) (by kernel_rfl) (by kernel_rfl) (e := Extern.MathFloatBits.float64bits) (by kernel_rfl)]
  rfl
theorem call_frombits (x : Int) (w : World) : (callFunc 69 #[.int .u64 x]).run Tryd.prog w = .ok (.value (.float .f64 x.toNat)) w := by
  rw [run_callFunc_extern Tryd.func69 (by kernel_rfl) (by kernel_rfl) (by kernel_rfl) (e := Extern.MathFloatBits.float64frombits) (by kernel_rfl)]
  rfl
set_option maxHeartbeats 400000 in
theorem IsNaN_any (x : Nat) (w : World) : Calls Tryd.prog 83 #[.float .f64 x] w fun e w' => e = .returned (.bool (isNan x)) ∧ w = w' := by
  go_enter Tryd.func83, Tryd.ntmps83
  go_wp2_with fail
  go_ret
  exact ⟨ret_bool (cmp_ne_self x), rfl⟩
theorem sg_wrap {x : Nat} (hx : x < 18446744073709551616) : sg x = decide (9223372036854775808 ≤ x) := by
  unfold sg
  by_cases h : 9223372036854775808 ≤ x
  · have : x / 9223372036854775808 = 1 := by omega
    simp [h, this]
  · have : x / 9223372036854775808 = 0 := by omega
    simp [h, this]
theorem and_not_top (x : Nat) : x &&& (18446744073709551615 - 9223372036854775808) = rg x := by
  have e : (18446744073709551615 - 9223372036854775808 : Nat) = 2 ^ 63 - 1 := rfl
  rw [e, Nat.and_two_pow_sub_one_eq_mod]
  rfl
end Go.Proofs.YtkckncggiicciaaDoor
/-
  Sums and quotients of floats from nought to infinity; floats of whole numbers.
-/
namespace Go.Proofs.YtkckncggiicciaaDoor
theorem right_sg {x : Nat} (h : rightB x = true) : isNan x = false ∧ sg x = false ∧ rg x ≤ 9218868437227405312 := by
  unfold rightB at h
  simp at h
  exact ⟨h.1, h.2, isNan_false h.1⟩
theorem right_mk {x : Nat} (h1 : sg x = false) (h2 : rg x ≤ 9218868437227405312) : rightB x = true := by
  unfold rightB isNan
  rw [h1]
  simp
  omega
theorem rg_small {x : Nat} (h : x ≤ 9218868437227405312) : rg x = x ∧ sg x = false := by
  unfold rg sg
  have : x / 9223372036854775808 = 0 := by omega
  rw [this]
  exact ⟨by omega, rfl⟩
theorem right_self {x : Nat} (h : rightB x = true) (hx : x < 18446744073709551616) : rg x = x := by
  obtain ⟨_, h1, h2⟩ := right_sg h
  have := wd_self hx
  rw [h1] at this
  exact this
theorem right_small {x : Nat} (h : x ≤ 9218868437227405312) : rightB x = true := right_mk (rg_small h).2 (by rw [(rg_small h).1]; exact h)
theorem right_le {x : Nat} (h : rightB x = true) (hx : x < 18446744073709551616) : x ≤ 9218868437227405312 := by
  have := right_self h hx
  have := (right_sg h).2.2
  omega
theorem wd_false (r : Nat) : wd false r = r := rfl
/-- A sum of two such: it is no less than either. -/
theorem add_right {x y : Nat} (hx : x ≤ 9218868437227405312) (hy : y ≤ 9218868437227405312) :
    ∃ r, Ieee.double.add x y = some r ∧ r ≤ 9218868437227405312 ∧ x ≤ r ∧ y ≤ r := by
  obtain ⟨rx, sx⟩ := rg_small hx
  obtain ⟨ry, sy⟩ := rg_small hy
  by_cases fx : rg x < 9218868437227405312
  · by_cases fy : rg y < 9218868437227405312
    · refine ⟨_, add_fin fx fy, ?_⟩
      have ex : sv x = (mg x : Int) := by unfold sv; rw [sx, rx]; rfl
      have ey : sv y = (mg y : Int) := by unfold sv; rw [sy, ry]; rfl
      have e : (sv x + sv y).natAbs = mg x + mg y := by rw [ex, ey]; omega
      have hs : (if sv x + sv y = 0 then sg x && sg y else decide (sv x + sv y < 0)) = false := by
        rw [sx]
        split
        · rfl
        · simp; omega
      rw [hs, e, wd_false]
      have h1 := le_rq_of (N := mg x + mg y) (D := 1) (r := x) (by omega) hx (by omega)
      have h2 := le_rq_of (N := mg x + mg y) (D := 1) (r := y) (by omega) hy (by omega)
      have h3 := rq_le (mg x + mg y) 1
      exact ⟨h3, h1, h2⟩
    · refine ⟨_, add_fin_inf fx (by omega), ?_⟩
      rw [sy, wd_false]
      exact ⟨Nat.le_refl _, hx, hy⟩
  · by_cases fy : rg y < 9218868437227405312
    · refine ⟨_, add_inf_fin (by omega) fy, ?_⟩
      rw [sx, wd_false]
      exact ⟨Nat.le_refl _, hx, hy⟩
    · refine ⟨_, by rw [add_inf_inf (by omega) (by omega), if_pos (sx.trans sy.symm)], ?_⟩
      rw [sx, wd_false]
      exact ⟨Nat.le_refl _, hx, hy⟩
/-- The rung of a quotient. -/
def dv (x y : Nat) : Nat := if y = 9218868437227405312 then 0 else rq (mg x * U1) (mg y)
theorem dv_le (x y : Nat) : dv x y ≤ 9218868437227405312 := by
  unfold dv
  split
  · omega
  · exact rq_le _ _
theorem dv_mono {x x' y : Nat} (hx' : x' ≤ 9218868437227405312) (h : x ≤ x') : dv x y ≤ dv x' y := by
  unfold dv
  split
  · omega
  · exact rq_mono_same (Nat.mul_le_mul_right _ (mg_le hx' h))
theorem div_right {x y : Nat} (hx : x < 9218868437227405312) (hy : y ≤ 9218868437227405312) (h0 : 0 < y) : Ieee.double.div x y = some (dv x y) := by
  obtain ⟨rx, sx⟩ := rg_small (Nat.le_of_lt hx)
  obtain ⟨ry, sy⟩ := rg_small hy
  by_cases fy : rg y < 9218868437227405312
  · rw [div_fin (by omega) fy (by omega), sx, sy, rx, ry]
    unfold dv
    rw [if_neg (by omega), Bool.xor_self, wd_false]
  · rw [div_fin_inf (by omega) (by omega), sx, sy]
    unfold dv
    rw [if_pos (by omega), Bool.xor_self, wd_false]
/-- The float of a whole number from 0. -/
def fi (n : Nat) : Nat := rq (n * U1) 1
theorem fi_eq (n : Nat) : Go.floatOfInt .f64 (n : Int) = fi n := by
  rw [int_float]
  have : decide ((n : Int) < 0) = false := by simp
  rw [this, wd_false, Int.natAbs_natCast]
  unfold fi
  exact Eq.refl _
theorem fi_mono {a b : Nat} (h : a ≤ b) : fi a ≤ fi b := rq_mono_same (Nat.mul_le_mul_right _ h)
theorem mg_top : mg 4890909195324358656 = 9223372036854775808 * U1 := by decide +kernel
theorem mg_one : mg 4607182418800017408 = U1 := by decide +kernel
theorem fi_one : fi 1 = 4607182418800017408 := by
  have := rq_mg1 (r := 4607182418800017408) (by omega)
  rw [mg_one] at this
  unfold fi
  rw [Nat.one_mul]
  exact this
theorem fi_top : fi 9223372036854775808 = 4890909195324358656 := by
  have := rq_mg1 (r := 4890909195324358656) (by omega)
  rw [mg_top] at this
  exact this
theorem fi_bd {n : Nat} (h : n ≤ 9223372036854775808) : fi n ≤ 4890909195324358656 := by
  have := fi_mono h
  rwa [fi_top] at this
theorem fi_pos {n : Nat} (h : 1 ≤ n) : 4607182418800017408 ≤ fi n := by
  have := fi_mono h
  rwa [fi_one] at this
theorem fi_zero : fi 0 = 0 := by
  unfold fi
  rw [Nat.zero_mul]
  exact rq_zero (by omega)
end Go.Proofs.YtkckncggiicciaaDoor
/-
  What sums and quotients are, once more; rounding up; whole numbers of floats.
-/
namespace Go.Proofs.YtkckncggiicciaaDoor
theorem nan_of_word {s : Bool} {r : Nat} (h : r ≤ 9218868437227405312) : isNan (wd s r) = false ∧ wd s r < 18446744073709551616 := by
  unfold isNan
  rw [rg_wd (by omega)]
  exact ⟨by simp; omega, wd_lt (by omega)⟩
theorem add_ok {x y r : Nat} (h : Ieee.double.add x y = some r) : isNan r = false ∧ r < 18446744073709551616 := by
  by_cases hn : 9218868437227405312 < rg x ∨ 9218868437227405312 < rg y
  · rw [add_nan hn] at h; cases h
  by_cases fx : rg x < 9218868437227405312
  · by_cases fy : rg y < 9218868437227405312
    · rw [add_fin fx fy] at h
      injection h with h
      subst h
      exact nan_of_word (rq_le _ _)
    · rw [add_fin_inf fx (by omega)] at h
      injection h with h
      subst h
      exact nan_of_word (Nat.le_refl _)
  · by_cases fy : rg y < 9218868437227405312
    · rw [add_inf_fin (by omega) fy] at h
      injection h with h
      subst h
      exact nan_of_word (Nat.le_refl _)
    · rw [add_inf_inf (by omega) (by omega)] at h
      split at h
      · injection h with h
        subst h
        exact nan_of_word (Nat.le_refl _)
      · cases h
theorem sub_ok {x y r : Nat} (h : Ieee.double.sub x y = some r) : isNan r = false ∧ r < 18446744073709551616 := add_ok (by rw [← sub_add]; exact h)
/-- A quotient by a finite number that is not nought. -/
theorem div_ok {x y : Nat} (hx : isNan x = false) (hy : rg y < 9218868437227405312) (h0 : 0 < rg y) : ∃ r, Ieee.double.div x y = some r ∧ isNan r = false ∧ r < 18446744073709551616 := by
  have := isNan_false hx
  by_cases fx : rg x < 9218868437227405312
  · exact ⟨_, div_fin fx hy h0, nan_of_word (rq_le _ _)⟩
  · exact ⟨_, div_inf_fin (by omega) hy, nan_of_word (Nat.le_refl _)⟩
theorem lt_of_nan {x : Nat} (h : isNan x = true) : 9218868437227405312 < rg x := isNan_true h
/-- A difference is no NaN, but of two infinities. -/
theorem sub_right {x y : Nat} (hx : x ≤ 9218868437227405312) (hy : y ≤ 9218868437227405312) :
    (x = 9218868437227405312 ∧ y = 9218868437227405312 ∧ Ieee.double.sub x y = none) ∨ ∃ r, Ieee.double.sub x y = some r ∧ isNan r = false ∧ r < 18446744073709551616 ∧ rk r = (if x = 9218868437227405312 then 9218868437227405312 else if y = 9218868437227405312 then -9218868437227405312 else sr ((mg x : Int) - mg y)) ∧
      (rk r = 0 → r = 0) := by
  obtain ⟨rx, sx⟩ := rg_small hx
  obtain ⟨ry, sy⟩ := rg_small hy
  have so : sg (opp y) = true := by rw [sg_opp, sy]; rfl
  have ro : rg (opp y) = y := by rw [rg_opp, ry]
  rw [sub_add]
  by_cases fx : x = 9218868437227405312
  · by_cases fy : y = 9218868437227405312
    · left
      refine ⟨fx, fy, ?_⟩
      rw [add_inf_inf (by omega) (by omega), if_neg (by rw [sx, so]; simp)]
    · right
      refine ⟨_, add_inf_fin (by omega) (by omega), ?_⟩
      rw [if_pos fx, sx, wd_false]
      exact ⟨(right_sg (right_small (Nat.le_refl _))).1, by omega, rfl, fun h => by revert h; decide⟩
  · right
    by_cases fy : y = 9218868437227405312
    · refine ⟨_, add_fin_inf (by omega) (by omega), ?_⟩
      rw [if_neg fx, if_pos fy, so]
      have hk : rk (wd true 9218868437227405312) = -9218868437227405312 := by decide
      exact ⟨(nan_of_word (Nat.le_refl _)).1, (nan_of_word (Nat.le_refl _)).2, hk, fun h => by rw [hk] at h; omega⟩
    · obtain ⟨r, h1, h2, h3, h4, h5, h6⟩ := rk_add (x := x) (y := opp y) (by omega) (by omega)
      have e : sv x + sv (opp y) = (mg x : Int) - mg y := by
        rw [sv_opp]
        unfold sv
        rw [sx, sy, rx, ry]
        simp
        omega
      rw [e] at h4 h5 h6
      refine ⟨r, h1, by unfold isNan; simp; omega, h2, by rw [if_neg fx, if_neg fy, h4], fun h => ?_⟩
      have hr0 : rg r = 0 := by unfold rk at h; split at h <;> omega
      by_cases hd : (mg x : Int) - mg y = 0
      · have := h5 hd
        rw [sx, Bool.false_and] at this
        exact eq_of_sg_rg h2 (by omega) this hr0
      · have hs := h6 hd
        by_cases hneg : (mg x : Int) - mg y < 0
        · -- a difference of unlike numbers is not nought
          exfalso
          have hxy : x < y := by
            apply Nat.lt_of_not_le
            intro hle
            have := mg_le hx hle
            omega
          have h1' : 1 ≤ rq (mg y - mg x) 1 := by
            apply le_rq_of (by omega) (by omega)
            show 1 * 1 ≤ _
            omega
          rw [h4] at h
          unfold sr at h
          rw [if_pos hneg] at h
          have e2 : ((mg x : Int) - mg y).natAbs = mg y - mg x := by omega
          rw [e2] at h
          omega
        · rw [decide_eq_false hneg] at hs
          exact eq_of_sg_rg h2 (by omega) hs hr0
/-! ### Quotients keep the order -/
/-- The rung of a quotient, with its sign. -/
def qd (a : Int) (y : Nat) : Int := if a < 0 then -(rq (mg a.natAbs * U1) (mg y) : Int) else rq (mg a.natAbs * U1) (mg y)
theorem rk_wd (s : Bool) {r : Nat} (h : r ≤ 9218868437227405312) : rk (wd s r) = if s then -(r : Int) else r := by
  unfold rk
  rw [sg_wd (by omega), rg_wd (by omega)]
theorem div_rk {x y : Nat} (hx : rg x < 9218868437227405312) (hy : y < 9218868437227405312) (h0 : 0 < y) :
    ∃ r, Ieee.double.div x y = some r ∧ rg r ≤ 9218868437227405312 ∧ r < 18446744073709551616 ∧ rk r = qd (rk x) y := by
  obtain ⟨ry, sy⟩ := rg_small (Nat.le_of_lt hy)
  refine ⟨_, div_fin hx (by omega) (by omega), ?_⟩
  have hle := rq_le (mg (rg x) * U1) (mg (rg y))
  refine ⟨by rw [rg_wd (by omega)]; exact hle, wd_lt (by omega), ?_⟩
  rw [rk_wd _ hle, sy, Bool.xor_false, ry]
  unfold qd rk
  cases h : sg x
  · simp
    intro h'; omega
  · simp only [if_true]
    by_cases hz : rg x = 0
    · have : rq (mg 0 * U1) (mg y) = 0 := by
        rw [mg_zero, Nat.zero_mul]
        exact rq_zero (mg_pos (by omega) h0)
      rw [hz]
      simp [this]
    · rw [if_pos (by omega)]
      simp
theorem qd_mono {a b : Int} {y : Nat} (ha : -9218868437227405312 ≤ a) (hb : b ≤ 9218868437227405312) (h : a ≤ b) : qd a y ≤ qd b y := by
  unfold qd
  split <;> split
  · have := rq_mono_same (D := mg y) (N1 := mg b.natAbs * U1) (N2 := mg a.natAbs * U1) (Nat.mul_le_mul_right _ (mg_le (by omega) (by omega)))
    omega
  · omega
  · omega
  · have := rq_mono_same (D := mg y) (N1 := mg a.natAbs * U1) (N2 := mg b.natAbs * U1) (Nat.mul_le_mul_right _ (mg_le (by omega) (by omega)))
    omega
/-- A quotient by one or more is no greater. -/
theorem qd_le {a : Int} {y : Nat} (ha : -9218868437227405312 ≤ a ∧ a ≤ 9218868437227405312) (hy : 4607182418800017408 ≤ y) (hy2 : y ≤ 9218868437227405312) : (0 ≤ a → 0 ≤ qd a y ∧ qd a y ≤ a) ∧ (a ≤ 0 → a ≤ qd a y ∧ qd a y ≤ 0) := by
  have hu : U1 ≤ mg y := by rw [← mg_one]; exact mg_le hy2 hy
  have hp : 0 < mg y := Nat.lt_of_lt_of_le U1_pos hu
  have hle : rq (mg a.natAbs * U1) (mg y) ≤ a.natAbs := rq_le_of hp (by omega) (Nat.mul_le_mul_left _ hu)
  unfold qd
  constructor
  · intro h
    rw [if_neg (by omega)]
    omega
  · intro h
    split <;> omega
/-! ### Rounding up, cutting -/
theorem cut_zero (neg : Bool) (n drop : Nat) : Ieee.Toward.zero.cut neg n drop = n / 2 ^ drop := by
  unfold Ieee.Toward.cut
  simp only [Nat.one_shiftLeft, Bool.toNat_false, Nat.add_zero]
  by_cases h : drop ≤ n.log2 + 2
  · rw [Nat.min_eq_left h]
  · rw [Nat.min_eq_right (by omega)]
    have hn : n < 2 ^ (n.log2 + 1) := Nat.lt_log2_self
    have h2 : 2 ^ (n.log2 + 1) ≤ 2 ^ (n.log2 + 2) := Nat.pow_le_pow_right (by omega) (by omega)
    have h3 : 2 ^ (n.log2 + 1) ≤ 2 ^ drop := Nat.pow_le_pow_right (by omega) (by omega)
    rw [Nat.div_eq_of_lt (by omega), Nat.div_eq_of_lt (by omega)]
theorem cut_up (neg : Bool) (n drop : Nat) : Ieee.Toward.up.cut neg n drop = n / 2 ^ drop + (!neg && n % 2 ^ drop != 0).toNat := by
  unfold Ieee.Toward.cut
  simp only [Nat.one_shiftLeft]
  by_cases h : drop ≤ n.log2 + 2
  · rw [Nat.min_eq_left h]
  · rw [Nat.min_eq_right (by omega)]
    have hn : n < 2 ^ (n.log2 + 1) := Nat.lt_log2_self
    have h2 : 2 ^ (n.log2 + 1) ≤ 2 ^ (n.log2 + 2) := Nat.pow_le_pow_right (by omega) (by omega)
    have h3 : 2 ^ (n.log2 + 1) ≤ 2 ^ drop := Nat.pow_le_pow_right (by omega) (by omega)
    rw [Nat.div_eq_of_lt (by omega), Nat.div_eq_of_lt (by omega), Nat.mod_eq_of_lt (by omega), Nat.mod_eq_of_lt (by omega)]
/-- A number's whole ones, and what is left over. -/
theorem whole_eq {m p M : Nat} (h : m * 2 ^ p = M) : m <<< ((-1074 + (p : Int)).toNat) / 2 ^ (-(-1074 + (p : Int))).toNat = M / U1 ∧ (m <<< ((-1074 + (p : Int)).toNat) % 2 ^ (-(-1074 + (p : Int))).toNat = 0 ↔ M % U1 = 0) := by
  obtain ⟨q, hq⟩ : ∃ q, (-1074 + (p : Int)).toNat = q := ⟨_, rfl⟩
  obtain ⟨d, hd⟩ : ∃ d, (-(-1074 + (p : Int))).toNat = d := ⟨_, rfl⟩
  rw [hq, hd, Nat.shiftLeft_eq]
  have hk := K1_eq
  have e1 : p = q + (p - q) := by omega
  have e2 : K1 = d + (p - q) := by omega
  have hM : M = m * 2 ^ q * 2 ^ (p - q) := by rw [← h, Nat.mul_assoc, ← Nat.pow_add, ← e1]
  have hU : U1 = 2 ^ d * 2 ^ (p - q) := by unfold U1; rw [← Nat.pow_add, ← e2]
  rw [hM, hU, Nat.mul_div_mul_right _ _ (Nat.two_pow_pos _), Nat.mul_mod_mul_right]
  refine ⟨rfl, ?_⟩
  have := Nat.two_pow_pos (p - q)
  rw [Nat.mul_eq_zero]
  omega
/-- int(x), of a finite number. -/
def cutI (x : Nat) : Int := if sg x then -((mg (rg x) / U1 : Nat) : Int) else ((mg (rg x) / U1 : Nat) : Int)
theorem toInt_eq {x : Nat} (h : rg x < 9218868437227405312) : (FloatKind.f64.decode x).toInt .zero = some (cutI x) := by
  obtain ⟨m, p, ex, hm⟩ := read_num h
  show (Ieee.double.read x).toInt .zero = _
  rw [ex]
  unfold Ieee.Datum.toInt Ieee.Datum.integral
  simp only [cut_zero]
  have := (whole_eq hm).1
  rw [this, signed_eq, Nat.pow_zero, Nat.mul_one]
  rfl
/-- A finite number rounded up. -/
def upI (x : Nat) : Int := if sg x then -((mg (rg x) / U1 : Nat) : Int) else ((mg (rg x) / U1 + (mg (rg x) % U1 != 0).toNat : Nat) : Int)
def ceilW (x : Nat) : Nat := if rg x = 9218868437227405312 then x else wd (sg x) (rq ((upI x).natAbs * U1) 1)
theorem ceil_enc {x : Nat} (h : isNan x = false) (hx : x < 18446744073709551616) : FloatKind.f64.encode ((FloatKind.f64.decode x).integral .up) = ceilW x := by
  have hle := isNan_false h
  unfold ceilW
  by_cases hi : rg x = 9218868437227405312
  · rw [if_pos hi]
    show Ieee.double.write ((Ieee.double.read x).integral .up) = x
    rw [read_inf hi]
    show wd (sg x) 9218868437227405312 = x
    rw [← hi]
    exact wd_self hx
  · rw [if_neg hi]
    obtain ⟨m, p, ex, hm⟩ := read_num (show rg x < 9218868437227405312 by omega)
    show Ieee.double.write ((Ieee.double.read x).integral .up) = _
    rw [ex]
    unfold Ieee.Datum.integral Ieee.Format.write
    simp only [cut_up]
    rw [nearest_eq _ _ _ K1 0 (by have := K1_eq; omega), word_wd]
    have h1 := (whole_eq hm).1
    have h2 := (whole_eq hm).2
    rw [h1]
    have e : ((upI x).natAbs : Nat) = mg (rg x) / U1 + (!sg x && (m <<< ((-1074 + (p : Int)).toNat) % 2 ^ (-(-1074 + (p : Int))).toNat != 0)).toNat := by
      have hb : (m <<< ((-1074 + (p : Int)).toNat) % 2 ^ (-(-1074 + (p : Int))).toNat != 0) = (mg (rg x) % U1 != 0) := by
        rw [Bool.eq_iff_iff, bne_iff_ne, bne_iff_ne]
        exact not_congr h2
      rw [hb]
      unfold upI
      generalize mg (rg x) / U1 = A
      generalize (mg (rg x) % U1 != 0) = c
      cases sg x
      · rw [if_neg (by decide), Int.natAbs_natCast]
        rfl
      · rw [if_pos rfl, Int.natAbs_neg, Int.natAbs_natCast]
        rfl
    rw [e, Nat.pow_zero]
    rfl
theorem ceil_lt {x : Nat} (hx : x < 18446744073709551616) : ceilW x < 18446744073709551616 ∧ (isNan x = false → isNan (ceilW x) = false) := by
  unfold ceilW
  split
  · exact ⟨hx, fun h => h⟩
  · exact ⟨(nan_of_word (rq_le _ _)).2, fun _ => (nan_of_word (rq_le _ _)).1⟩
theorem ceil_rk {x : Nat} (h : rg x < 9218868437227405312) : rk (ceilW x) = sr (upI x * U1) := by
  unfold ceilW
  rw [if_neg (by omega), rk_wd _ (rq_le _ _)]
  have hU := U1_pos
  unfold sr
  have hn : (upI x * (U1 : Int)).natAbs = (upI x).natAbs * U1 := by rw [Int.natAbs_mul, Int.natAbs_natCast]
  rw [hn]
  cases hs : sg x
  · have h0 : 0 ≤ upI x := by unfold upI; rw [hs]; simp only [Bool.false_eq_true, if_false]; exact Int.natCast_nonneg _
    have : ¬ upI x * (U1 : Int) < 0 := by
      have := Int.mul_nonneg h0 (Int.natCast_nonneg U1)
      omega
    rw [if_neg this]
    exact if_neg (by decide)
  · have h0 : upI x ≤ 0 := by
      unfold upI
      rw [hs]
      simp only [if_true]
      generalize mg (rg x) / U1 = A
      omega
    by_cases hz : upI x = 0
    · rw [hz]
      have : rq ((0 : Int).natAbs * U1) 1 = 0 := by
        rw [Int.natAbs_zero, Nat.zero_mul]
        exact rq_zero (by omega)
      rw [this, Int.zero_mul]
      decide
    · have : upI x * (U1 : Int) < 0 := Int.mul_neg_of_neg_of_pos (by omega) (by omega)
      rw [if_pos this]
      exact if_pos rfl
theorem upI_mono {x y : Nat} (hx : rg x < 9218868437227405312) (hy : rg y < 9218868437227405312) (h : rk x ≤ rk y) : upI x ≤ upI y := by
  have hU := U1_pos
  unfold upI
  unfold rk at h
  cases h1 : sg x <;> cases h2 : sg y <;> rw [h1, h2] at h <;> simp only [if_true, Bool.false_eq_true, if_false] at h ⊢
  · have hm : mg (rg x) ≤ mg (rg y) := mg_le (by omega) (by omega)
    have hd : mg (rg x) / U1 ≤ mg (rg y) / U1 := Nat.div_le_div_right hm
    have b1 := bool_le (mg (rg x) % U1 != 0)
    have b2 := bool_le (mg (rg y) % U1 != 0)
    have e1 := Nat.div_add_mod (mg (rg x)) U1
    have e2 := Nat.div_add_mod (mg (rg y)) U1
    have hz : mg (rg x) / U1 = mg (rg y) / U1 → (mg (rg x) % U1 != 0).toNat ≤ (mg (rg y) % U1 != 0).toNat := fun he => by
      rw [he] at e1
      by_cases hz : mg (rg x) % U1 = 0
      · simp [hz]
      · have hz2 : mg (rg y) % U1 ≠ 0 := by omega
        have e3 : (mg (rg y) % U1 != 0) = true := by simpa using hz2
        rw [e3]
        exact bool_le _
    clear e1 e2
    generalize mg (rg x) / U1 = a at *
    generalize mg (rg y) / U1 = b at *
    generalize (mg (rg x) % U1 != 0).toNat = c at *
    generalize (mg (rg y) % U1 != 0).toNat = d at *
    omega
  · have e1 : rg x = 0 := by omega
    have e2 : rg y = 0 := by omega
    rw [e1, e2, mg_zero]
    simp
  · generalize mg (rg x) / U1 = a at *
    generalize mg (rg y) / U1 = b at *
    omega
  · have hm : mg (rg y) ≤ mg (rg x) := mg_le (by omega) (by omega)
    have hd : mg (rg y) / U1 ≤ mg (rg x) / U1 := Nat.div_le_div_right hm
    generalize mg (rg x) / U1 = a at *
    generalize mg (rg y) / U1 = b at *
    omega
theorem cutI_mono {x y : Nat} (hx : rg x < 9218868437227405312) (hy : rg y < 9218868437227405312) (h : rk x ≤ rk y) : cutI x ≤ cutI y := by
  unfold cutI
  unfold rk at h
  cases h1 : sg x <;> cases h2 : sg y <;> rw [h1, h2] at h <;> simp only [if_true, Bool.false_eq_true, if_false] at h ⊢
  · have hd : mg (rg x) / U1 ≤ mg (rg y) / U1 := Nat.div_le_div_right (mg_le (by omega) (by omega))
    generalize mg (rg x) / U1 = a at *
    generalize mg (rg y) / U1 = b at *
    omega
  · have e1 : rg x = 0 := by omega
    have e2 : rg y = 0 := by omega
    rw [e1, e2]
    simp [mg_zero]
  · generalize mg (rg x) / U1 = a at *
    generalize mg (rg y) / U1 = b at *
    omega
  · have hd : mg (rg y) / U1 ≤ mg (rg x) / U1 := Nat.div_le_div_right (mg_le (by omega) (by omega))
    generalize mg (rg x) / U1 = a at *
    generalize mg (rg y) / U1 = b at *
    omega
/-- Rounding up keeps the order. -/
theorem ceil_mono {x y : Nat} (hx : isNan x = false) (hy : isNan y = false) (h : rk x ≤ rk y) : rk (ceilW x) ≤ rk (ceilW y) := by
  have a1 := isNan_false hx
  have a2 := isNan_false hy
  have inf : ∀ z, rg z = 9218868437227405312 → ceilW z = z := fun z hz => by unfold ceilW; rw [if_pos hz]
  have bd : ∀ z, isNan z = false → -9218868437227405312 ≤ rk (ceilW z) ∧ rk (ceilW z) ≤ 9218868437227405312 := fun z hz => by
    have : rg (ceilW z) ≤ 9218868437227405312 := by
      unfold ceilW
      split
      · omega
      · rw [rg_wd (by have := rq_le ((upI z).natAbs * U1) 1; omega)]
        exact rq_le _ _
    unfold rk
    split <;> omega
  by_cases fx : rg x = 9218868437227405312
  · rw [inf x fx]
    by_cases hs : sg x = true
    · have : rk x = -9218868437227405312 := by unfold rk; rw [hs, fx]; rfl
      rw [this]
      exact (bd y hy).1
    · have hs' : sg x = false := by simpa using hs
      have hx' : rk x = 9218868437227405312 := by unfold rk; rw [hs', fx]; rfl
      have hy' : rg y = 9218868437227405312 := by rw [hx'] at h; unfold rk at h; split at h <;> omega
      rw [inf y hy']
      exact h
  · by_cases fy : rg y = 9218868437227405312
    · rw [inf y fy]
      by_cases hs : sg y = true
      · exfalso
        have : rk y = -9218868437227405312 := by unfold rk; rw [hs, fy]; rfl
        rw [this] at h
        unfold rk at h
        split at h <;> omega
      · have hs' : sg y = false := by simpa using hs
        have : rk y = 9218868437227405312 := by unfold rk; rw [hs', fy]; rfl
        rw [this]
        exact (bd x hx).2
    · rw [ceil_rk (by omega), ceil_rk (by omega)]
      exact sr_mono (Int.mul_le_mul_of_nonneg_right (upI_mono (by omega) (by omega) h) (Int.natCast_nonneg _))
/-- int(x) lies within its kind, where x does. -/
theorem cutI_bd {x : Nat} (h1 : -4890909195324358656 ≤ rk x) (h2 : rk x < 4890909195324358656) : rg x < 9218868437227405312 ∧ -9223372036854775808 ≤ cutI x ∧ cutI x ≤ 9223372036854775807 := by
  have hU := U1_pos
  have hr : rg x ≤ 4890909195324358656 := by unfold rk at h1 h2; cases hs : sg x <;> rw [hs] at h1 h2 <;> simp at h1 h2 <;> omega
  refine ⟨by omega, ?_⟩
  have hm := mg_le (r := rg x) (s := 4890909195324358656) (by omega) hr
  rw [mg_top] at hm
  unfold cutI
  cases hs : sg x
  · have hlt : rg x < 4890909195324358656 := by unfold rk at h2; rw [hs] at h2; simp at h2; omega
    have hm2 := mg_lt (r := rg x) (s := 4890909195324358656) (by omega) hlt
    rw [mg_top] at hm2
    have : mg (rg x) / U1 < 9223372036854775808 := by rw [Nat.div_lt_iff_lt_mul hU]; exact hm2
    simp only [Bool.false_eq_true, if_false]
    generalize mg (rg x) / U1 = a at *
    omega
  · have : mg (rg x) / U1 ≤ 9223372036854775808 := by
      have := Nat.div_le_div_right (c := U1) hm
      rwa [Nat.mul_div_cancel _ hU] at this
    simp only [if_true]
    generalize mg (rg x) / U1 = a at *
    omega
theorem toIntVal_eq {x : Nat} (h1 : -4890909195324358656 ≤ rk x) (h2 : rk x < 4890909195324358656) : floatToIntVal .f64 x .i64 = some (cutI x) := by
  obtain ⟨a, b, c⟩ := cutI_bd h1 h2
  unfold floatToIntVal
  rw [toInt_eq a]
  simp only
  rw [if_pos]
  exact ⟨b, c⟩
end Go.Proofs.YtkckncggiicciaaDoor
/-
  The walks of num's floats, and of the page's: the one NaN, the order, sums, the greater one, spans.
-/
namespace Go.Proofs.YtkckncggiicciaaDoor
open Go.RowKit
set_option maxHeartbeats 400000 in
theorem numnan_any (w : World) : Calls Tryd.prog 59 #[] w fun e w' => e = .returned (.float .f64 9221120237041090561) ∧ w = w' := by
  have hc := call_frombits
  go_enter Tryd.func59, Tryd.ntmps59
  go_wp2_with fail
  go_ret
  exact ⟨rfl, rfl⟩
set_option maxHeartbeats 400000 in
theorem Canon_any (x : Nat) (w : World) : Calls Tryd.prog 60 #[.float .f64 x] w fun e w' => e = .returned (.float .f64 (canon x)) ∧ w = w' := by
  unfold canon
  cases h : isNan x
  all_goals
    go_enter Tryd.func60, Tryd.ntmps60
    go_wp2_with (first | (go_at_call 83; refine (IsNaN_any _ _).mono ?_; rintro e w1 ⟨rfl, rfl⟩) | (go_at_call 59; refine (numnan_any _).mono ?_; rintro e w1 ⟨rfl, rfl⟩))
    go_ret
    exact ⟨rfl, rfl⟩
set_option maxHeartbeats 400000 in
theorem RefNaN_any (w : World) : Calls Tryd.prog 44 #[] w fun e w' => e = .returned (.float .f64 9221120237041090561) ∧ w = w' := by
  have hc := call_frombits
  go_enter Tryd.func44, Tryd.ntmps44
  go_wp2_with fail
  go_ret
  exact ⟨rfl, rfl⟩
theorem nan_nan : isNan 9221120237041090561 = true := by decide
set_option maxHeartbeats 400000 in
theorem RefCanon_any (x : Nat) (w : World) : Calls Tryd.prog 70 #[.float .f64 x] w fun e w' => e = .returned (.float .f64 (canon x)) ∧ w = w' := by
  have hne := cmp_ne_self x
  unfold canon
  cases h : isNan x
  all_goals
    rw [h] at hne
    clear h
    go_enter Tryd.func70, Tryd.ntmps70
    go_wp2_with (go_at_call 44; refine (RefNaN_any _).mono ?_; rintro e w1 ⟨rfl, rfl⟩)
    go_ret
    exact ⟨rfl, rfl⟩
theorem not_u64 (c : Nat) (h : c < 18446744073709551616) : bits .xor .u64 IntKind.u64.max (c : Int) = 18446744073709551615 - (c : Int) := by
  have h1 : BitVec.ofInt 64 IntKind.u64.max = BitVec.allOnes 64 := by decide
  have key : (BitVec.ofInt 64 IntKind.u64.max ^^^ BitVec.ofInt 64 (c : Int)).toNat = 18446744073709551615 - c := by
    rw [h1, BitVec.xor_comm, BitVec.xor_allOnes, BitVec.toNat_not, BitVec.toNat_ofInt]
    have e : ((c : Int) % ((2 ^ 64 : Nat) : Int)).toNat = c := by omega
    rw [e]
  show IntKind.u64.wrap ((BitVec.ofInt 64 IntKind.u64.max ^^^ BitVec.ofInt 64 (c : Int)).toNat : Nat) = _
  rw [key]
  unfold IntKind.wrap
  simp [IntKind.signed, IntKind.bits]
  omega
theorem or_top (c : Nat) (h : c < 9223372036854775808) : bits .or .u64 (c : Int) 9223372036854775808 = (c : Int) + 9223372036854775808 := by
  have := u64_or (c : Int) 9223372036854775808 (by omega) (by omega) (by omega) (by omega)
  rw [this]
  have e : c ||| 9223372036854775808 = c + 9223372036854775808 := by
    have := Nat.two_pow_add_eq_or_of_lt (i := 63) (b := c) h 1
    rw [Nat.or_comm]
    have e2 : (2 : Nat) ^ 63 * 1 = 9223372036854775808 := rfl
    rw [e2] at this
    omega
  simp [e]
set_option maxHeartbeats 400000 in
theorem rank_any (x : Nat) (w : World) (hx : x < 18446744073709551616) : Calls Tryd.prog 134 #[.float .f64 x] w fun e w' => e = .returned (.int .u64 (key x + 9223372036854775808)) ∧ w = w' := by
  have hc := canon_key hx
  have hl := canon_lt hx
  have hk := key_le x
  have hb := call_bits (canon x)
  obtain ⟨c, hcc⟩ : ∃ c, canon x = c := ⟨_, rfl⟩
  have hC : ∀ w, Calls Tryd.prog 70 #[.float .f64 x] w fun e w' => e = .returned (.float .f64 c) ∧ w = w' := by rw [← hcc]; exact fun w => RefCanon_any x w
  rw [hcc] at hc hl hb
  have HC := Lib.hid hC
  have Hc := Lib.hid hc
  clear hC hcc hc
  by_cases h : 9223372036854775808 ≤ c
  · have hd : ((c : Int) / 9223372036854775808 == 1) = true := by simp; omega
    go_enter Tryd.func134, Tryd.ntmps134
    go_wp2_with (refine (HC.out _).mono ?_; rintro e w1 ⟨rfl, rfl⟩)
    go_ret
    refine ⟨ret_int ?_, rfl⟩
    have := Hc.out
    rw [not_u64 c hl]
    split at this <;> omega
  · have hd : ((c : Int) / 9223372036854775808 == 1) = false := by simp; omega
    go_enter Tryd.func134, Tryd.ntmps134
    go_wp2_with (refine (HC.out _).mono ?_; rintro e w1 ⟨rfl, rfl⟩)
    go_ret
    refine ⟨ret_int ?_, rfl⟩
    have := Hc.out
    rw [or_top c (by omega)]
    split at this <;> omega
set_option maxHeartbeats 400000 in
theorem RefLess_any (a b : Nat) (w : World) (ha : a < 18446744073709551616) (hb : b < 18446744073709551616) : Calls Tryd.prog 131 #[.float .f64 a, .float .f64 b] w fun e w' => e = .returned (.bool (lessB a b)) ∧ w = w' := by
  go_enter Tryd.func131, Tryd.ntmps131
  go_wp2_with (refine (rank_any _ _ (by assumption)).mono ?_; rintro e w1 ⟨rfl, rfl⟩)
  go_ret
  refine ⟨ret_bool ?_, rfl⟩
  rfl
theorem fb_add (x y : Nat) : floatBits .add .f64 x y = Ieee.double.add x y := rfl
theorem fb_quo (x y : Nat) : floatBits .quo .f64 x y = Ieee.double.div x y := rfl
set_option maxHeartbeats 400000 in
theorem Same_any (a b : Nat) (w : World) (ha : a < 18446744073709551616) (hb : b < 18446744073709551616) : Calls Tryd.prog 81 #[.float .f64 a, .float .f64 b] w fun e w' => e = .returned (.bool (sameB a b)) ∧ w = w' := by
  have hs := same_canon ha hb
  have h1 := call_bits (canon a)
  have h2 := call_bits (canon b)
  obtain ⟨c, hc⟩ : ∃ c, canon a = c := ⟨_, rfl⟩
  obtain ⟨d, hd⟩ : ∃ d, canon b = d := ⟨_, rfl⟩
  have HC : Hid (∀ w, Calls Tryd.prog 60 #[.float .f64 a] w fun e w' => e = .returned (.float .f64 c) ∧ w = w') := by rw [← hc]; exact fun w => Canon_any a w
  have HD : Hid (∀ w, Calls Tryd.prog 60 #[.float .f64 b] w fun e w' => e = .returned (.float .f64 d) ∧ w = w') := by rw [← hd]; exact fun w => Canon_any b w
  rw [hc] at h1 hs
  rw [hd] at h2 hs
  rw [hs]
  clear hs hc hd
  go_enter Tryd.func81, Tryd.ntmps81
  go_wp2_with (first | ((with_reducible refine (HC.out _).mono ?_); rintro e w1 ⟨rfl, rfl⟩) | ((with_reducible refine (HD.out _).mono ?_); rintro e w1 ⟨rfl, rfl⟩))
  go_ret
  refine ⟨ret_bool ?_, rfl⟩
  rw [Bool.eq_iff_iff]
  simp
  try omega
/-- A sum, of any NaN the NaN. -/
def addV (a b : Nat) : Nat := match Ieee.double.add a b with
  | none => 9221120237041090561
  | some r => r
theorem addV_lt (a b : Nat) : addV a b < 18446744073709551616 := by
  unfold addV
  cases h : Ieee.double.add a b with
  | none => simp
  | some r => exact (add_ok h).2
theorem addV_comm (a b : Nat) : addV a b = addV b a := by unfold addV; rw [add_comm]
theorem canon_num {x : Nat} (h : isNan x = false) : canon x = x := by unfold canon; rw [h]; rfl
theorem canon_nan {x : Nat} (h : isNan x = true) : canon x = 9221120237041090561 := by unfold canon; rw [h]; rfl
set_option maxHeartbeats 400000 in
theorem RefAdd_any (a b : Nat) (w : World) : Calls Tryd.prog 116 #[.float .f64 a, .float .f64 b] w (Qt w (.float .f64 (addV a b))) := by
  unfold addV
  cases h : Ieee.double.add a b with
  | none =>
    have q := fun w => run_float_nan (P := Tryd.prog) w .add 35 a b (by simp) h
    have HC : Hid (∀ w w', Calls Tryd.prog 70 #[.float .f64 (nanOf w' a b)] w fun e w' => e = .returned (.float .f64 9221120237041090561) ∧ w = w') := fun w w' => by
      have := RefCanon_any (nanOf w' a b) w
      rw [canon_nan (nanOf_nan w' a b).1] at this
      exact this
    clear h
    go_enter Tryd.func116, Tryd.ntmps116
    go_wp2_with (refine (HC.out _ _).mono ?_; rintro e w1 ⟨rfl, rfl⟩)
    go_ret
    exact ⟨rfl, 1, rfl⟩
  | some r =>
    have q := fun w => run_float_arith (P := Tryd.prog) w .add 35 .f64 a b r h
    have HC : Hid (∀ w, Calls Tryd.prog 70 #[.float .f64 r] w fun e w' => e = .returned (.float .f64 r) ∧ w = w') := fun w => by
      have := RefCanon_any r w
      rw [canon_num (add_ok h).1] at this
      exact this
    clear h
    go_enter Tryd.func116, Tryd.ntmps116
    go_wp2_with (refine (HC.out _).mono ?_; rintro e w1 ⟨rfl, rfl⟩)
    go_ret
    exact ⟨rfl, 0, rfl⟩
/-- The one that stands behind; the NaN, if one is. -/
def maxV (a b : Nat) : Nat := if isNan a = true ∨ isNan b = true then 9221120237041090561 else if lessB a b = true then b else a
theorem maxV_lt {a b : Nat} (ha : a < 18446744073709551616) (hb : b < 18446744073709551616) : maxV a b < 18446744073709551616 := by
  unfold maxV
  split
  · omega
  · split <;> assumption
set_option maxHeartbeats 400000 in
theorem RefMax_any (a b : Nat) (w : World) (ha : a < 18446744073709551616) (hb : b < 18446744073709551616) : Calls Tryd.prog 117 #[.float .f64 a, .float .f64 b] w fun e w' => e = .returned (.float .f64 (maxV a b)) ∧ w = w' := by
  have HL : Hid (∀ w, Calls Tryd.prog 131 #[.float .f64 a, .float .f64 b] w fun e w' => e = .returned (.bool (lessB a b)) ∧ w = w') := fun w => RefLess_any a b w ha hb
  have h1 := cmp_ne_self a
  have h2 := cmp_ne_self b
  unfold maxV
  cases na : isNan a
  case' false => cases nb : isNan b
  case' false.false => cases hl : lessB a b
  all_goals
    try rw [hl] at HL
    rw [na] at h1
    try rw [nb] at h2
    simp only [Bool.false_eq_true, or_self, or_true, true_or, if_true, if_false]
    go_enter Tryd.func117, Tryd.ntmps117
    go_wp2_with (first | (go_at_call 44; refine (RefNaN_any _).mono ?_; rintro e w1 ⟨rfl, rfl⟩) | (go_at_call 131; refine (HL.out _).mono ?_; rintro e w1 ⟨rfl, rfl⟩))
    go_ret
    exact ⟨rfl, rfl⟩
end Go.Proofs.YtkckncggiicciaaDoor
/-
  The walk of num.Mean: sums of any floats, of any NaN the NaN.
-/
namespace Go.Proofs.YtkckncggiicciaaDoor
open Go.RowKit
/-- All, added up from the left, of any NaN the NaN. -/
def sumC (l : List Nat) : Nat := l.foldl addV 0
theorem sumC_snoc (l : List Nat) (x : Nat) : sumC (l ++ [x]) = addV (sumC l) x := by simp [sumC]
theorem canon_canon (x : Nat) : canon (canon x) = canon x := by
  unfold canon
  cases h : isNan x
  · simp [h]
  · simp [nan_nan]
theorem addV_num {a b r : Nat} (h : Ieee.double.add a b = some r) : addV a b = r := by unfold addV; rw [h]
theorem addV_none {a b : Nat} (h : Ieee.double.add a b = none) : addV a b = 9221120237041090561 := by unfold addV; rw [h]
theorem isNan_canon (x : Nat) : isNan (canon x) = isNan x := by
  unfold canon
  cases h : isNan x
  · simpa using h
  · simp [nan_nan]
theorem addV_canon (s x : Nat) : addV (canon s) x = addV s x := by
  cases h : isNan s
  · rw [canon_num h]
  · rw [canon_nan h, addV_none (add_nan (.inl (isNan_true nan_nan))), addV_none (add_nan (.inl (isNan_true h)))]
theorem canon_addV (a b : Nat) : canon (addV a b) = addV a b := by
  cases h : Ieee.double.add a b with
  | none => rw [addV_none h]; decide
  | some r => rw [addV_num h, canon_num (add_ok h).1]
/-- One step of a sum. -/
theorem add_step (s c x : Nat) (hs : canon s = c) : ∃ (r : World → Nat) (k : Nat), (∀ w, (binOp .add 35 (.float .f64 s) (.float .f64 x)).run Tryd.prog w = .ok (.float .f64 (r w)) (w.drewN k)) ∧ ∀ w, canon (r w) = addV c x ∧ r w < 18446744073709551616 := by
  subst hs
  rw [addV_canon]
  cases h : Ieee.double.add s x with
  | none =>
    refine ⟨fun w => nanOf w s x, 1, fun w => run_float_nan (P := Tryd.prog) w .add 35 s x (by simp) h, fun w => ⟨?_, (nanOf_nan w s x).2⟩⟩
    rw [canon_nan (nanOf_nan w s x).1, addV_none h]
  | some r =>
    refine ⟨fun _ => r, 0, fun w => run_float_arith (P := Tryd.prog) w .add 35 .f64 s x r h, fun w => ⟨?_, (add_ok h).2⟩⟩
    rw [canon_num (add_ok h).1, addV_num h]
/-- A quotient, of any NaN the NaN. -/
def divV (a b : Nat) : Nat := match Ieee.double.div a b with
  | none => 9221120237041090561
  | some r => r
/-- The float of a length. -/
theorem fi_len {n : Nat} (h0 : 0 < n) (h : n ≤ 9223372036854775807) : rg (fi n) < 9218868437227405312 ∧ 0 < rg (fi n) := by
  have h1 := fi_bd (n := n) (by omega)
  have h2 := fi_pos (n := n) (by omega)
  rw [(rg_small (x := fi n) (by omega)).1]
  omega
theorem div_step (s c n : Nat) (hs : canon s = c) (h0 : 0 < n) (h : n ≤ 9223372036854775807) : ∃ (r : World → Nat) (k : Nat), (∀ w, (binOp .quo 35 (.float .f64 s) (.float .f64 (fi n))).run Tryd.prog w = .ok (.float .f64 (r w)) (w.drewN k)) ∧ ∀ w, canon (r w) = divV c (fi n) ∧ r w < 18446744073709551616 := by
  obtain ⟨f1, f2⟩ := fi_len h0 h
  subst hs
  cases hn : isNan s
  · rw [canon_num hn]
    obtain ⟨r, h1, h2, h3⟩ := div_ok (y := fi n) hn f1 f2
    refine ⟨fun _ => r, 0, fun w => run_float_arith (P := Tryd.prog) w .quo 35 .f64 s (fi n) r h1, fun w => ⟨?_, h3⟩⟩
    rw [canon_num h2]
    unfold divV
    rw [h1]
  · have hd := div_nan (y := fi n) (.inl (isNan_true hn))
    refine ⟨fun w => nanOf w s (fi n), 1, fun w => run_float_nan (P := Tryd.prog) w .quo 35 s (fi n) (by simp) hd, fun w => ⟨?_, (nanOf_nan w s (fi n)).2⟩⟩
    rw [canon_nan (nanOf_nan w s (fi n)).1, canon_nan hn]
    unfold divV
    rw [div_nan (.inl (isNan_true nan_nan))]
/-- The mean. -/
def meanV (l : List Nat) : Nat := if l.length = 0 then 9221120237041090561 else divV (sumC l) (fi l.length)
theorem floats_at {w : World} {B n cap : Nat} {A : Option Addr} {l : List Nat} (h : Rd w B 1 A n cap (l.map (Value.float .f64))) {k : Nat} (hk : k < n) :
    ∃ b off x, A = some ⟨b, off, none⟩ ∧ b < B ∧ w.cell? ⟨b, off + k, none⟩ = some (.float .f64 x) ∧ Hid (l[k]? = some x ∧ l.take (k + 1) = l.take k ++ [x]) := by
  obtain ⟨h1, h2, h3, h4⟩ := h
  rw [List.length_map, Nat.mul_one] at h1
  obtain ⟨b, off, e, hb, hc⟩ := h4 (by omega)
  have hl : l[k]? = some (l[k]'(by omega)) := by simp
  exact ⟨b, off, l[k]'(by omega), e, hb, hc k _ (by rw [List.getElem?_map, hl]; rfl), hl, List.take_succ_eq_append_getElem (by omega)⟩
set_option maxHeartbeats 3200000 in
theorem Mean_any (A : Option Addr) (n cap B : Nat) (l : List Nat) (w : World) (hy : Rd w B 1 A n cap (l.map (Value.float .f64))) :
    Calls Tryd.prog 29 #[.slice A n cap] w (Qt w (.float .f64 (meanV l))) := by
  have hlen : l.length = n := by simpa using hy.1
  have hmax : n ≤ 9223372036854775807 := by
    have := hy.2.1
    have := hy.2.2.1
    unfold maxLen at this
    omega
  unfold meanV
  by_cases h0 : n = 0
  · rw [if_pos (by omega)]
    subst h0
    clear hlen
    go_enter Tryd.func29, Tryd.ntmps29
    go_wp2_with (refine (numnan_any _).mono ?_; rintro e w1 ⟨rfl, rfl⟩)
    go_ret
    exact ⟨rfl, 0, rfl⟩
  · rw [if_neg (by omega), hlen]
    have h0' : 0 < n := by omega
    have hz : ((n : Int) == 0) = false := by simp; omega
    clear h0
    have Hlen := Lib.hid hlen
    clear hlen
    go_enter Tryd.func29, Tryd.ntmps29
    go_wp2_with fail
    go_loopg [3, 12] n (fun g s3 s12 wr => ∃ (i s : Nat), i + g = n ∧ s12 = .int .i64 i ∧ s3 = .float .f64 s ∧ canon s = sumC (l.take i) ∧ ∃ d, wr = w.drewN d)
    case atStart => exact ⟨0, 0, by omega, rfl, rfl, (show canon 0 = 0 by decide), 0, rfl⟩
    case round =>
      obtain ⟨i, s, hig, rfl, rfl, hs, d, rfl⟩ := hrel
      have hin : i ≤ n := by omega
      have Hig := Lib.hid hig
      have Hs := Lib.hid hs
      clear hig hs
      by_cases hlt : i < n
      · obtain ⟨b, off, x, rfl, hb, hc, Hst⟩ := floats_at hy hlt
        obtain ⟨r, k, hr, hr2⟩ := add_step s _ x Hs.out
        have Hr2 := Lib.hid hr2
        clear hr2
        go_wp2_with fail
        go_roundg (gk - 1)
        case rel =>
          refine ⟨i + 1, _, by have := Hig.out; omega, by go_num, rfl, ?_, d + k, rfl⟩
          rw [Hst.out.2, sumC_snoc]
          exact (Hr2.out _).1
        case measure => have := Hig.out; omega
      · obtain rfl : i = n := by omega
        have Hs2 : Hid (canon s = sumC l) := by
          have := Hs.out
          rwa [List.take_of_length_le (by rw [Hlen.out]; exact Nat.le_refl _)] at this
        obtain ⟨r, k, hr, hr2⟩ := div_step s _ i Hs2.out h0' hmax
        have hfi := fi_eq i
        have HC : Hid (∀ w w', Calls Tryd.prog 60 #[.float .f64 (r w')] w fun e w' => e = .returned (.float .f64 (divV (sumC l) (fi i))) ∧ w = w') := fun w w' => by
          have := Canon_any (r w') w
          rw [(hr2 w').1] at this
          exact this
        clear hr2
        go_wp2_with (refine (HC.out _ _).mono ?_; rintro e w1 ⟨rfl, rfl⟩)
        go_ret
        exact ⟨rfl, d + k, rfl⟩
set_option maxHeartbeats 3200000 in
theorem RefMean_any (A : Option Addr) (n cap B : Nat) (l : List Nat) (w : World) (hy : Rd w B 1 A n cap (l.map (Value.float .f64))) :
    Calls Tryd.prog 45 #[.slice A n cap] w (Qt w (.float .f64 (meanV l))) := by
  have hlen : l.length = n := by simpa using hy.1
  have hmax : n ≤ 9223372036854775807 := by
    have := hy.2.1
    have := hy.2.2.1
    unfold maxLen at this
    omega
  unfold meanV
  by_cases h0 : n = 0
  · rw [if_pos (by omega)]
    subst h0
    clear hlen
    go_enter Tryd.func45, Tryd.ntmps45
    go_wp2_with (refine (RefNaN_any _).mono ?_; rintro e w1 ⟨rfl, rfl⟩)
    go_ret
    exact ⟨rfl, 0, rfl⟩
  · rw [if_neg (by omega), hlen]
    have h0' : 0 < n := by omega
    have hz : ((n : Int) == 0) = false := by simp; omega
    clear h0
    have Hlen := Lib.hid hlen
    clear hlen
    go_enter Tryd.func45, Tryd.ntmps45
    go_wp2_with fail
    go_loopg [3, 4] n (fun g s3 s12 wr => ∃ (i s : Nat), i + g = n ∧ s12 = .int .i64 i ∧ s3 = .float .f64 s ∧ canon s = sumC (l.take i) ∧ ∃ d, wr = w.drewN d)
    case atStart => exact ⟨0, 0, by omega, rfl, rfl, (show canon 0 = 0 by decide), 0, rfl⟩
    case round =>
      obtain ⟨i, s, hig, rfl, rfl, hs, d, rfl⟩ := hrel
      have hin : i ≤ n := by omega
      have Hig := Lib.hid hig
      have Hs := Lib.hid hs
      clear hig hs
      by_cases hlt : i < n
      · obtain ⟨b, off, x, rfl, hb, hc, Hst⟩ := floats_at hy hlt
        obtain ⟨r, k, hr, hr2⟩ := add_step s _ x Hs.out
        have Hr2 := Lib.hid hr2
        clear hr2
        go_wp2_with fail
        go_roundg (gk - 1)
        case rel =>
          refine ⟨i + 1, _, by have := Hig.out; omega, by go_num, rfl, ?_, d + k, rfl⟩
          rw [Hst.out.2, sumC_snoc]
          exact (Hr2.out _).1
        case measure => have := Hig.out; omega
      · obtain rfl : i = n := by omega
        have Hs2 : Hid (canon s = sumC l) := by
          have := Hs.out
          rwa [List.take_of_length_le (by rw [Hlen.out]; exact Nat.le_refl _)] at this
        obtain ⟨r, k, hr, hr2⟩ := div_step s _ i Hs2.out h0' hmax
        have hfi := fi_eq i
        have HC : Hid (∀ w w', Calls Tryd.prog 70 #[.float .f64 (r w')] w fun e w' => e = .returned (.float .f64 (divV (sumC l) (fi i))) ∧ w = w') := fun w w' => by
          have := RefCanon_any (r w') w
          rw [(hr2 w').1] at this
          exact this
        clear hr2
        go_wp2_with (refine (HC.out _ _).mono ?_; rintro e w1 ⟨rfl, rfl⟩)
        go_ret
        exact ⟨rfl, d + k, rfl⟩
end Go.Proofs.YtkckncggiicciaaDoor
/-
  Floats of whole numbers below 2^53 are these numbers; their sums too; their mean is no more than what bounds them.
-/
namespace Go.Proofs.YtkckncggiicciaaDoor
theorem mg_made (M E : Nat) (h1 : 4503599627370496 ≤ M) (h2 : M < 9007199254740992) : mg (M - 4503599627370496 + 4503599627370496 * (E + 1)) = M * 2 ^ E := by
  unfold mg
  have e1 : (M - 4503599627370496 + 4503599627370496 * (E + 1)) / 4503599627370496 = E + 1 := by omega
  have e2 : (M - 4503599627370496 + 4503599627370496 * (E + 1)) % 4503599627370496 = M - 4503599627370496 := by omega
  rw [if_neg (by omega), e1, e2, Nat.add_sub_cancel, show 4503599627370496 + (M - 4503599627370496) = M by omega]
theorem made_bd {M E : Nat} (h2 : M < 9007199254740992) (hE : E ≤ 1074) : M - 4503599627370496 + 4503599627370496 * (E + 1) ≤ 9218868437227405312 := by omega
theorem exact_mg {m : Nat} (h0 : 0 < m) (h : m < 9007199254740992) : ∃ r, r ≤ 9218868437227405312 ∧ mg r = m * U1 := by
  have hl : m.log2 < 53 := (Nat.log2_lt (by omega)).2 h
  obtain ⟨k, hk⟩ : ∃ k, m.log2 + k = 52 := ⟨52 - m.log2, by omega⟩
  have hlo : 2 ^ m.log2 ≤ m := Nat.log2_self_le (by omega)
  have hhi : m < 2 ^ (m.log2 + 1) := Nat.lt_log2_self
  have hM1 : 4503599627370496 ≤ m * 2 ^ k := by
    have : 2 ^ m.log2 * 2 ^ k ≤ m * 2 ^ k := Nat.mul_le_mul_right _ hlo
    rw [← Nat.pow_add, hk] at this
    exact this
  have hM2 : m * 2 ^ k < 9007199254740992 := by
    have : m * 2 ^ k < 2 ^ (m.log2 + 1) * 2 ^ k := Nat.mul_lt_mul_of_pos_right hhi (Nat.two_pow_pos _)
    rw [← Nat.pow_add, show m.log2 + 1 + k = 53 by omega] at this
    exact this
  have hK := K1_eq
  obtain ⟨E, hE⟩ : ∃ E, E + k = K1 := ⟨K1 - k, by omega⟩
  have hE2 : E ≤ 1074 := by omega
  refine ⟨m * 2 ^ k - 4503599627370496 + 4503599627370496 * (E + 1), ?_, ?_⟩
  · exact made_bd hM2 hE2
  · rw [mg_made _ _ hM1 hM2, Nat.mul_assoc, ← Nat.pow_add, Nat.add_comm k E, hE]
    rfl
theorem mg_fi {m : Nat} (h : m < 9007199254740992) : mg (fi m) = m * U1 := by
  by_cases h0 : m = 0
  · subst h0
    rw [fi_zero, Nat.zero_mul]
    rfl
  · obtain ⟨r, h1, h2⟩ := exact_mg (by omega) h
    have : fi m = r := by
      unfold fi
      rw [← h2]
      exact rq_mg1 h1
    rw [this, h2]
theorem fi_le {m : Nat} (h : m < 9007199254740992) : fi m ≤ 4890909195324358656 := fi_bd (by omega)
theorem add_exact {x y : Nat} (hx : x < 9218868437227405312) (hy : y < 9218868437227405312) : Ieee.double.add x y = some (rq (mg x + mg y) 1) := by
  obtain ⟨rx, sx⟩ := rg_small (Nat.le_of_lt hx)
  obtain ⟨ry, sy⟩ := rg_small (Nat.le_of_lt hy)
  rw [add_fin (by omega) (by omega)]
  have ex : sv x = (mg x : Int) := by unfold sv; rw [sx, rx]; rfl
  have ey : sv y = (mg y : Int) := by unfold sv; rw [sy, ry]; rfl
  have e : (sv x + sv y).natAbs = mg x + mg y := by rw [ex, ey]; omega
  have hs : (if sv x + sv y = 0 then sg x && sg y else decide (sv x + sv y < 0)) = false := by
    rw [sx]
    split
    · rfl
    · simp; omega
  rw [hs, e, wd_false]
theorem addV_fi {a b : Nat} (h : a + b < 9007199254740992) : addV (fi a) (fi b) = fi (a + b) := by
  have h1 := fi_le (m := a) (by omega)
  have h2 := fi_le (m := b) (by omega)
  rw [addV_num (add_exact (by omega) (by omega)), mg_fi (by omega), mg_fi (by omega), ← Nat.add_mul]
  rfl
def sumN (l : List Nat) : Nat := l.foldl (· + ·) 0
theorem sumN_snoc (l : List Nat) (x : Nat) : sumN (l ++ [x]) = sumN l + x := by simp [sumN]
theorem sumC_fi (r : List Nat) (h : sumN r.reverse < 9007199254740992) : sumC (r.reverse.map fi) = fi (sumN r.reverse) := by
  induction r with
  | nil => exact fi_zero.symm
  | cons x r ih =>
    rw [List.reverse_cons, sumN_snoc] at h ⊢
    rw [List.map_append, List.map_cons, List.map_nil, sumC_snoc, ih (by omega), addV_fi h]
theorem sumN_le {t : Nat} (r : List Nat) (h : ∀ x ∈ r, x ≤ t) : sumN r.reverse ≤ r.length * t := by
  induction r with
  | nil => exact Nat.zero_le _
  | cons x r ih =>
    have h1 := ih fun y hy => h y (by simp [hy])
    have h2 := h x (by simp)
    rw [List.reverse_cons, sumN_snoc, List.length_cons, Nat.add_mul]
    omega
theorem quot_le {s n t u : Nat} (hu : 0 < u) (h0 : 0 < n) (h : s ≤ n * t) : rq (s * u * u) (n * u) ≤ rq (t * u) 1 := by
  refine rq_mono (Nat.mul_pos h0 hu) (by omega) ?_
  have e1 : s * u * u * 1 = s * (u * u) := by rw [Nat.mul_one, Nat.mul_assoc]
  have e2 : t * u * (n * u) = n * t * (u * u) := by
    rw [Nat.mul_assoc t, Nat.mul_comm n u, ← Nat.mul_assoc u u n, Nat.mul_comm (u * u) n, ← Nat.mul_assoc t n, Nat.mul_comm t n]
  rw [e1, e2]
  exact Nat.mul_le_mul_right _ h
theorem dv_gen {x y A B : Nat} (hx : mg x = A) (hy : mg y = B) (h2 : y < 9218868437227405312) : dv x y = rq (A * U1) B := by
  unfold dv
  rw [if_neg (by omega), hx, hy]
theorem divV_gen {x y s n t u : Nat} (hx : mg x = s * u) (hy : mg y = n * u) (h1 : x < 9218868437227405312) (h2 : y < 9218868437227405312) (h3 : 0 < y) (hu : 0 < u) (h0 : 0 < n) (h : s ≤ n * t) (he : U1 = u) :
    divV x y ≤ rq (t * u) 1 := by
  have hd : divV x y = dv x y := by
    unfold divV
    rw [div_right h1 (Nat.le_of_lt h2) h3]
  rw [hd, dv_gen hx hy h2, he]
  exact quot_le hu h0 h
theorem divV_fi {s n t : Nat} (hs : s < 9007199254740992) (hn : n < 9007199254740992) (h0 : 0 < n) (h : s ≤ n * t) : divV (fi s) (fi n) ≤ fi t := by
  have h1 := fi_le (m := s) hs
  have h2 := fi_le (m := n) hn
  have h3 := fi_pos (n := n) (by omega)
  have hm1 := mg_fi hs
  have hm2 := mg_fi hn
  have hu := U1_pos
  have hfe : fi t = rq (t * U1) 1 := rfl
  rw [hfe]
  clear hfe
  exact divV_gen hm1 hm2 (by omega) (by omega) (by omega) hu h0 h rfl
/-- The mean of whole numbers that t bounds: from nought to t. -/
theorem mean_fi {l : List Nat} {t : Nat} (hn : 0 < l.length) (hn2 : l.length ≤ 1000) (ht : t ≤ 1099511627776) (h : ∀ x ∈ l, x ≤ t) : meanV (l.map fi) ≤ fi t := by
  have h1 := sumN_le (t := t) l.reverse (by simpa using h)
  rw [List.reverse_reverse, List.length_reverse] at h1
  have h2 : sumN l < 9007199254740992 := by
    have : l.length * t ≤ 1000 * 1099511627776 := Nat.mul_le_mul hn2 ht
    omega
  have h3 := sumC_fi l.reverse (by rw [List.reverse_reverse]; exact h2)
  rw [List.reverse_reverse] at h3
  unfold meanV
  rw [if_neg (by rw [List.length_map]; omega), List.length_map, h3]
  exact divV_fi h2 (by omega) hn h1
theorem small_right {x : Nat} (h : x ≤ 4890909195324358656) : isNan x = false ∧ rk x = (x : Int) := by
  obtain ⟨h1, h2⟩ := rg_small (x := x) (by omega)
  refine ⟨?_, ?_⟩
  · unfold isNan
    rw [h1]
    simp
    omega
  · unfold rk
    rw [h2, h1]
    rfl
end Go.Proofs.YtkckncggiicciaaDoor
/-
  Rows of structs that are read; rows of strings and of floats of the call's own.
-/
namespace Go.Proofs.YtkckncggiicciaaDoor
open Go.RowKit
set_option maxRecDepth 100000
/-- Rows of the same width, one behind the other: the k-th. -/
theorem flat_at {α : Type} (L : Nat) : ∀ (xss : List (List α)), (∀ x ∈ xss, x.length = L) → ∀ (k j : Nat) (x : List α) (u : α), xss[k]? = some x → x[j]? = some u → xss.flatten[k * L + j]? = some u
  | [], _, k, j, x, u, h, _ => by simp at h
  | y :: r, hl, 0, j, x, u, h, hj => by
    simp at h
    subst h
    have hy := hl y (by simp)
    have hjl := (List.getElem?_eq_some_iff.1 hj).1
    rw [List.flatten_cons, List.getElem?_append_left (by omega), Nat.zero_mul, Nat.zero_add]
    exact hj
  | y :: r, hl, k + 1, j, x, u, h, hj => by
    have hy := hl y (by simp)
    have ih := flat_at L r (fun z hz => hl z (by simp [hz])) k j x u (by simpa using h) hj
    rw [List.flatten_cons, List.getElem?_append_right (by rw [hy, Nat.add_mul]; omega), hy, show (k + 1) * L + j - L = k * L + j by rw [Nat.add_mul]; omega]
    exact ih
/-- The k-th struct of a row of structs that is read. -/
theorem rd_row {w : World} {B L n cap : Nat} {A : Option Addr} {xss : List (List Value)} (h : Rd w B L A n cap xss.flatten) (hl : ∀ x ∈ xss, x.length = L) (hn : xss.length = n) {k : Nat} (hk : k < n) :
    ∃ b off x, A = some ⟨b, off, none⟩ ∧ b < B ∧ xss[k]? = some x ∧ x.length = L ∧ w.rangeAt b (off + k * L) x := by
  obtain ⟨_, _, _, h4⟩ := h
  obtain ⟨b, off, e, hb, hc⟩ := h4 (by omega)
  have hk' : k < xss.length := by omega
  refine ⟨b, off, xss[k], e, hb, List.getElem?_eq_getElem hk', hl _ (List.getElem_mem hk'), fun j u hu => ?_⟩
  rw [Nat.add_assoc]
  exact hc _ u (flat_at L xss hl k j _ u (List.getElem?_eq_getElem hk') hu)
theorem range_below {w w' : World} {C b o : Nat} {cs : List Value} (h : w.rangeAt b o cs) (hb : Below C w w') (hlt : b < C) : w'.rangeAt b o cs := fun j v hj => (hb.cell (p := ⟨b, o + j, none⟩) hlt).trans (h j v hj)
/-! ### A replica -/
theorem size40 : (Tryd.prog.info? 33).map (·.size) = some 40 := by kernel_rfl
/-- A replica's cells: its number, and how far its log is done. -/
structure RfOk (x : List Value) (id commit : Int) : Prop where
  len : x.length = 40
  one : ∀ v ∈ x, v.oneCell' = true
  id : x[0]? = some (.int .i64 id)
  commit : x[11]? = some (.int .i64 commit)
theorem all_one {x : List Value} (h : ∀ v ∈ x, v.oneCell' = true) : x.toArray.all (·.oneCell') = true := Go.all_oneCell_toArray h
/-- A block that holds a struct's cells. -/
theorem cell_list {w : World} {g : Nat} {x : List Value} {t : TypeId} (h : w.heap[g]? = some (.cells x.toArray t (0, 0))) (j : Nat) (u : Value) (hj : x[j]? = some u) : w.cell? ⟨g, j, none⟩ = some u := by
  rw [cell_of_row _ _ _ _ _ _ h]
  simpa using hj
/-! ### Rows of strings, of floats, of the call's own -/
theorem info_str : (Tryd.prog.info? 9).map (fun i => (i.zero, i.size, i.bytes)) = some (some (.string ⟨#[]⟩), 1, 16) := by kernel_rfl
theorem info_f64 : (Tryd.prog.info? 35).map (fun i => (i.zero, i.size, i.bytes)) = some (some (.float .f64 0), 1, 8) := by kernel_rfl
def OwnS (w : World) (base : Nat) (v : Value) (l : List (List UInt8)) : Prop := w.ownsRow base 9 1 v l.length (l.map sV)
def fV (x : Nat) : Value := .float .f64 x
def OwnF (w : World) (base : Nat) (v : Value) (l : List Nat) : Prop := w.ownsRow base 35 1 v l.length (l.map fV)
theorem ownS_rd {w : World} {base : Nat} {v : Value} {l : List (List UInt8)} (h : OwnS w base v l) {n : Nat} (hn : l.length = n) : ∃ A cap, v = .slice A n cap ∧ Rd w w.heap.size 1 A n cap (l.map sV) := by
  subst hn
  exact Rd.of_own h
theorem ownF_rd {w : World} {base : Nat} {v : Value} {l : List Nat} (h : OwnF w base v l) {n : Nat} (hn : l.length = n) : ∃ A cap, v = .slice A n cap ∧ Rd w w.heap.size 1 A n cap (l.map fV) := by
  subst hn
  exact Rd.of_own h
theorem ownS_nil (w : World) (base : Nat) : OwnS w base (.slice none 0 0) [] := ⟨rfl, .inl ⟨rfl, rfl⟩⟩
theorem ownF_nil (w : World) (base : Nat) : OwnF w base (.slice none 0 0) [] := ⟨rfl, .inl ⟨rfl, rfl⟩⟩
theorem own_ne {w : World} {v : Value} {e e' : TypeId} {s s' n n' base base' : Nat} {u : Value} {xs xs' : List Value} (h : w.ownsRow base e s u n xs) (h' : w.ownsRow base' e' s' v n' xs') (hne : e ≠ e') : u.ownBlock = none ∨ u.ownBlock ≠ v.ownBlock := by
  rcases h.2 with ⟨rfl, _⟩ | ⟨g, cap, cur, rfl, _, hg, _⟩
  · exact .inl rfl
  · rcases h'.2 with ⟨rfl, _⟩ | ⟨g', cap', cur', rfl, _, hg', _⟩
    · exact .inr (by simp [Value.ownBlock])
    · refine .inr fun eq => ?_
      simp [Value.ownBlock] at eq
      subst eq
      rw [hg] at hg'
      injection hg' with hg'
      injection hg' with _ ht
      exact hne ht
/-- One more string. -/
theorem wpList_appS {w : World} {ops : Array Oper} {rest : List Oper} {o : Oper} {a : Act} {Q : Exit → Act → World → Prop} (hgd : o.guard = none) (s x : Operand)
    (ho : o.op = .call { callee := .builtin .append, args := #[s, x], argTypes := #[34, 34] })
    (base : Nat) (v : Value) (l : List (List UInt8)) (hs : a.eval s = v) (hown : OwnS w base v l)
    (B g : Nat) (l' : List UInt8) (hx : a.eval x = .slice (some ⟨g, 0, none⟩) 1 1) (hr : Rd w B 1 (some ⟨g, 0, none⟩) 1 1 [sV l'])
    (hlim : l.length ≤ 100000) (hbase : base ≤ w.heap.size)
    (h : ∀ v' w', OwnS w' base v' (l ++ [l']) → w.grownBy w' v.ownBlock → (v'.ownBlock = v.ownBlock ∨ v'.ownBlock = some w.heap.size) → wpList Tryd.prog ops Q rest (a.put o.dst v') w') : wpList Tryd.prog ops Q (o :: rest) a w := by
  obtain ⟨i0, hi, hz0, hz1, hz2⟩ := info_parts info_str
  refine wpList_plain hgd fun _ hK => wp_appAt s x _ ho base 9 i0 _ 1 16 Tryd.underlying34 hi hz0 hz1 hz2 rfl (by omega) v l.length (l.map sV) hs hown B _ 1 1 [sV l'] hx hr (one_one rfl) (by simp only [maxLen]; omega) (by omega) hbase ?_
  intro v' w' h1 h2 _ h4
  refine hK _ _ (h v' w' ?_ h2 h4)
  unfold OwnS
  rw [List.length_append, List.map_append]
  exact h1
/-- One more float. -/
theorem wpList_appF {w : World} {ops : Array Oper} {rest : List Oper} {o : Oper} {a : Act} {Q : Exit → Act → World → Prop} (hgd : o.guard = none) (s x : Operand)
    (ho : o.op = .call { callee := .builtin .append, args := #[s, x], argTypes := #[76, 76] })
    (base : Nat) (v : Value) (l : List Nat) (hs : a.eval s = v) (hown : OwnF w base v l)
    (B g : Nat) (y : Nat) (hx : a.eval x = .slice (some ⟨g, 0, none⟩) 1 1) (hr : Rd w B 1 (some ⟨g, 0, none⟩) 1 1 [fV y])
    (hlim : l.length ≤ 100000) (hbase : base ≤ w.heap.size)
    (h : ∀ v' w', OwnF w' base v' (l ++ [y]) → w.grownBy w' v.ownBlock → (v'.ownBlock = v.ownBlock ∨ v'.ownBlock = some w.heap.size) → wpList Tryd.prog ops Q rest (a.put o.dst v') w') : wpList Tryd.prog ops Q (o :: rest) a w := by
  obtain ⟨i0, hi, hz0, hz1, hz2⟩ := info_parts info_f64
  refine wpList_plain hgd fun _ hK => wp_appAt s x _ ho base 35 i0 _ 1 8 Tryd.underlying76 hi hz0 hz1 hz2 rfl (by omega) v l.length (l.map fV) hs hown B _ 1 1 [fV y] hx hr (one_one rfl) (by simp only [maxLen]; omega) (by omega) hbase ?_
  intro v' w' h1 h2 _ h4
  refine hK _ _ (h v' w' ?_ h2 h4)
  unfold OwnF
  rw [List.length_append, List.map_append]
  exact h1
end Go.Proofs.YtkckncggiicciaaDoor
/-
  The walk of report.Lags.
-/
namespace Go.Proofs.YtkckncggiicciaaDoor
open Go.RowKit
set_option maxRecDepth 100000
def okC (cs : List Int) : Bool := cs.all fun c => decide (-1099511627776 ≤ c) && decide (c ≤ 1099511627776)
def topL (c0 : Int) (cs : List Int) : Int := cs.foldl max c0
theorem topL_snoc (c0 : Int) (cs : List Int) (c : Int) : topL c0 (cs ++ [c]) = max (topL c0 cs) c := by simp [topL]
/-- A lag's line. -/
def lineL (id lag : Int) : List UInt8 := wordsL [[108, 97, 103], Lib.itoa id, Lib.itoa lag]
def linesL (ids : List Int) (ks : List Nat) : List (List UInt8) := List.zipWith (fun id (k : Nat) => lineL id (k : Int)) ids ks
theorem lineL_len (id lag : Int) (h1 : In64 id) (h2 : In64 lag) : (lineL id lag).length ≤ 1000 := by
  have q1 := Lib.itoa_length_le id h1.1 h1.2
  have q2 := Lib.itoa_length_le lag h2.1 h2.2
  unfold lineL wordsL
  rw [Lib.join_cons]
  simp [Lib.joinTail]
  omega
theorem rd_three (w : World) (u v x : Value) (e : TypeId) : Rd (w.alloc (.cells #[u, v, x] e)) (w.heap.size + 1) 1 (some ⟨w.heap.size, 0, none⟩) 3 3 [u, v, x] := by
  refine ⟨rfl, Nat.le_refl _, by decide, fun _ => ⟨w.heap.size, 0, rfl, by omega, fun j y hy => ?_⟩⟩
  rw [Nat.zero_add, cell_of_row _ _ _ _ _ _ (heap_alloc_new w _)]
  simpa using hy
theorem words3 (a b c : List UInt8) (w : World) (hl : (wordsL [a, b, c]).length ≤ 1000) :
    Calls Tryd.prog 30 #[.slice (some ⟨w.heap.size, 0, none⟩) 3 3] (w.alloc (.cells #[sV a, sV b, sV c] 9)) fun e w' => e = .returned (sV (wordsL [a, b, c])) ∧ Below w.heap.size w w' := by
  have hr := rd_three w (sV a) (sV b) (sV c) 9
  have := words_any _ 3 3 [a, b, c] (w.alloc (.cells #[sV a, sV b, sV c] 9)) (by omega) (by
    have e : (w.alloc (.cells #[sV a, sV b, sV c] 9)).heap.size = w.heap.size + 1 := by simp
    rw [e]
    exact hr) (by omega) (by omega)
  exact this.mono fun _ _ ⟨h1, h2⟩ => ⟨h1, (((Below.refl _ _).alloc (Nat.le_refl _) _).trans (h2.mono (by simp)))⟩
/-- The local that a struct is copied into. -/
theorem wpList_store_local {P : Program} {w : World} {ops : Array Oper} {rest : List Oper} {o : Oper} {a : Act} {Q : Exit → Act → World → Prop} {z : Array Value} {t : TypeId} (hgd : o.guard = none) (ty : TypeId) (p y : Operand) (ho : o.op = .store ty p y)
    (x : List Value) (hx : a.eval p = .pointer (some ⟨w.heap.size, 0, none⟩)) (hy : a.eval y = .agg x.toArray) (hi : (P.info? ty).map (·.size) = some x.length) (hz : z.size = x.length) (h1 : ∀ v ∈ x, v.oneCell' = true)
    (h : ∀ w5, w5.heap[w.heap.size]? = some (.cells x.toArray t (0, 0)) → Below w.heap.size w w5 → w5.heap.size = w.heap.size + 1 → wpList P ops Q rest (a.put o.dst undef) w5) :
    wpList P ops Q (o :: rest) a (w.alloc (.cells z t (0, 0))) :=
  wpList_store_row hgd ty p y ho w.heap.size x.toArray hx hy t z (heap_alloc_new w _) (by rw [List.size_toArray]; exact hi) (by rw [List.size_toArray]; exact hz) (all_one h1)
    (h _ (setRow_heap _ _ _ _ _ _ (heap_alloc_new w _)) (below_setRow ((Below.refl _ _).alloc (Nat.le_refl _) _) (Nat.le_refl _) _) (by simp))
theorem okC_snoc (cs : List Int) (c : Int) (h : okC cs = true) (h1 : -1099511627776 ≤ c ∧ c ≤ 1099511627776) : okC (cs ++ [c]) = true := by
  unfold okC at *
  rw [List.all_append, h]
  simp
  exact h1
theorem okC_no {cs : List Int} {c : Int} (hm : c ∈ cs) (h : ¬ (-1099511627776 ≤ c ∧ c ≤ 1099511627776)) : okC cs = false := by
  unfold okC
  rw [List.all_eq_false]
  exact ⟨c, hm, by simpa using h⟩
theorem okC_at {cs : List Int} {c : Int} (h : okC cs = true) (hm : c ∈ cs) : -1099511627776 ≤ c ∧ c ≤ 1099511627776 := by
  unfold okC at h
  have := List.all_eq_true.1 h c hm
  simpa using this
theorem topL_mem (c0 : Int) (cs : List Int) : topL c0 cs = c0 ∨ topL c0 cs ∈ cs := by
  rw [← List.reverse_reverse cs]
  induction cs.reverse with
  | nil => exact .inl rfl
  | cons c r ih =>
    rw [List.reverse_cons, topL_snoc]
    rcases Int.le_total (topL c0 r.reverse) c with h | h
    · exact .inr (by rw [Int.max_eq_right h]; simp)
    · rw [Int.max_eq_left h]
      rcases ih with ih | ih
      · exact .inl ih
      · exact .inr (by simp at ih ⊢; exact .inl ih)
theorem linesL_snoc (ids : List Int) (ks : List Nat) (id : Int) (k : Nat) (h : ids.length = ks.length) : linesL (ids ++ [id]) (ks ++ [k]) = linesL ids ks ++ [lineL id (k : Int)] := by
  unfold linesL
  rw [List.zipWith_append h]
  rfl
theorem linesL_len (ids : List Int) (ks : List Nat) (h : ids.length = ks.length) : (linesL ids ks).length = ks.length := by
  unfold linesL
  rw [List.length_zipWith, h]
  omega
def LagsPost (ids cs : List Int) (ks : List Nat) (w : World) (e : Ending) (w' : World) : Prop :=
  (if okC cs = true then ∃ v, e = .returned (.tuple #[v, .float .f64 (meanV (ks.map fi))]) ∧ OwnS w' w.heap.size v (linesL ids ks)
    else e = .returned (.tuple #[.slice none 0 0, .float .f64 (meanV [])])) ∧ Below w.heap.size w w'
theorem meanNil_any (w : World) : Calls Tryd.prog 29 #[.slice none 0 0] w (Qt w (.float .f64 (meanV []))) := Mean_any none 0 0 0 [] w (Rd.nil _ _ _)
set_option maxHeartbeats 6400000 in
theorem RLags_any (A : Option Addr) (n cap : Nat) (xss : List (List Value)) (ids cs : List Int) (ks : List Nat) (w : World) (hy : Rd w w.heap.size 40 A n cap xss.flatten) (hx : xss.length = n) (hi : ids.length = n) (hc : cs.length = n) (hk : ks.length = n)
    (hok : ∀ (i : Nat) x, xss[i]? = some x → ∃ id c, ids[i]? = some id ∧ cs[i]? = some c ∧ RfOk x id c) (hid : ∀ id ∈ ids, In64 id) (hc64 : ∀ c ∈ cs, In64 c)
    (hks : okC cs = true → ∀ (i : Nat) c, cs[i]? = some c → ∃ k : Nat, ks[i]? = some k ∧ (k : Int) = topL (cs.headD 0) cs - c) (hn : n ≤ 1000) (hI : ItAt w) :
    Calls Tryd.prog 7 #[.slice A n cap] w (LagsPost ids cs ks w) := by
  rcases Nat.eq_zero_or_pos n with h0 | hpos
  · subst h0
    obtain rfl : cs = [] := List.eq_nil_of_length_eq_zero hc
    obtain rfl : ids = [] := List.eq_nil_of_length_eq_zero hi
    obtain rfl : ks = [] := List.eq_nil_of_length_eq_zero hk
    have HP : Hid (∀ k, LagsPost [] [] [] w (.returned (.tuple #[.slice none 0 0, .float .f64 (meanV [])])) (w.drewN k)) := fun k => by
      unfold LagsPost
      rw [if_pos (show okC [] = true from rfl)]
      exact ⟨⟨_, rfl, ownS_nil _ _⟩, below_drewN (Below.refl _ _) _⟩
    have HM : Hid (∀ w, Calls Tryd.prog 29 #[.slice none 0 0] w (Qt w (.float .f64 (meanV [])))) := fun w => meanNil_any w
    unfold Qt at HM
    obtain ⟨M, hM⟩ : ∃ M, meanV [] = M := ⟨_, rfl⟩
    rw [hM] at HM HP
    clear hy hx hi hc hk hok hid hks hI hc64 hn hM
    go_enter Tryd.func7, Tryd.ntmps7
    go_wp2_with (refine (HM.out _).mono ?_; rintro e w1 ⟨rfl, k, rfl⟩)
    go_ret2
    exact HP.out _
  obtain ⟨c0, hc0⟩ : ∃ c0, cs.headD 0 = c0 := ⟨_, rfl⟩
  have hcs0 : cs[0]? = some c0 := by
    cases cs with
    | nil => simp at hc; omega
    | cons a r => simp at hc0 ⊢; exact hc0
  rw [hc0] at hks
  have Hc0 := Lib.hid (List.mem_of_getElem? hcs0)
  have hl40 : ∀ x ∈ xss, x.length = 40 := fun x hx' => by
    obtain ⟨i, hi', rfl⟩ := List.mem_iff_getElem.1 hx'
    obtain ⟨id, c, _, _, h⟩ := hok i _ (List.getElem?_eq_getElem hi')
    exact h.len
  -- the k-th replica, in a world that came of this
  have HE : Hid (∀ i, i < n → ∃ b off x id c, A = some ⟨b, off, none⟩ ∧ b < w.heap.size ∧ RfOk x id c ∧ In64 id ∧ In64 c ∧ ids[i]? = some id ∧ cs[i]? = some c ∧ w.rangeAt b (off + i * 40) x) := fun i hin => by
    obtain ⟨b, off, x, h1, h2, h3, h4, h5⟩ := rd_row hy hl40 hx hin
    obtain ⟨id, c, q1, q2, q3⟩ := hok i x h3
    exact ⟨b, off, x, id, c, h1, h2, q3, hid id (List.mem_of_getElem? q1), hc64 c (List.mem_of_getElem? q2), q1, q2, h5⟩
  have HNo : Hid (okC cs = false → ∀ w', Below w.heap.size w w' → LagsPost ids cs ks w (.returned (.tuple #[.slice none 0 0, .float .f64 (meanV [])])) w') := fun h w' hb => by
    unfold LagsPost
    rw [if_neg (by rw [h]; decide)]
    exact ⟨rfl, hb⟩
  have HYes : Hid (okC cs = true → ∀ w' v, OwnS w' w.heap.size v (linesL ids ks) → Below w.heap.size w w' → LagsPost ids cs ks w (.returned (.tuple #[v, .float .f64 (meanV (ks.map fi))])) w') := fun h w' v ho hb => by
    unfold LagsPost
    rw [if_pos h]
    exact ⟨⟨v, rfl, ho⟩, hb⟩
  obtain ⟨J, hJ⟩ : ∃ J, LagsPost ids cs ks w = J := ⟨_, rfl⟩
  rw [hJ] at HNo HYes ⊢
  have HM : Hid (∀ w, Calls Tryd.prog 29 #[.slice none 0 0] w (Qt w (.float .f64 (meanV [])))) := fun w => meanNil_any w
  unfold Qt at HM
  obtain ⟨M, hM⟩ : ∃ M, meanV [] = M := ⟨_, rfl⟩
  rw [hM] at HM HNo
  have HI := Lib.hid hI
  have Hks := Lib.hid hks
  have Hlk := Lib.hid hk
  have Hli := Lib.hid hi
  have Hlc := Lib.hid hc
  have hz : ((n : Int) == 0) = false := by simp; omega
  obtain ⟨b, off, x, id, c, rfl, hb, hrf, _, h64, _, hce, hrg⟩ := HE.out 0 hpos
  obtain rfl : c = c0 := by rw [hcs0] at hce; injection hce with hce; exact hce.symm
  have HN : Hid (∀ v w', In64 v → Below w.heap.size w w' → Calls Tryd.prog 31 #[.int .i64 v] w' fun e w'' => e = .returned (.string ⟨(Lib.itoa v).toArray⟩) ∧ Below w'.heap.size w' w'') := fun v w' hv hb => rn_any v w' hv (HI.out.below hb)
  have hcap : n ≤ cap := hy.2.1
  have hc11 : w.cell? ⟨b, off + 11, none⟩ = some (.int .i64 c) := by
    have := hrg 11 _ hrf.commit
    rwa [Nat.zero_mul, Nat.add_zero] at this
  clear hJ hM hI hks hk hi hc hrg hrf hce hok hid hx hy hl40 hcs0 hc0 hc64 h64
  go_enter Tryd.func7, Tryd.ntmps7
  go_wp2_with fail
  go_loopg [6, 8, 22] n (fun g s6 s8 s22 wr => ∃ i : Nat, i + g = n ∧ s22 = .int .i64 i ∧ s6 = .int .i64 (topL c (cs.take i)) ∧ okC (cs.take i) = true ∧ Below w.heap.size w wr)
  case atStart => exact ⟨0, by omega, rfl, rfl, rfl, Below.refl _ _⟩
  case round =>
    obtain ⟨i, hig, rfl, rfl, hokc, hbr⟩ := hrel
    have Hig := Lib.hid hig
    have Hokc := Lib.hid hokc
    have hin : i ≤ n := by omega
    clear hig hokc
    by_cases hlt : i < n
    · obtain ⟨b', off', x, id, ci, he, hb', hrf, h64i, h64, hide, hce, hrg⟩ := HE.out i hlt
      injection he with he
      injection he with e1 e2 _
      subst e1 e2
      have hrg' := range_below hrg hbr hb
      have hsz : (Tryd.prog.info? 33).map (·.size) = some x.length := by rw [hrf.len]; exact size40
      have Htk : Hid (cs.take (i + 1) = cs.take i ++ [ci]) := by
        unfold Hid
        rw [List.take_add_one, hce]
        rfl
      obtain ⟨tp, htp⟩ : ∃ tp, topL c (cs.take i) = tp := ⟨_, rfl⟩
      have Htp : Hid (topL c (cs.take (i + 1)) = max tp ci) := by
        unfold Hid
        rw [Htk.out, topL_snoc, htp]
      rw [htp]
      have Hrf := Lib.hid hrf
      have Hrg := Lib.hid hrg'
      have Hsz := Lib.hid hsz
      have hx11 : x[11]? = some (.int .i64 ci) := hrf.commit
      have Hmem : Hid (ci ∈ cs) := List.mem_of_getElem? hce
      clear htp hrg hrg' hsz hide hce hrf
      rcases Decidable.em (-1099511627776 ≤ ci ∧ ci ≤ 1099511627776) with hci | hci
      · have Hok2 : Hid (okC (cs.take (i + 1)) = true) := by
          unfold Hid
          rw [Htk.out]
          exact okC_snoc _ _ Hokc.out hci
        obtain ⟨hlo, hhi⟩ := hci
        go_wp2_with (first
          | (refine Go.wpList_load_mid rfl 33 (.tmp 24) rfl b (off + i * 40) rfl x _ Hrg.out Tryd.underlying33 rfl Hsz.out ?_)
          | (refine wpList_store_local rfl 33 (.tmp 8) _ rfl x rfl rfl Hsz.out Hrf.out.len.symm Hrf.out.one ?_
             intro w5 q5 hb5 hz5
             have h11 : w5.cell? ⟨wr.heap.size, 11, none⟩ = some (.int .i64 ci) := cell_list q5 _ _ hx11
             clear q5))
        have hbn := hbr.trans (hb5.mono hbr.size)
        clear h11 hb5 hz5
        go_roundg (gk - 1)
        case rel => exact ⟨i + 1, by have := Hig.out; omega, by go_num, by rw [Htp.out], Hok2.out, hbn⟩
        case measure => have := Hig.out; omega
      · have hno : Hid (okC cs = false) := okC_no Hmem.out hci
        rcases Decidable.em (ci < -1099511627776) with hlo | hlo
        case' inr => have hhi : 1099511627776 < ci := by omega
        all_goals
          clear hci
          go_wp2_with (first
            | (refine Go.wpList_load_mid rfl 33 (.tmp 24) rfl b (off + i * 40) rfl x _ Hrg.out Tryd.underlying33 rfl Hsz.out ?_)
            | (refine wpList_store_local rfl 33 (.tmp 8) _ rfl x rfl rfl Hsz.out Hrf.out.len.symm Hrf.out.one ?_
               intro w5 q5 hb5 hz5
               have h11 : w5.cell? ⟨wr.heap.size, 11, none⟩ = some (.int .i64 ci) := cell_list q5 _ _ hx11
               clear q5)
            | (go_at_call 29; refine (HM.out _).mono ?_; rintro e w6 ⟨rfl, k6, rfl⟩))
          exact HNo.out hno.out _ (below_drewN (hbr.trans (hb5.mono hbr.size)) _)
    · obtain rfl : i = n := by omega
      have hokA : okC cs = true := by
        have := Hokc.out
        rwa [List.take_of_length_le (by rw [Hlc.out]; exact Nat.le_refl _)] at this
      have hall : cs.take i = cs := List.take_of_length_le (by rw [Hlc.out]; exact Nat.le_refl _)
      rw [hall]
      have Hks2 := Lib.hid (Hks.out hokA)
      have HY2 := Lib.hid (HYes.out hokA)
      have Hat : Hid (∀ ci ∈ cs, -1099511627776 ≤ ci ∧ ci ≤ 1099511627776) := fun ci hm => okC_at hokA hm
      have Htb : Hid (topL c cs ∈ cs) := by
        rcases topL_mem c cs with h | h
        · unfold Hid
          rw [h]
          exact Hc0.out
        · exact h
      obtain ⟨T, hT⟩ : ∃ T, topL c cs = T := ⟨_, rfl⟩
      rw [hT] at Hks2 Htb ⊢
      have htb := Hat.out T Htb.out
      obtain ⟨htb1, htb2⟩ := htb
      clear hokA hall Hokc Hks HYes HNo hT Hig hin hlt
      go_wp2_with fail
      go_loopg [4, 5, 10, 11, 42] i (fun g s4 s5 _ _ s42 wr => ∃ j : Nat, j + g = i ∧ s42 = .int .i64 j ∧ OwnS wr w.heap.size s4 (linesL (ids.take j) (ks.take j)) ∧ OwnF wr w.heap.size s5 ((ks.take j).map fi) ∧ Below w.heap.size w wr)
      case atStart => exact ⟨0, by omega, rfl, ownS_nil _ _, ownF_nil _ _, hbr⟩
      case round =>
        clear hbr
        obtain ⟨j, hjg, rfl, ho4, ho5, hbr⟩ := hrel
        have Hjg := Lib.hid hjg
        have hjn : j ≤ i := by omega
        have Ho4 := Lib.hid ho4
        have Ho5 := Lib.hid ho5
        clear hjg ho4 ho5
        by_cases hlt : j < i
        · obtain ⟨b', off', x, id, ci, he, hb', hrf, h64i, h64, hide, hce, hrg⟩ := HE.out j hlt
          injection he with he
          injection he with e1 e2 _
          subst e1 e2
          obtain ⟨k, hke, hkv⟩ := Hks2.out j ci hce
          have hci := Hat.out ci (List.mem_of_getElem? hce)
          obtain ⟨hci1, hci2⟩ := hci
          have hrg' := range_below hrg hbr hb
          have hsz : (Tryd.prog.info? 33).map (·.size) = some x.length := by rw [hrf.len]; exact size40
          have Hti : Hid (ids.take (j + 1) = ids.take j ++ [id]) := by unfold Hid; rw [List.take_add_one, hide]; rfl
          have Htk : Hid (ks.take (j + 1) = ks.take j ++ [k]) := by unfold Hid; rw [List.take_add_one, hke]; rfl
          have Hlen : Hid ((ids.take j).length = (ks.take j).length ∧ (ks.take j).length = j) := by
            have := Hli.out
            have := Hlk.out
            unfold Hid
            rw [List.length_take, List.length_take]
            omega
          have h64k : In64 (k : Int) := by unfold In64; omega
          have Hll := Lib.hid (lineL_len id (k : Int) h64i h64k)
          have Hrf := Lib.hid hrf
          have Hrg := Lib.hid hrg'
          have Hsz := Lib.hid hsz
          have hx11 : x[11]? = some (.int .i64 ci) := hrf.commit
          have hx0 : x[0]? = some (.int .i64 id) := hrf.id
          have hsub : T - ci = (k : Int) := hkv.symm
          have hfi := fi_eq k
          have hkb : (k : Int) ≤ 2199023255552 := by omega
          have hk0 : (0 : Int) ≤ (k : Int) := by omega
          have HN1 : Hid (∀ w', Below w.heap.size w w' → Calls Tryd.prog 31 #[.int .i64 id] w' fun e w'' => e = .returned (.string ⟨(Lib.itoa id).toArray⟩) ∧ Below w'.heap.size w' w'') := fun w' h => HN.out id w' h64i h
          have HN2 : Hid (∀ w', Below w.heap.size w w' → Calls Tryd.prog 31 #[.int .i64 (k : Int)] w' fun e w'' => e = .returned (.string ⟨(Lib.itoa (k : Int)).toArray⟩) ∧ Below w'.heap.size w' w'') := fun w' h => HN.out k w' h64k h
          have HW : Hid (∀ w6 : World, Calls Tryd.prog 30 #[.slice (some ⟨w6.heap.size, 0, none⟩) 3 3] (w6.alloc (.cells #[.string ⟨#[108, 97, 103]⟩, .string ⟨(Lib.itoa id).toArray⟩, .string ⟨(Lib.itoa (k : Int)).toArray⟩] 9)) fun e w' => e = .returned (.string ⟨(lineL id (k : Int)).toArray⟩) ∧ Below w6.heap.size w6 w') := fun w6 => words3 [108, 97, 103] (Lib.itoa id) (Lib.itoa (k : Int)) w6 Hll.out
          have HRd : Hid (∀ w7 : World, Rd (w7.alloc (.cells #[.string ⟨(lineL id (k : Int)).toArray⟩] 9)) (w7.heap.size + 1) 1 (some ⟨w7.heap.size, 0, none⟩) 1 1 [sV (lineL id (k : Int))]) := fun w7 => rd_one w7 _ _
          obtain ⟨B1, hB1⟩ : ∃ B1, (⟨(Lib.itoa id).toArray⟩ : ByteArray) = B1 := ⟨_, rfl⟩
          obtain ⟨B2, hB2⟩ : ∃ B2, (⟨(Lib.itoa (k : Int)).toArray⟩ : ByteArray) = B2 := ⟨_, rfl⟩
          obtain ⟨LB, hLB⟩ : ∃ LB, (⟨(lineL id (k : Int)).toArray⟩ : ByteArray) = LB := ⟨_, rfl⟩
          rw [hB1] at HN1 HW
          rw [hB2] at HN2 HW
          rw [hLB] at HW HRd
          clear hrg hrg' hsz hide hce hrf hke hkv hB1 hB2 hLB h64k h64i h64 hci1 hci2
          go_wp2_with (first
            | (refine Go.wpList_load_mid rfl 33 (.tmp 44) rfl b (off + j * 40) rfl x _ Hrg.out Tryd.underlying33 rfl Hsz.out ?_)
            | (refine wpList_store_local rfl 33 (.tmp 10) _ rfl x rfl rfl Hsz.out Hrf.out.len.symm Hrf.out.one ?_
               intro w5 q5 hb5 hz5
               have h11 : w5.cell? ⟨wr.heap.size, 11, none⟩ = some (.int .i64 ci) := cell_list q5 _ _ hx11
               have h0 : w5.cell? ⟨wr.heap.size, 0, none⟩ = some (.int .i64 id) := cell_list q5 _ _ hx0
               clear q5))
          have hbn := hbr.trans (hb5.mono hbr.size)
          refine (HN1.out _ hbn).mono ?_
          rintro e w6 ⟨rfl, hb6⟩
          have hbn6 := hbn.trans (hb6.mono hbn.size)
          clear h11 h0
          go_wp2_with fail
          refine (HN2.out _ hbn6).mono ?_
          rintro e w7 ⟨rfl, hb7⟩
          have hbn7 := hbn6.trans (hb7.mono hbn6.size)
          go_wp2_with fail
          refine (HW.out _).mono ?_
          rintro e w8 ⟨rfl, hb8⟩
          have hbn8 := hbn7.trans (hb8.mono hbn7.size)
          have hbr8 : Below wr.heap.size wr w8 := ((hb5.trans (hb6.mono hb5.size)).trans (hb7.mono (hb5.trans (hb6.mono hb5.size)).size)).trans (hb8.mono (by have := hb5.size; have := hb6.size; have := hb7.size; omega))
          have Ho48 : Hid (OwnS w8 w.heap.size u4 (linesL (ids.take j) (ks.take j))) := own_below Ho4.out hbr8
          have Ho58 : Hid (OwnF w8 w.heap.size u5 ((ks.take j).map fi)) := own_below Ho5.out hbr8
          have Hbn8 := Lib.hid hbn8
          clear hb5 hb6 hb7 hb8 hbn hbn6 hbn7 hbn8 hbr8 Ho4 Ho5 hz5
          have HFd : Hid (∀ w7 : World, Rd (w7.alloc (.cells #[.float .f64 (fi k)] 35)) (w7.heap.size + 1) 1 (some ⟨w7.heap.size, 0, none⟩) 1 1 [fV (fi k)]) := fun w7 => rd_one w7 _ _
          go_wp2_with (first
            | (at_builtin
               refine wpList_appS rfl (.tmp 50) (.tmp 58) rfl w.heap.size u4 _ rfl (World.ownsRow.alloc Ho48.out _) (w8.heap.size + 1) w8.heap.size _ rfl (HRd.out w8) ?c1 ?c2 ?_
               case c1 => rw [linesL_len _ _ Hlen.out.1, Hlen.out.2]; omega
               case c2 => simp; have := Hbn8.out.size; omega
               intro v9 w9 ho9 hg9 ha9
               have ho58 : OwnF (w8.alloc (.cells #[.string LB] 9)) w.heap.size u5 ((ks.take j).map fi) := World.ownsRow.alloc Ho58.out _
               have ho48 : OwnS (w8.alloc (.cells #[.string LB] 9)) w.heap.size u4 (linesL (ids.take j) (ks.take j)) := World.ownsRow.alloc Ho48.out _
               have ho59 : OwnF w9 w.heap.size u5 ((ks.take j).map fi) := World.ownsRow.kept ho58 hg9 (own_ne ho58 ho48 (by decide))
               have hbn9 : Below w.heap.size w w9 := (Hbn8.out.alloc Hbn8.out.size _).grown hg9 (by simp; have := Hbn8.out.size; omega) (fun q hq => (World.ownsRow.lt Ho48.out q hq).1)
               have Ho59 := Lib.hid ho59
               have Hbn9 := Lib.hid hbn9
               have Ho9 := Lib.hid ho9
               clear ho58 ho48 ho59 hbn9 ho9 hg9 ha9)
            | (at_builtin
               refine wpList_appF rfl (.tmp 60) (.tmp 63) rfl w.heap.size u5 _ rfl (World.ownsRow.alloc Ho59.out _) (w9.heap.size + 1) w9.heap.size _ rfl (HFd.out w9) ?d1 ?d2 ?_
               case d1 => rw [List.length_map, Hlen.out.2]; omega
               case d2 => simp; have := Hbn9.out.size; omega
               intro v10 w10 ho10 hg10 ha10
               have ho59 : OwnF (w9.alloc (.cells #[.float .f64 (fi k)] 35)) w.heap.size u5 ((ks.take j).map fi) := World.ownsRow.alloc Ho59.out _
               have ho99 : OwnS (w9.alloc (.cells #[.float .f64 (fi k)] 35)) w.heap.size v9 _ := World.ownsRow.alloc Ho9.out _
               have ho910 := World.ownsRow.kept ho99 hg10 (own_ne ho99 ho59 (by decide))
               have hbn10 : Below w.heap.size w w10 := (Hbn9.out.alloc Hbn9.out.size _).grown hg10 (by simp; have := Hbn9.out.size; omega) (fun q hq => (World.ownsRow.lt Ho59.out q hq).1)
               have Ho910 := Lib.hid ho910
               have Hbn10 := Lib.hid hbn10
               have Ho10 := Lib.hid ho10
               clear ho59 ho99 ho910 hbn10 ho10 hg10 ha10))
          have HoS : Hid (OwnS w10 w.heap.size v9 (linesL (ids.take (j + 1)) (ks.take (j + 1)))) := by
            unfold Hid
            rw [Hti.out, Htk.out, linesL_snoc _ _ _ _ Hlen.out.1]
            exact Ho910.out
          have HoF : Hid (OwnF w10 w.heap.size v10 ((ks.take (j + 1)).map fi)) := by
            unfold Hid
            rw [Htk.out, List.map_append]
            exact Ho10.out
          go_roundg (gk - 1)
          case rel => exact ⟨j + 1, by have := Hjg.out; omega, by go_num, HoS.out, HoF.out, Hbn10.out⟩
          case measure => have := Hjg.out; omega
        · obtain rfl : j = i := by omega
          have hfk : ks.take j = ks := List.take_of_length_le (by rw [Hlk.out]; exact Nat.le_refl _)
          have hfid : ids.take j = ids := List.take_of_length_le (by rw [Hli.out]; exact Nat.le_refl _)
          have ho4 := Ho4.out
          have ho5 := Ho5.out
          rw [hfk] at ho4 ho5
          rw [hfid] at ho4
          have HF := Lib.hid (HY2.out)
          obtain ⟨A5, c5, rfl, hr5⟩ := ownF_rd ho5 (n := j) (by rw [List.length_map, Hlk.out])
          have HMn : Hid (Calls Tryd.prog 29 #[.slice A5 j c5] wr (Qt wr (.float .f64 (meanV (ks.map fi))))) := Mean_any A5 j c5 wr.heap.size (ks.map fi) wr hr5
          have Ho4' := Lib.hid ho4
          unfold Qt at HMn
          clear ho4 ho5 hr5 hfk hfid Ho4 Ho5
          go_wp2_with fail
          refine HMn.out.mono ?_
          rintro e w2 ⟨rfl, kd, rfl⟩
          go_wp2_with fail
          exact HF.out _ _ Ho4'.out (below_drewN hbr _)
end Go.Proofs.YtkckncggiicciaaDoor
/-
  The walks of report.Replica, and of what it calls.
-/
namespace Go.Proofs.YtkckncggiicciaaDoor
open Go.RowKit
set_option maxRecDepth 100000
/-- A replica's cells. -/
structure RfAt (x : List Value) (id term base bt commit role lead : Int) (L : Value) : Prop where
  len : x.length = 40
  one : ∀ v ∈ x, v.oneCell' = true
  id : x[0]? = some (.int .i64 id)
  term : x[1]? = some (.int .i64 term)
  base : x[3]? = some (.int .i64 base)
  bt : x[4]? = some (.int .i64 bt)
  log : x[10]? = some L
  commit : x[11]? = some (.int .i64 commit)
  role : x[12]? = some (.int .i64 role)
  lead : x[13]? = some (.int .i64 lead)
theorem alloc_below (w : World) (o : Obj) : Below w.heap.size w (w.alloc o) := (Below.refl _ _).alloc (Nat.le_refl _) _
def logB (base : Int) : Bool := decide (0 ≤ base) && decide (base ≤ 1099511627776)
set_option maxHeartbeats 1000000 in
theorem has_any (x : List Value) (base : Int) (w : World) (hb : x[3]? = some (.int .i64 base)) :
    Calls Tryd.prog 35 #[.agg x.toArray] w fun e w' => e = .returned (.bool (logB base)) ∧ Below w.heap.size w w' := by
  have h1 := alloc_below w (.cells x.toArray 33)
  unfold logB
  rcases Decidable.em (0 ≤ base) with h | h
  · rcases Decidable.em (base ≤ 1099511627776) with h' | h'
    all_goals
      go_enter Tryd.func35, Tryd.ntmps35
      go_wp2_with fail
      go_ret
      exact ⟨ret_bool (by simp <;> omega), h1⟩
  · go_enter Tryd.func35, Tryd.ntmps35
    go_wp2_with fail
    go_ret
    exact ⟨ret_bool (by simp <;> omega), h1⟩
set_option maxHeartbeats 1000000 in
theorem logged_any (x : List Value) (base : Int) (w : World) (hb : x[3]? = some (.int .i64 base)) :
    Calls Tryd.prog 38 #[.agg x.toArray] w fun e w' => e = .returned (.bool (logB base)) ∧ Below w.heap.size w w' := by
  have h1 := alloc_below w (.cells x.toArray 33)
  unfold logB
  rcases Decidable.em (0 ≤ base) with h | h
  · rcases Decidable.em (base ≤ 1099511627776) with h' | h'
    all_goals
      go_enter Tryd.func38, Tryd.ntmps38
      go_wp2_with fail
      go_ret
      exact ⟨ret_bool (by simp <;> omega), h1⟩
  · go_enter Tryd.func38, Tryd.ntmps38
    go_wp2_with fail
    go_ret
    exact ⟨ret_bool (by simp <;> omega), h1⟩
/-- A log that is empty, or whose last entry's term is there. -/
def LogAt (w : World) (A : Option Addr) (m c : Nat) : Prop := m ≤ c ∧ m ≤ 1000000 ∧ (0 < m → ∃ b off t, A = some ⟨b, off, none⟩ ∧ b < w.heap.size ∧ w.cell? ⟨b, off + (m - 1) * 16, none⟩ = some (.int .i64 t))
def LastPost (n : Int) (w : World) (e : Ending) (w' : World) : Prop := (∃ t : Int, e = .returned (.tuple #[.int .i64 n, .int .i64 t])) ∧ Below w.heap.size w w'
set_option maxHeartbeats 1600000 in
theorem Last_any (x : List Value) (base bt : Int) (A : Option Addr) (m c : Nat) (w : World) (h2 : x[2]? = some (.int .i64 base)) (h3 : x[3]? = some (.int .i64 bt)) (h9 : x[9]? = some (.slice A m c)) (hl : LogAt w A m c) (hb0 : 0 ≤ base) (hb1 : base ≤ 1099511627776) :
    Calls Tryd.prog 36 #[.agg x.toArray] w (LastPost (base + m) w) := by
  have hab := alloc_below w (.cells x.toArray 29)
  obtain ⟨hmc, hmz, hcell⟩ := hl
  rcases Nat.eq_zero_or_pos m with rfl | hp
  · have HP : Hid (∀ k t, LastPost (base + (0 : Nat)) w (.returned (.tuple #[.int .i64 base, .int .i64 t])) ((w.alloc (.cells x.toArray 29)).drewN k)) := fun k t => ⟨⟨t, by simp⟩, below_drewN hab k⟩
    obtain ⟨J, hJ⟩ : ∃ J, LastPost (base + (0 : Nat)) w = J := ⟨_, rfl⟩
    rw [hJ] at HP ⊢
    clear hJ hcell hmc hmz hab
    go_enter Tryd.func36, Tryd.ntmps36
    go_wp2_with fail
    go_quiet (fail)
    go_wp2_with fail
    exact HP.out _ _
  · obtain ⟨b, off, t, rfl, hlt, hc⟩ := hcell hp
    obtain ⟨p, rfl⟩ : ∃ p, m = p + 1 := ⟨m - 1, by omega⟩
    rw [Nat.add_sub_cancel] at hc
    have HP : Hid (∀ k t, LastPost (base + ((p + 1 : Nat) : Int)) w (.returned (.tuple #[.int .i64 (base + ((p : Int) + 1)), .int .i64 t])) ((w.alloc (.cells x.toArray 29)).drewN k)) := fun k t => ⟨⟨t, by simp⟩, below_drewN hab k⟩
    obtain ⟨J, hJ⟩ : ∃ J, LastPost (base + ((p + 1 : Nat) : Int)) w = J := ⟨_, rfl⟩
    rw [hJ] at HP ⊢
    have hz : (((p + 1 : Nat) : Int) == 0) = false := by simp; omega
    have hz2 : ((p : Int) + 1 == 0) = false := by simp; omega
    have i1 : (0 : Int) ≤ (p : Int) := by omega
    have i2 : (p : Int) < (p : Int) + 1 := by omega
    clear hJ hcell hab
    go_enter Tryd.func36, Tryd.ntmps36
    go_wp2_with fail
    go_quiet (fail)
    go_wp2_with fail
    exact HP.out _ _
set_option maxHeartbeats 1600000 in
theorem RefLast_any (x : List Value) (base bt : Int) (A : Option Addr) (m c : Nat) (w : World) (h2 : x[2]? = some (.int .i64 base)) (h3 : x[3]? = some (.int .i64 bt)) (h9 : x[9]? = some (.slice A m c)) (hl : LogAt w A m c) (hb0 : 0 ≤ base) (hb1 : base ≤ 1099511627776) :
    Calls Tryd.prog 39 #[.agg x.toArray] w (LastPost (base + m) w) := by
  have hab := alloc_below w (.cells x.toArray 29)
  obtain ⟨hmc, hmz, hcell⟩ := hl
  rcases Nat.eq_zero_or_pos m with rfl | hp
  · have HP : Hid (∀ k t, LastPost (base + (0 : Nat)) w (.returned (.tuple #[.int .i64 base, .int .i64 t])) ((w.alloc (.cells x.toArray 29)).drewN k)) := fun k t => ⟨⟨t, by simp⟩, below_drewN hab k⟩
    obtain ⟨J, hJ⟩ : ∃ J, LastPost (base + (0 : Nat)) w = J := ⟨_, rfl⟩
    rw [hJ] at HP ⊢
    clear hJ hcell hmc hmz hab
    go_enter Tryd.func39, Tryd.ntmps39
    go_wp2_with fail
    go_quiet (fail)
    go_wp2_with fail
    exact HP.out _ _
  · obtain ⟨b, off, t, rfl, hlt, hc⟩ := hcell hp
    obtain ⟨p, rfl⟩ : ∃ p, m = p + 1 := ⟨m - 1, by omega⟩
    rw [Nat.add_sub_cancel] at hc
    have HP : Hid (∀ k t, LastPost (base + ((p + 1 : Nat) : Int)) w (.returned (.tuple #[.int .i64 (base + ((p : Int) + 1)), .int .i64 t])) ((w.alloc (.cells x.toArray 29)).drewN k)) := fun k t => ⟨⟨t, by simp⟩, below_drewN hab k⟩
    obtain ⟨J, hJ⟩ : ∃ J, LastPost (base + ((p + 1 : Nat) : Int)) w = J := ⟨_, rfl⟩
    rw [hJ] at HP ⊢
    have hz : (((p + 1 : Nat) : Int) == 0) = false := by simp; omega
    have hz2 : ((p : Int) + 1 == 0) = false := by simp; omega
    have i1 : (0 : Int) ≤ (p : Int) := by omega
    have i2 : (p : Int) < (p : Int) + 1 := by omega
    clear hJ hcell hab
    go_enter Tryd.func39, Tryd.ntmps39
    go_wp2_with fail
    go_quiet (fail)
    go_wp2_with fail
    exact HP.out _ _
end Go.Proofs.YtkckncggiicciaaDoor
/-
  The walk of report.Replica.
-/
namespace Go.Proofs.YtkckncggiicciaaDoor
open Go.RowKit
set_option maxRecDepth 100000
theorem rd_lits (w : World) (us : List Value) (e : TypeId) (hm : us.length ≤ 100000) : Rd (w.alloc (.cells us.toArray e)) (w.heap.size + 1) 1 (some ⟨w.heap.size, 0, none⟩) us.length us.length us := by
  refine ⟨by omega, Nat.le_refl _, by unfold maxLen; omega, fun _ => ⟨w.heap.size, 0, rfl, by omega, fun j y hy => ?_⟩⟩
  rw [Nat.zero_add, cell_of_row _ _ _ _ _ _ (heap_alloc_new w _)]
  simpa using hy
theorem words_lit (us : List (List UInt8)) (w : World) (h0 : 0 < us.length) (hz : us.length ≤ 1000) (hl : (wordsL us).length ≤ 1000000) :
    Calls Tryd.prog 30 #[.slice (some ⟨w.heap.size, 0, none⟩) us.length us.length] (w.alloc (.cells (us.map sV).toArray 9)) fun e w' => e = .returned (sV (wordsL us)) ∧ Below w.heap.size w w' := by
  have hr := rd_lits w (us.map sV) 9 (by rw [List.length_map]; omega)
  have := words_any _ us.length us.length us (w.alloc (.cells (us.map sV).toArray 9)) h0 (by
    have e : (w.alloc (.cells (us.map sV).toArray 9)).heap.size = w.heap.size + 1 := by simp
    rw [e]
    rw [List.length_map] at hr
    exact hr) hz hl
  exact this.mono fun _ _ ⟨h1, h2⟩ => ⟨h1, (((Below.refl _ _).alloc (Nat.le_refl _) _).trans (h2.mono (by simp)))⟩
theorem bstep {a w w' : World} (h : Below a.heap.size a w) (hb : Below w.heap.size w w') : Below a.heap.size a w' := h.trans (hb.mono h.size)
theorem LogAt.below {w w' : World} {A : Option Addr} {m c : Nat} (h : LogAt w A m c) (hb : Below w.heap.size w w') : LogAt w' A m c := by
  obtain ⟨h1, h2, h3⟩ := h
  refine ⟨h1, h2, fun hm => ?_⟩
  obtain ⟨b, off, t, e, hlt, hc⟩ := h3 hm
  exact ⟨b, off, t, e, Nat.lt_of_lt_of_le hlt hb.size, (hb.cell (p := ⟨b, _, none⟩) hlt).trans hc⟩
/-- What is told of the last index. -/
def lastT (base : Int) (m : Nat) : List UInt8 := if logB base = true then Lib.itoa (base + m) else [63]
/-- A replica's line. -/
def repL (id role term lead commit base : Int) (last : List UInt8) : List UInt8 :=
  wordsL [[110, 111, 100, 101], Lib.itoa id, [114, 111, 108, 101], Lib.itoa role, [116, 101, 114, 109], Lib.itoa term, [108, 101, 97, 100], Lib.itoa lead, [99, 111, 109, 109, 105, 116], Lib.itoa commit, [98, 97, 115, 101], Lib.itoa base, [108, 97, 115, 116], last]
theorem repL_len (id role term lead commit base : Int) (last : List UInt8) (h1 : In64 id) (h2 : In64 role) (h3 : In64 term) (h4 : In64 lead) (h5 : In64 commit) (h6 : In64 base) (h7 : last.length ≤ 21) : (repL id role term lead commit base last).length ≤ 1000 := by
  have q1 := Lib.itoa_length_le id h1.1 h1.2
  have q2 := Lib.itoa_length_le role h2.1 h2.2
  have q3 := Lib.itoa_length_le term h3.1 h3.2
  have q4 := Lib.itoa_length_le lead h4.1 h4.2
  have q5 := Lib.itoa_length_le commit h5.1 h5.2
  have q6 := Lib.itoa_length_le base h6.1 h6.2
  unfold repL wordsL
  rw [Lib.join_cons]
  simp [Lib.joinTail]
  omega
theorem size10 : (Tryd.prog.info? 29).map (·.size) = some 10 := by kernel_rfl
/-- The part of a replica that must not be forgotten. -/
def hardC (x : List Value) : List Value := (x.drop 1).take 10
theorem hardC_at (x : List Value) (j : Nat) (hj : j < 10) : (hardC x)[j]? = x[j + 1]? := by
  unfold hardC
  rw [List.getElem?_take, if_pos hj, List.getElem?_drop, Nat.add_comm]
set_option maxHeartbeats 3200000 in
theorem Replica_any (x : List Value) (id term base bt commit role lead : Int) (A : Option Addr) (m c : Nat) (w : World) (hr : RfAt x id term base bt commit role lead (.slice A m c)) (hl : LogAt w A m c)
    (h1 : In64 id) (h2 : In64 role) (h3 : In64 term) (h4 : In64 lead) (h5 : In64 commit) (h6 : In64 base) (hI : ItAt w) :
    Calls Tryd.prog 13 #[.agg x.toArray] w fun e w' => e = .returned (sV (repL id role term lead commit base (lastT base m))) ∧ Below w.heap.size w w' := by
  have hmz : m ≤ 1000000 := hl.2.1
  have hlast : (lastT base m).length ≤ 21 ∧ (logB base = true → In64 (base + m)) := by
    unfold lastT
    split
    · rename_i hb
      have hbb : 0 ≤ base ∧ base ≤ 1099511627776 := by
        unfold logB at hb
        simpa using hb
      have : In64 (base + m) := by unfold In64; omega
      exact ⟨Lib.itoa_length_le _ this.1 this.2, fun _ => this⟩
    · rename_i hb
      exact ⟨by decide, fun h => absurd h hb⟩
  have hlen := repL_len id role term lead commit base (lastT base m) h1 h2 h3 h4 h5 h6 hlast.1
  obtain ⟨W1, hW1⟩ : ∃ W1, w.alloc (.cells x.toArray 33) = W1 := ⟨_, rfl⟩
  have hb1 : Below w.heap.size w W1 := by rw [← hW1]; exact alloc_below w _
  have hz1 : W1.heap.size = w.heap.size + 1 := by rw [← hW1]; simp
  have hrow : W1.heap[w.heap.size]? = some (.cells x.toArray 33 (0, 0)) := by rw [← hW1]; exact heap_alloc_new w _
  have Hrow : Hid (∀ w', Below W1.heap.size W1 w' → w'.cell? ⟨w.heap.size, 0, none⟩ = some (.int .i64 id) ∧ w'.cell? ⟨w.heap.size, 12, none⟩ = some (.int .i64 role) ∧ w'.cell? ⟨w.heap.size, 1, none⟩ = some (.int .i64 term) ∧
      w'.cell? ⟨w.heap.size, 13, none⟩ = some (.int .i64 lead) ∧ w'.cell? ⟨w.heap.size, 11, none⟩ = some (.int .i64 commit) ∧ w'.cell? ⟨w.heap.size, 3, none⟩ = some (.int .i64 base)) := fun w' hb => by
    have q := (hb.block w.heap.size (by omega)).trans hrow
    exact ⟨cell_list q _ _ hr.id, cell_list q _ _ hr.role, cell_list q _ _ hr.term, cell_list q _ _ hr.lead, cell_list q _ _ hr.commit, cell_list q _ _ hr.base⟩
  have HRg : Hid (∀ w', Below W1.heap.size W1 w' → w'.rangeAt w.heap.size 1 (hardC x)) := fun w' hb j v hj => by
    have q := (hb.block w.heap.size (by omega)).trans hrow
    have hj10 : j < 10 := by
      have := (List.getElem?_eq_some_iff.1 hj).1
      unfold hardC at this
      simp at this
      omega
    rw [hardC_at x j hj10] at hj
    rw [Nat.add_comm 1 j]
    exact cell_list q _ _ hj
  have Hsz : Hid ((Tryd.prog.info? 33).map (·.size) = some x.toArray.size) := by unfold Hid; rw [List.size_toArray, hr.len]; exact size40
  have Hsz2 : Hid ((Tryd.prog.info? 29).map (·.size) = some (hardC x).length) := by
    unfold Hid
    have : (hardC x).length = 10 := by unfold hardC; rw [List.length_take, List.length_drop, hr.len]; rfl
    rw [this]
    exact size10
  have HH : Hid (∀ w', Calls Tryd.prog 35 #[.agg x.toArray] w' fun e w'' => e = .returned (.bool (logB base)) ∧ Below w'.heap.size w' w'') := fun w' => has_any x base w' hr.base
  have HN : Hid (∀ v w', In64 v → Below W1.heap.size W1 w' → Calls Tryd.prog 31 #[.int .i64 v] w' fun e w'' => e = .returned (.string ⟨(Lib.itoa v).toArray⟩) ∧ Below w'.heap.size w' w'') := fun v w' hv hb => rn_any v w' hv (hI.below (hb1.trans (hb.mono (by omega))))
  have HW : Hid (∀ w6 : World, Calls Tryd.prog 30 #[.slice (some ⟨w6.heap.size, 0, none⟩) 14 14] (w6.alloc (.cells #[.string ⟨#[110, 111, 100, 101]⟩, .string ⟨(Lib.itoa id).toArray⟩, .string ⟨#[114, 111, 108, 101]⟩, .string ⟨(Lib.itoa role).toArray⟩, .string ⟨#[116, 101, 114, 109]⟩, .string ⟨(Lib.itoa term).toArray⟩, .string ⟨#[108, 101, 97, 100]⟩, .string ⟨(Lib.itoa lead).toArray⟩, .string ⟨#[99, 111, 109, 109, 105, 116]⟩, .string ⟨(Lib.itoa commit).toArray⟩, .string ⟨#[98, 97, 115, 101]⟩, .string ⟨(Lib.itoa base).toArray⟩, .string ⟨#[108, 97, 115, 116]⟩, .string ⟨(lastT base m).toArray⟩] 9))
      fun e w' => e = .returned (.string ⟨(repL id role term lead commit base (lastT base m)).toArray⟩) ∧ Below w6.heap.size w6 w') := fun w6 => words_lit [[110, 111, 100, 101], Lib.itoa id, [114, 111, 108, 101], Lib.itoa role, [116, 101, 114, 109], Lib.itoa term, [108, 101, 97, 100], Lib.itoa lead, [99, 111, 109, 109, 105, 116], Lib.itoa commit, [98, 97, 115, 101], Lib.itoa base, [108, 97, 115, 116], lastT base m] w6 (Nat.zero_lt_succ _) (show 14 ≤ 1000 by decide) (by unfold repL at hlen; omega)
  have HL : Hid (logB base = true → ∀ w', Below W1.heap.size W1 w' → Calls Tryd.prog 36 #[.agg (hardC x).toArray] w' (LastPost (base + m) w')) := fun hb w' hbw => by
    have hbb : 0 ≤ base ∧ base ≤ 1099511627776 := by
      unfold logB at hb
      simpa using hb
    exact Last_any (hardC x) base bt A m c w' ((hardC_at x 2 (by omega)).trans hr.base) ((hardC_at x 3 (by omega)).trans hr.bt) ((hardC_at x 9 (by omega)).trans hr.log) (hl.below (hb1.trans (hbw.mono (by omega)))) hbb.1 hbb.2
  have HLT : Hid (lastT base m = if logB base = true then Lib.itoa (base + m) else [63]) := rfl
  have Hl64 := Lib.hid hlast.2
  unfold sV
  obtain ⟨LT, hLT⟩ : ∃ LT, lastT base m = LT := ⟨_, rfl⟩
  rw [hLT] at HW HLT ⊢
  obtain ⟨RS, hRS⟩ : ∃ RS, (⟨(repL id role term lead commit base LT).toArray⟩ : ByteArray) = RS := ⟨_, rfl⟩
  rw [hRS] at HW ⊢
  have HW1 := Lib.hid hW1
  have hbc : Below W1.heap.size W1 W1 := Below.refl _ _
  clear hW1 hrow hlen hlast hLT hRS hI hl hr hmz
  obtain ⟨mi, hmi⟩ : ∃ mi : Int, base + m = mi := ⟨_, rfl⟩
  rw [hmi] at HL HLT Hl64
  clear hmi
  go_enter Tryd.func13, Tryd.ntmps13
  go_wp2_with ((refine wpList_load_row rfl 33 (.tmp 1) rfl w.heap.size rfl 33 x.toArray (0, 0) _ (heap_alloc_new w _) Tryd.underlying33 rfl Hsz.out ?_; rw [HW1.out]))
  refine (HH.out _).mono ?_
  rintro e w2 ⟨rfl, hb2⟩
  have hbc2 := bstep hbc hb2
  clear hb2 hbc HH
  cases hB : logB base
  case' true =>
    have hLT : LT = Lib.itoa mi := by
      have := HLT.out
      rwa [if_pos hB] at this
    subst hLT
    have HL2 := Lib.hid (HL.out hB)
    have hm64 := Hl64.out hB
    clear hB HL Hl64 HLT
    go_wp2_with (refine Go.wpList_load_mid rfl 29 (.tmp 9) rfl w.heap.size 1 rfl (hardC x) _ (HRg.out _ hbc2) Tryd.underlying29 rfl Hsz2.out ?_)
    refine (HL2.out _ hbc2).mono ?_
    rintro e w3 ⟨⟨t, rfl⟩, hb3⟩
    have hbc3 := bstep hbc2 hb3
    clear hb3 hbc2
    go_wp2_with fail
    refine (HN.out _ _ hm64 hbc3).mono ?_
    rintro e w4 ⟨rfl, hb4⟩
    have hbc4 := bstep hbc3 hb4
    clear hb4 hbc3 hm64 HL2
    go_wp2_with fail
  case' false =>
    have hLT : LT = [63] := by
      have := HLT.out
      rwa [if_neg (by rw [hB]; decide)] at this
    subst hLT
    clear hB HL Hl64 HLT
    have hbc4 := hbc2
    clear hbc2
    go_wp2_with fail
  all_goals
    obtain ⟨y0, y1, y2, y3, y4, y5⟩ := Hrow.out _ hbc4
    go_region_held3 (fun w' => w'.cell? ⟨w.heap.size, 0, none⟩ = some (.int .i64 id) ∧ w'.cell? ⟨w.heap.size, 12, none⟩ = some (.int .i64 role) ∧ w'.cell? ⟨w.heap.size, 1, none⟩ = some (.int .i64 term) ∧
        w'.cell? ⟨w.heap.size, 13, none⟩ = some (.int .i64 lead) ∧ w'.cell? ⟨w.heap.size, 11, none⟩ = some (.int .i64 commit) ∧ w'.cell? ⟨w.heap.size, 3, none⟩ = some (.int .i64 base))
      ((first | assumption | exact Hrow.out _ (by assumption) | exact Hrow.out _ (Below.drew (by assumption)) | exact Hrow.out _ (Below.alloc (by assumption) (Below.size (by assumption)) _)))
      ((first
        | (go_at_call 31
           refine (HN.out _ _ (by assumption) (by first | assumption | exact Below.drew (by assumption))).mono ?_
           rintro e w6 ⟨rfl, hb6⟩
           have hbc6 : Below W1.heap.size W1 w6 := Below.trans (by first | assumption | exact Below.drew (by assumption)) (hb6.mono (Below.size (by first | assumption | exact Below.drew (by assumption)))))
        | (go_at_call 30
           refine (HW.out _).mono ?_
           rintro e w9 ⟨rfl, hb9⟩
           have hbc9 : Below W1.heap.size W1 w9 := Below.trans (by first | assumption | exact Below.drew (by assumption)) (hb9.mono (Below.size (by first | assumption | exact Below.drew (by assumption)))))))
    all_goals
      go_wp2_with fail
      go_ret
      exact ⟨rfl, hb1.trans (hbc9.mono (by omega))⟩
end Go.Proofs.YtkckncggiicciaaDoor
/-
  Hexadecimal digits in plain Lean.
-/
namespace Go.Proofs.YtkckncggiicciaaDoor
/-- A digit of sixteen. -/
def hexd (n : Nat) : UInt8 := UInt8.ofNat (if n < 10 then 48 + n else 87 + n)
/-- So many digits of a number, the highest first. -/
def hexL : Nat → Nat → List UInt8
  | 0, _ => []
  | k + 1, n => hexL k (n / 16) ++ [hexd (n % 16)]
theorem hexL_succ (k n : Nat) : hexL (k + 1) n = hexL k (n / 16) ++ [hexd (n % 16)] := rfl
theorem hexL_len (k n : Nat) : (hexL k n).length = k := by
  induction k generalizing n with
  | zero => rfl
  | succ k ih => rw [hexL_succ, List.length_append, ih]; rfl
theorem hexL_zero (k : Nat) : hexL k 0 = List.replicate k 48 := by
  induction k with
  | zero => rfl
  | succ k ih => rw [hexL_succ, Nat.zero_div, ih, List.replicate_succ']; rfl
theorem hexL_pad (k j n : Nat) (h : n < 16 ^ j) : hexL (k + j) n = List.replicate k 48 ++ hexL j n := by
  induction j generalizing n with
  | zero =>
    have : n = 0 := by simpa using h
    subst this
    rw [Nat.add_zero, hexL_zero]
    simp [hexL]
  | succ j ih =>
    rw [← Nat.add_assoc, hexL_succ, hexL_succ, ih (n / 16) (by rw [Nat.pow_succ] at h; omega), List.append_assoc]
theorem hexL_cons (j n : Nat) : hexL (j + 1) n = hexd (n / 16 ^ j % 16) :: hexL j n := by
  induction j generalizing n with
  | zero => simp [hexL]
  | succ j ih =>
    rw [hexL_succ, ih, hexL_succ j n, Nat.div_div_eq_div_mul, Nat.pow_succ, Nat.mul_comm (16 ^ j) 16]
    rfl
theorem hexd_toNat {n : Nat} (h : n < 16) : (hexd n).toNat = if n < 10 then 48 + n else 87 + n := by
  unfold hexd
  split
  · rw [UInt8.toNat_ofNat']; omega
  · rw [UInt8.toNat_ofNat']; omega
/-- A digit's worth; -1: it is none. -/
def digV (c : UInt8) : Int := if 48 ≤ c.toNat ∧ c.toNat ≤ 57 then (c.toNat : Int) - 48 else if 97 ≤ c.toNat ∧ c.toNat ≤ 102 then (c.toNat : Int) - 87 else -1
theorem digV_bd (c : UInt8) : -1 ≤ digV c ∧ digV c ≤ 15 := by
  unfold digV
  split
  · omega
  · split <;> omega
theorem digV_hexd {n : Nat} (h : n < 16) : digV (hexd n) = n := by
  unfold digV
  rw [hexd_toNat h]
  by_cases h1 : n < 10
  · rw [if_pos h1, if_pos (by omega)]; omega
  · rw [if_neg h1, if_neg (by omega), if_pos (by omega)]; omega
theorem hexd_digV {c : UInt8} (h : 0 ≤ digV c) : hexd (digV c).toNat = c := by
  apply UInt8.toNat_inj.1
  have hb := digV_bd c
  rw [hexd_toNat (by omega)]
  unfold digV at h ⊢
  split at h
  · rename_i h1
    rw [if_pos h1]
    split <;> omega
  · rename_i h1
    rw [if_neg h1]
    split at h
    · rename_i h2
      rw [if_pos h2]
      split <;> omega
    · omega
/-- All of these are digits. -/
def allD (l : List UInt8) : Bool := l.all fun c => decide (0 ≤ digV c)
/-- What digits are worth. -/
def valD (l : List UInt8) : Nat := l.foldl (fun a c => a * 16 + (digV c).toNat) 0
theorem valD_snoc (l : List UInt8) (c : UInt8) : valD (l ++ [c]) = valD l * 16 + (digV c).toNat := by simp [valD]
theorem allD_snoc (l : List UInt8) (c : UInt8) : allD (l ++ [c]) = (allD l && decide (0 ≤ digV c)) := by simp [allD]
theorem valD_lt (l : List UInt8) : valD l < 16 ^ l.length := by
  rw [← List.reverse_reverse l]
  induction l.reverse with
  | nil => decide
  | cons c r ih =>
    rw [List.reverse_cons, valD_snoc, List.length_append, Nat.pow_add]
    have := digV_bd c
    simp only [List.length_singleton, Nat.pow_one]
    omega
theorem hexL_allD (k n : Nat) : allD (hexL k n) = true := by
  induction k generalizing n with
  | zero => rfl
  | succ k ih =>
    rw [hexL_succ, allD_snoc, ih, digV_hexd (Nat.mod_lt _ (by omega))]
    simp
    omega
theorem valD_hexL (k n : Nat) : valD (hexL k n) = n % 16 ^ k := by
  induction k generalizing n with
  | zero => simp [hexL, valD, Nat.mod_one]
  | succ k ih =>
    rw [hexL_succ, valD_snoc, ih, digV_hexd (Nat.mod_lt _ (by omega)), Int.toNat_natCast, Nat.pow_succ, Nat.mul_comm (16 ^ k) 16, Nat.mod_mul]
    omega
theorem hexL_valR (r : List UInt8) (h : allD r.reverse = true) : hexL r.reverse.length (valD r.reverse) = r.reverse := by
  induction r with
  | nil => rfl
  | cons c r ih =>
    rw [List.reverse_cons, allD_snoc] at h
    simp only [Bool.and_eq_true, decide_eq_true_eq] at h
    have hb := digV_bd c
    rw [List.reverse_cons, valD_snoc, List.length_append, List.length_singleton, hexL_succ]
    have e1 : (valD r.reverse * 16 + (digV c).toNat) / 16 = valD r.reverse := by omega
    have e2 : (valD r.reverse * 16 + (digV c).toNat) % 16 = (digV c).toNat := by omega
    rw [e1, e2, ih h.1, hexd_digV h.2]
theorem hexL_valD {l : List UInt8} (h : allD l = true) : hexL l.length (valD l) = l := by
  have := hexL_valR l.reverse (by rwa [List.reverse_reverse])
  rwa [List.reverse_reverse] at this
/-- The digits' constant. -/
theorem hexd_at : ∀ n : Nat, n < 16 → [48, 49, 50, 51, 52, 53, 54, 55, 56, 57, 97, 98, 99, 100, 101, 102][n]? = some (hexd n).toNat := by decide
end Go.Proofs.YtkckncggiicciaaDoor
/-
  The walks of strconv.FormatUint at sixteen.
-/
namespace Go.Proofs.YtkckncggiicciaaDoor
open Go.RowKit
/-- The one cell of the library's table that is read. -/
def TzAt (W : World) : Prop := W.cell? ⟨6, 15, none⟩ = some (.int .u8 4)
theorem TzAt.below {W w : World} (h : TzAt W) (hb : Below W.heap.size W w) : TzAt w := by
  unfold TzAt at *
  have hlt := World.block_lt_of_cell? _ _ h
  exact (hb.cell (p := ⟨_, 15, none⟩) hlt).trans h
theorem TzAt.lt {W : World} (h : TzAt W) : 6 < W.heap.size := World.block_lt_of_cell? _ _ h
theorem TzAt.drewN {W : World} (h : TzAt W) (k : Nat) : TzAt (W.drewN k) := h
theorem tz_key : IntKind.u64.wrap (bits .and .u64 16 (IntKind.u64.wrap (-16)) * 285870213051353865) / 288230376151711744 = 15 := by decide +kernel
set_option maxHeartbeats 1000000 in
theorem tz64_any (W : World) (hT : TzAt W) : Calls Tryd.prog 128 #[.int .u64 16] W fun e w' => e = .returned (.int .i64 4) ∧ W = w' := by
  unfold TzAt at hT
  go_enter Tryd.func128, Tryd.ntmps128
  go_wp2_with (simp only [tz_key])
  go_ret
  exact ⟨rfl, rfl⟩
set_option maxHeartbeats 1000000 in
theorem tz_any (W : World) (hT : TzAt W) : Calls Tryd.prog 111 #[.int .u64 16] W fun e w' => e = .returned (.int .i64 4) ∧ W = w' := by
  have HT := Lib.hid hT
  clear hT
  go_enter Tryd.func111, Tryd.ntmps111
  go_wp2_with (refine (tz64_any _ HT.out).mono ?_; rintro e w1 ⟨rfl, rfl⟩)
  go_ret
  exact ⟨rfl, rfl⟩
set_option maxHeartbeats 1000000 in
theorem pow2_any (W : World) : Calls Tryd.prog 110 #[.int .i64 16] W fun e w' => e = .returned (.bool true) ∧ W = w' := by
  go_enter Tryd.func110, Tryd.ntmps110
  go_wp2_with fail
  go_ret
  exact ⟨rfl, rfl⟩
def FmtPost (n : Nat) (w : World) (e : Ending) (w' : World) : Prop :=
  ∃ j, 1 ≤ j ∧ j ≤ 16 ∧ n < 16 ^ j ∧ e = .returned (.tuple #[.slice none 0 0, .string ⟨(hexL j n).toArray⟩]) ∧ Below w.heap.size w w'
theorem digs_at {d : Nat} (hd : d < 16) (h : d < (⟨#[48, 49, 50, 51, 52, 53, 54, 55, 56, 57, 97, 98, 99, 100, 101, 102, 103, 104, 105, 106, 107, 108, 109, 110, 111, 112, 113, 114, 115, 116, 117, 118, 119, 120, 121, 122]⟩ : ByteArray).size) :
    (⟨#[48, 49, 50, 51, 52, 53, 54, 55, 56, 57, 97, 98, 99, 100, 101, 102, 103, 104, 105, 106, 107, 108, 109, 110, 111, 112, 113, 114, 115, 116, 117, 118, 119, 120, 121, 122]⟩ : ByteArray)[d] = hexd d := by
  have : d = 0 ∨ d = 1 ∨ d = 2 ∨ d = 3 ∨ d = 4 ∨ d = 5 ∨ d = 6 ∨ d = 7 ∨ d = 8 ∨ d = 9 ∨ d = 10 ∨ d = 11 ∨ d = 12 ∨ d = 13 ∨ d = 14 ∨ d = 15 := by omega
  rcases this with rfl | rfl | rfl | rfl | rfl | rfl | rfl | rfl | rfl | rfl | rfl | rfl | rfl | rfl | rfl | rfl <;> rfl
theorem and_15 {u : Nat} (h : u < 18446744073709551616) : bits .and .u64 (u : Int) 15 = ((u % 16 : Nat) : Int) := by
  have := bits_and_u64_nat u 15 h (by omega)
  rw [show ((15 : Nat) : Int) = 15 from rfl] at this
  rw [this]
  have e : u &&& 15 = u % 16 := Nat.and_two_pow_sub_one_eq_mod u 4
  rw [e]
theorem set_drop (cs : Array Value) (i : Nat) (v : Value) (h : i < cs.size) : (cs.setIfInBounds i v).toList.drop i = v :: cs.toList.drop (i + 1) := by
  rw [Array.toList_setIfInBounds, List.drop_set, if_neg (by omega), Nat.sub_self, List.drop_eq_getElem_cons (by simpa using h)]
  rfl
theorem str_hex (l : List UInt8) : strOfNums (l.map fun c => (c.toNat : Int)) = ⟨l.toArray⟩ := by
  unfold strOfNums
  rw [List.map_map]
  congr 1
  have : ((fun n : Int => UInt8.ofNat n.toNat) ∘ fun c : UInt8 => (c.toNat : Int)) = id := by
    funext c
    simp
  rw [this, List.map_id]
theorem getD_hex (l : List UInt8) (k : Nat) (h : k < l.length) : (l.map fun c => (c.toNat : Int)).getD k 0 = (l[k].toNat : Int) := by simp [List.getD, h]
/-- The bytes of an array's rest, as a string. -/
theorem conv_rest {P : Program} (src e dst : TypeId) (hs : P.underlying src = some (.slice e)) (he : P.underlying e = some (.int .u8)) (hd : P.underlying dst = some .string) (w : World) (b i m c : Nat) (t : TypeId) (cs : Array Value) (l : List UInt8)
    (hrow : w.heap[b]? = some (.cells cs t (0, 0))) (hcs : cs.toList.drop i = l.map bv) (hm : m = l.length) :
    (convert src dst (.slice (some ⟨b, i, none⟩) m c)).run P w = .ok (.string ⟨l.toArray⟩) w := by
  subst hm
  rw [run_convert_bytes_arg w src e hs he b i l.length c (l.map fun c => (c.toNat : Int)) (by simp) (fun k hk => ?_) dst hd, str_hex]
  rw [cell_of_row _ _ _ _ _ _ hrow, getD_hex _ _ hk]
  have h1 : (cs.toList.drop i)[k]? = some (bv l[k]) := by rw [hcs]; simp [hk]
  rw [List.getElem?_drop, Array.getElem?_toList] at h1
  exact h1
theorem len91 : Tryd.prog.arrayLen 162 = 65 := by kernel_rfl
theorem elem91 : Tryd.prog.elem 162 = 5 := by kernel_rfl
theorem size91 : (Tryd.prog.info? 162).map (·.size) = some 65 := by kernel_rfl
set_option maxRecDepth 100000 in
set_option maxHeartbeats 3200000 in
theorem fmtBits_any (n : Nat) (w : World) (hn : n < 18446744073709551616) (hT : TzAt w) :
    Calls Tryd.prog 90 #[.slice none 0 0, .int .u64 n, .int .i64 16, .bool false, .bool false] w (FmtPost n w) := by
  have HT := Lib.hid hT
  clear hT
  go_enter Tryd.func90, Tryd.ntmps90
  go_wp2_with (first
    | (go_at_call 110; refine (pow2_any _).mono ?_; rintro e w1 ⟨rfl, rfl⟩)
    | (go_at_call 111; refine (tz_any _ (HT.out.below ((Below.refl _ _).alloc (Nat.le_refl _) _))).mono ?_; rintro e w1 ⟨rfl, rfl⟩))
  have hpow : ∀ j : Nat, 0 < 16 ^ j := fun j => Nat.pow_pos (by omega)
  have Hpow := Lib.hid hpow
  clear hpow
  go_loopg [1, 13] 16 (fun g s1 s13 wr => ∃ (j u i : Nat) (cs : Array Value), j + g = 16 ∧ (j = 0 ∨ 16 ^ j ≤ n) ∧ n / 16 ^ j = u ∧ i + j = 65 ∧ s1 = .int .u64 u ∧ s13 = .int .i64 i ∧ cs.size = 65 ∧ cs.toList.drop i = (hexL j n).map bv ∧ Below w.heap.size w wr ∧ w.heap.size < wr.heap.size ∧ wr.heap[w.heap.size]? = some (.cells cs 162 (0, 0)))
  case atStart => exact ⟨0, n, 65, Tryd.zeroCells162, by omega, .inl rfl, by simp, by omega, rfl, rfl, by kernel_rfl, by kernel_rfl, (Below.refl _ _).alloc (Nat.le_refl _) _, by simp, heap_alloc_new w _⟩
  case round =>
    obtain ⟨j, u, i, cs, hjg, hjn, hu, hij, rfl, rfl, hsz, hcs, hb, hzr, hrow⟩ := hrel
    have Hu := Lib.hid hu
    have Hcs := Lib.hid hcs
    have Hrow := Lib.hid hrow
    have Hsz := Lib.hid hsz
    have Hij := Lib.hid hij
    have Hjg := Lib.hid hjg
    have hi : i ≤ 65 := by omega
    have Hj15 : Hid (j ≤ 15) := by
      show j ≤ 15
      rcases hjn with h | h
      · omega
      · apply Nat.le_of_not_lt
        intro hlt
        have h1 : 16 ^ 16 ≤ 16 ^ j := Nat.pow_le_pow_right (by omega) hlt
        have h2 : (16 : Nat) ^ 16 = 18446744073709551616 := rfl
        omega
    clear hu hcs hrow hsz hij hjg hjn
    obtain ⟨d, hd⟩ : ∃ d, u % 16 = d := ⟨_, rfl⟩
    have hun : u < 18446744073709551616 := by
      rw [← Hu.out]
      exact Nat.lt_of_le_of_lt (Nat.div_le_self _ _) hn
    have hd16 : d < 16 := by omega
    have hand := and_15 hun
    rw [hd] at hand
    have hi1 : 1 ≤ i := by
      apply Nat.le_of_not_lt
      intro hlt
      have h1 := Hjg.out
      have h2 := Hij.out
      omega
    obtain ⟨i', rfl⟩ : ∃ i', i = i' + 1 := ⟨i - 1, by omega⟩
    have hx : ((i' + 1 : Nat) : Int) - 1 = (i' : Int) := by omega
    have hlt' : i' < 65 := by omega
    have hc0 : wr.cell? ⟨w.heap.size, i', none⟩ = some (cs[i']'(by rw [Hsz.out]; exact hlt')) := by
      rw [cell_of_row _ _ _ _ _ _ Hrow.out]
      simp
    have hf0 : wr.frozen? ⟨w.heap.size, i', none⟩ = false := frozen_of_row _ _ _ _ _ Hrow.out
    have Hd := Lib.hid hd
    clear hd
    by_cases hge : 16 ≤ u
    · go_wp2_with fail
      go_roundg (gk - 1)
      case rel =>
        have hv : (⟨#[48, 49, 50, 51, 52, 53, 54, 55, 56, 57, 97, 98, 99, 100, 101, 102, 103, 104, 105, 106, 107, 108, 109, 110, 111, 112, 113, 114, 115, 116, 117, 118, 119, 120, 121, 122]⟩ : ByteArray)[d]'(by show d < 36; omega) = hexd d := digs_at hd16 _
        refine ⟨j + 1, u / 16, i', cs.setIfInBounds i' (bv (hexd d)), by have := Hjg.out; have := Hj15.out; omega, ?_, ?_, by have := Hij.out; omega, by rw [Int.natCast_ediv]; rfl, rfl, by simpa using Hsz.out, ?_, hb.setCell (Nat.le_refl _) _, by simpa [World.setCell] using hzr, ?_⟩
        · right
          have h1 := Hu.out
          rw [Nat.pow_succ]
          have := Nat.div_mul_le_self n (16 ^ j)
          rw [h1] at this
          exact Nat.le_trans (by rw [Nat.mul_comm]; exact Nat.mul_le_mul_right _ hge) this
        · rw [Nat.pow_succ, ← Nat.div_div_eq_div_mul, Hu.out]
        · rw [set_drop _ _ _ (by rw [Hsz.out]; exact hlt'), Hcs.out, hexL_cons, Hu.out, Hd.out]
          rfl
        · rw [heap_setCell_same _ _ _ _ _ _ Hrow.out]
          unfold bv
          rw [← hv]
      case measure => have := Hjg.out; have := Hj15.out; omega
    · obtain rfl : d = u := by have := Hd.out; omega
      have hdg := fun h => digs_at hd16 h
      have hsl : ∀ W, (Instr.sliceAt 162 (.pointer (some ⟨w.heap.size, 0, none⟩)) (some (.int .i64 (i' : Int))) none none).run Tryd.prog W = .ok (.slice (some ⟨w.heap.size, i', none⟩) (65 - i') (65 - i')) W := fun W => by
        rw [run_sliceAt_array_l W 162 ⟨w.heap.size, 0, none⟩ (by rw [len91, elem91]; kernel_rfl) .i64 (i' : Int) (by omega) (by rw [len91]; omega), len91, elem91]
        have hsz1 : (sizeOf 5).run Tryd.prog W = .ok 1 W := by kernel_rfl
        rw [hsz1]
        have e1 : ¬ 65 = i' := by omega
        have e2 : ¬ i' = 0 := by
          have h1 := Hjg.out
          have h2 := Hij.out
          omega
        simp [Result.andThen, slicedAt, Addr.add, e1, e2]
      have hrow2 : (wr.setCell ⟨w.heap.size, i', none⟩ (.int .u8 ((hexd d).toNat : Int))).heap[w.heap.size]? = some (.cells (cs.setIfInBounds i' (bv (hexd d))) 162 (0, 0)) := by
        rw [heap_setCell_same _ _ _ _ _ _ Hrow.out]
        rfl
      have hcv := conv_rest (P := Tryd.prog) 26 5 9 Tryd.underlying26 Tryd.underlying5 Tryd.underlying9 _ w.heap.size i' (65 - i') (65 - i') _ _ (hexL (j + 1) n) hrow2
        (by rw [set_drop _ _ _ (by rw [Hsz.out]; exact hlt'), Hcs.out, hexL_cons, Hu.out, Nat.mod_eq_of_lt hd16]; rfl) (by rw [hexL_len]; have := Hij.out; omega)
      clear hrow2
      go_wp2_with fail
      go_ret2
      exact ⟨j + 1, by omega, by have := Hj15.out; omega, by
        have h1 := Hu.out
        rw [Nat.pow_succ]
        have := Nat.lt_mul_div_succ n (Hpow.out j)
        rw [h1] at this
        exact Nat.lt_of_lt_of_le this (Nat.mul_le_mul_left _ (by omega)), rfl, hb.setCell (Nat.le_refl _) _⟩
end Go.Proofs.YtkckncggiicciaaDoor
