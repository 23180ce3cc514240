/-
  General words on memory, for walks; of no type of the program's.
-/
import Derived.Test.YtkckncggiicciaaDoorProg
import Derived.WalkKit
import Derived.Laws.AppendOwn
import Derived.Maps.AppendAt
import Derived.Lib.Hide
import Derived.Deep.Draws
namespace Go.Proofs.YtkckncggiicciaaDoor
open Go.RowKit
theorem val_int {k : IntKind} {a b : Int} (h : a = b) : Value.int k a = .int k b := by rw [h]
theorem ret_int {k : IntKind} {a b : Int} (h : a = b) : Ending.returned (.int k a) = .returned (.int k b) := by rw [h]
theorem ret_bool {a b : Bool} (h : a = b) : Ending.returned (.bool a) = .returned (.bool b) := by rw [h]
theorem addr_add (b off j : Nat) : (⟨b, off, none⟩ : Addr).add j = ⟨b, off + j, none⟩ := by unfold Addr.add; split <;> simp_all
/-- A byte as a cell. -/
def bv (c : UInt8) : Value := .int .u8 (c.toNat : Int)
theorem bv_one (c : UInt8) : (bv c).oneCell' = true := rfl
/-- A slice of n elements, capacity cap, at A, whose cells (size each) are xs, below block B. -/
def Rd (w : World) (B size : Nat) (A : Option Addr) (n cap : Nat) (xs : List Value) : Prop :=
  xs.length = n * size ∧ n ≤ cap ∧ cap ≤ maxLen ∧
    (0 < n → ∃ b off, A = some ⟨b, off, none⟩ ∧ b < B ∧ ∀ j u, xs[j]? = some u → w.cell? ⟨b, off + j, none⟩ = some u)
/-- A slice of bytes. -/
def By (w : World) (B : Nat) (A : Option Addr) (n cap : Nat) (l : List UInt8) : Prop := Rd w B 1 A n cap (l.map bv)
section
variable {w w' : World} {B B' size n cap : Nat} {A : Option Addr} {xs : List Value} {l : List UInt8}
theorem Rd.keep (h : Rd w B size A n cap xs) (hk : ∀ p : Addr, p.block < B → w'.cell? p = w.cell? p) : Rd w' B size A n cap xs := by
  obtain ⟨h1, h2, h3, h4⟩ := h
  refine ⟨h1, h2, h3, fun hn => ?_⟩
  obtain ⟨b, off, e, hb, hc⟩ := h4 hn
  exact ⟨b, off, e, hb, fun j u hu => (hk ⟨b, off + j, none⟩ hb).trans (hc j u hu)⟩
theorem Rd.mono (h : Rd w B size A n cap xs) (hB : B ≤ B') : Rd w B' size A n cap xs := by
  obtain ⟨h1, h2, h3, h4⟩ := h
  refine ⟨h1, h2, h3, fun hn => ?_⟩
  obtain ⟨b, off, e, hb, hc⟩ := h4 hn
  exact ⟨b, off, e, by omega, hc⟩
theorem Rd.below {C : Nat} (h : Rd w B size A n cap xs) (hb : Below C w w') (hB : B ≤ C) : Rd w' B size A n cap xs := h.keep fun p hp => hb.cell (by omega)
theorem Rd.drewN (h : Rd w B size A n cap xs) (k : Nat) : Rd (w.drewN k) B size A n cap xs := h
theorem Rd.alloc (h : Rd w B size A n cap xs) (hB : B ≤ w.heap.size) (o : Obj) : Rd (w.alloc o) B size A n cap xs := h.keep fun p hp => World.cell?_alloc_lt w o p (by omega)
theorem Rd.grown (h : Rd w B size A n cap xs) {row : Option Nat} (hg : w.grownBy w' row) (hB : B ≤ w.heap.size) (hr : ∀ g, row = some g → B ≤ g) : Rd w' B size A n cap xs :=
  h.keep fun p hp => World.cell?_of_block (hg.block p.block (by omega) (fun e => by have := hr _ e.symm; omega))
theorem Rd.nil (w : World) (B size : Nat) : Rd w B size none 0 0 [] := ⟨by simp, Nat.le_refl _, Nat.zero_le _, fun h => by omega⟩
theorem Rd.of_own {base : Nat} {e : TypeId} {v : Value} (h : w.ownsRow base e size v n xs) : ∃ A cap, v = .slice A n cap ∧ Rd w w.heap.size size A n cap xs := by
  obtain ⟨h1, ⟨rfl, rfl⟩ | ⟨g, cap, cur, rfl, hb, hg, hn, hm, hs, ht⟩⟩ := h
  · exact ⟨none, 0, rfl, h1, Nat.le_refl _, Nat.zero_le _, fun h => by omega⟩
  · refine ⟨_, cap, rfl, h1, hn, hm, fun _ => ⟨g, 0, rfl, (Array.getElem?_eq_some_iff.1 hg).1, fun j u hu => ?_⟩⟩
    rw [Nat.zero_add, cell_of_row w g j cur e (0, 0) hg]
    rw [← ht, List.getElem?_take] at hu
    split at hu
    · simpa using hu
    · cases hu
theorem By.len (h : By w B A n cap l) : l.length = n := by simpa using h.1
/-- The cells of a slice of bytes that is not empty. -/
theorem By.at (h : By w B A n cap l) (hn : 0 < n) : ∃ b off, A = some ⟨b, off, none⟩ ∧ b < B ∧ ∀ j (hj : j < l.length), w.cell? ⟨b, off + j, none⟩ = some (.int .u8 (l[j].toNat : Int)) := by
  obtain ⟨b, off, e, hb, hc⟩ := h.2.2.2 hn
  exact ⟨b, off, e, hb, fun j hj => hc j _ (by simp [bv, hj])⟩
/-- The k-th byte, in a round. -/
theorem By.step (h : By w B A n cap l) {k : Nat} (hk : k < n) : ∃ b off c, A = some ⟨b, off, none⟩ ∧ b < B ∧ w.cell? ⟨b, off + k, none⟩ = some (.int .u8 ((c : UInt8).toNat : Int)) ∧ Hid (l[k]? = some c ∧ l.take (k + 1) = l.take k ++ [c]) := by
  obtain ⟨b, off, e, hb, hc⟩ := h.at (by omega)
  have hl := h.len
  exact ⟨b, off, l[k]'(by omega), e, hb, hc k (by omega), by simp, List.take_succ_eq_append_getElem (by omega)⟩
/-- x[k:] -/
theorem Rd.drop (h : Rd w B size A n cap xs) (k : Nat) (hk : k ≤ n) : Rd w B size (if cap = k then A else A.map (·.add (k * size))) (n - k) (cap - k) (xs.drop (k * size)) := by
  obtain ⟨h1, h2, h3, h4⟩ := h
  refine ⟨by rw [List.length_drop, h1, Nat.sub_mul], by omega, by omega, fun hn => ?_⟩
  obtain ⟨b, off, rfl, hb, hc⟩ := h4 (by omega)
  rw [if_neg (by omega)]
  refine ⟨b, off + k * size, by simp [Addr.add], hb, fun j u hu => ?_⟩
  rw [Nat.add_assoc]
  exact hc _ u (by rw [← hu, List.getElem?_drop])
/-- x[:k] -/
theorem Rd.take (h : Rd w B size A n cap xs) (k : Nat) (hk : k ≤ n) : Rd w B size A k cap (xs.take (k * size)) := by
  obtain ⟨h1, h2, h3, h4⟩ := h
  have hm : k * size ≤ n * size := Nat.mul_le_mul_right _ hk
  refine ⟨by rw [List.length_take, h1]; omega, by omega, h3, fun hn => ?_⟩
  obtain ⟨b, off, rfl, hb, hc⟩ := h4 (by omega)
  refine ⟨b, off, rfl, hb, fun j u hu => hc j u ?_⟩
  rw [List.getElem?_take] at hu
  split at hu
  · exact hu
  · cases hu
end
/-- The slicing of a slice of bytes: x[lo:hi], x[lo:], x[:hi], under one name. -/
theorem By.cut {P : Program} {w : World} {B n cap : Nat} {A : Option Addr} {l : List UInt8} (t e : TypeId) (ht : P.underlying t = some (.slice e)) (hs : (P.info? e).map (·.size) = some 1)
    (h : By w B A n cap l) (lo hi m : Nat) (ilo ihi : Int) (e1 : ilo = lo) (e2 : ihi = hi) (em : lo + m = hi) (h2 : hi ≤ n) :
    ∃ A' c', (∀ W, (Instr.slice t (.slice A n cap) (some (.int .i64 ilo)) (some (.int .i64 ihi)) none).run P W = .ok (.slice A' m c') W) ∧
      By w B A' m c' ((l.drop lo).take m) := by
  subst e1
  subst e2
  obtain rfl : m = hi - lo := by omega
  have h1 : lo ≤ hi := by omega
  clear em
  have hcap := h.2.1
  have hel : P.elem t = e := by simp [Program.elem, ht]
  refine ⟨if cap = lo then A else A.map (·.add (lo * 1)), cap - lo, fun W => ?_, ?_⟩
  · have hsz : (sizeOf e).run P W = .ok 1 W := by
      cases hq : P.info? e with
      | none => simp [hq] at hs
      | some i => simp [hq] at hs; simp [sizeOf, typeInfo, hq, hs]
    have hr := run_slice_lh (P := P) W t A n cap (by rw [hel]; exact ht) .i64 .i64 (lo : Int) (hi : Int) (by omega) (by omega) (by omega)
    rw [hr, hel, hsz]
    simp [sliced, Result.andThen]
  · have hd := Rd.drop h lo (by omega)
    have htk := Rd.take hd (hi - lo) (by omega)
    unfold By
    simpa [List.map_drop, List.map_take] using htk
theorem By.cutL {P : Program} {w : World} {B n cap : Nat} {A : Option Addr} {l : List UInt8} (t e : TypeId) (ht : P.underlying t = some (.slice e)) (hs : (P.info? e).map (·.size) = some 1)
    (h : By w B A n cap l) (lo m : Nat) (ilo : Int) (e1 : ilo = lo) (em : lo + m = n) :
    ∃ A' c', (∀ W, (Instr.slice t (.slice A n cap) (some (.int .i64 ilo)) none none).run P W = .ok (.slice A' m c') W) ∧
      By w B A' m c' (l.drop lo) := by
  subst e1
  obtain rfl : m = n - lo := by omega
  have h1 : lo ≤ n := by omega
  clear em
  have hcap := h.2.1
  have hel : P.elem t = e := by simp [Program.elem, ht]
  refine ⟨if cap = lo then A else A.map (·.add (lo * 1)), cap - lo, fun W => ?_, ?_⟩
  · have hsz : (sizeOf e).run P W = .ok 1 W := by
      cases hq : P.info? e with
      | none => simp [hq] at hs
      | some i => simp [hq] at hs; simp [sizeOf, typeInfo, hq, hs]
    have hr := run_slice_l (P := P) W t A n cap (by rw [hel]; exact ht) .i64 (lo : Int) (by omega) (by omega)
    rw [hr, hel, hsz]
    simp [sliced, Result.andThen]
  · have hd := Rd.drop h lo (by omega)
    unfold By
    simpa [List.map_drop] using hd
theorem By.cutH {P : Program} {w : World} {B n cap : Nat} {A : Option Addr} {l : List UInt8} (t e : TypeId) (ht : P.underlying t = some (.slice e)) (hs : (P.info? e).map (·.size) = some 1)
    (h : By w B A n cap l) (hi : Nat) (ihi : Int) (e1 : ihi = hi) (em : hi ≤ n) :
    ∃ A' c', (∀ W, (Instr.slice t (.slice A n cap) none (some (.int .i64 ihi)) none).run P W = .ok (.slice A' hi c') W) ∧
      By w B A' hi c' (l.take hi) := by
  subst e1
  have hcap := h.2.1
  have hel : P.elem t = e := by simp [Program.elem, ht]
  refine ⟨if cap = 0 then A else A.map (·.add (0 * 1)), cap, fun W => ?_, ?_⟩
  · have hsz : (sizeOf e).run P W = .ok 1 W := by
      cases hq : P.info? e with
      | none => simp [hq] at hs
      | some i => simp [hq] at hs; simp [sizeOf, typeInfo, hq, hs]
    have hr := run_slice_h (P := P) W t A n cap (by rw [hel]; exact ht) .i64 (hi : Int) (by omega) (by omega)
    rw [hr, hel, hsz]
    simp [sliced, Result.andThen]
  · have hd := Rd.take h hi (by omega)
    unfold By
    have e : (if cap = 0 then A else A.map (·.add (0 * 1))) = A := by
      split
      · rfl
      · cases A <;> simp [Addr.add]
    rw [e]
    simpa [List.map_take] using hd
/-- x[:hi] of a slice whose elements are one cell each: the address stays. -/
theorem run_sliceH {P : Program} (t e : TypeId) (ht : P.underlying t = some (.slice e)) (hs : (P.info? e).map (·.size) = some 1) (A : Option Addr) (n cap hi : Nat) (ihi : Int) (e1 : ihi = hi) (hc : hi ≤ cap) (W : World) :
    (Instr.slice t (.slice A n cap) none (some (.int .i64 ihi)) none).run P W = .ok (.slice A hi cap) W := by
  subst e1
  have hel : P.elem t = e := by simp [Program.elem, ht]
  have hsz : (sizeOf e).run P W = .ok 1 W := by
    cases hq : P.info? e with
    | none => simp [hq] at hs
    | some i => simp [hq] at hs; simp [sizeOf, typeInfo, hq, hs]
  have hr := run_slice_h (P := P) W t A n cap (by rw [hel]; exact ht) .i64 (hi : Int) (by omega) (by omega)
  rw [hr, hel, hsz]
  have e : (if cap = 0 then A else A.map (·.add (0 * 1))) = A := by
    split
    · rfl
    · cases A <;> simp [Addr.add]
  simp only [Result.andThen, sliced, Int.toNat_natCast, e, Nat.sub_zero]
/-! ### Rows of the call's own -/
theorem own_below {w w' : World} {base : Nat} {e : TypeId} {size : Nat} {v : Value} {n : Nat} {xs : List Value} (h : w.ownsRow base e size v n xs) (hb : Below w.heap.size w w') : w'.ownsRow base e size v n xs :=
  h.kept (row := none) ⟨hb.os, hb.tape, hb.output, hb.size, fun k hk _ => hb.block k hk⟩ (by cases v.ownBlock <;> simp)
theorem own_base {w : World} {base base' : Nat} {e : TypeId} {size : Nat} {v : Value} {n : Nat} {xs : List Value} (h : w.ownsRow base e size v n xs) (hb : base' ≤ base) : w.ownsRow base' e size v n xs := by
  obtain ⟨h1, h2 | ⟨g, cap, cur, h3, h4, h5⟩⟩ := h
  · exact ⟨h1, .inl h2⟩
  · exact ⟨h1, .inr ⟨g, cap, cur, h3, by omega, h5⟩⟩
theorem below_setRow {B g : Nat} {a w : World} (h : Below B a w) (hg : B ≤ g) (cs : Array Value) : Below B a (w.setRow g cs) :=
  h.trans ⟨rfl, rfl, rfl, by simp, fun k hk => setRow_other w g k cs (by omega)⟩
theorem below_drewN {B : Nat} {a w : World} (h : Below B a w) (n : Nat) : Below B a (w.drewN n) := ⟨h.os, h.tape, h.output, h.size, h.block⟩
/-- One new element, as an append lays it. -/
theorem rd_one (w : World) (u : Value) (e : TypeId) : Rd (w.alloc (.cells #[u] e)) (w.heap.size + 1) 1 (some ⟨w.heap.size, 0, none⟩) 1 1 [u] := by
  refine ⟨rfl, Nat.le_refl _, by decide, fun _ => ⟨w.heap.size, 0, rfl, by omega, fun j x hx => ?_⟩⟩
  rw [Nat.zero_add, cell_of_row _ _ _ _ _ _ (heap_alloc_new w _)]
  simpa using hx
theorem one_one {u : Value} (h : u.oneCell' = true) : ∀ x ∈ [u], x.oneCell' = true := by
  intro x hx
  simp at hx
  subst hx
  exact h
/-- An append onto a row of the call's own: the source is read, whatever it is. -/
theorem wp_appAt {P : Program} {w : World} {o : Oper} {a : Act} {K : Act → World → Prop} {Q : Exit → Act → World → Prop} (s x : Operand) (t : TypeId)
    (ho : o.op = .call { callee := .builtin .append, args := #[s, x], argTypes := #[t, t] })
    (base : Nat) (e : TypeId) (i : TypeInfo) (z : Value) (size bytes : Nat) (ht : P.underlying t = some (.slice e)) (hi : P.info? e = some i) (hz : i.zero = some z)
    (hsize : i.size = size) (hby : i.bytes = bytes) (hzs : z.cells.size = size) (hsz : 0 < size)
    (v : Value) (n : Nat) (xs : List Value) (hs : a.eval s = v) (hown : w.ownsRow base e size v n xs)
    (B : Nat) (A : Option Addr) (m c : Nat) (news : List Value) (hx : a.eval x = .slice A m c) (hr : Rd w B size A m c news) (h1 : ∀ u ∈ news, u.oneCell' = true)
    (h63 : n + m ≤ maxLen) (hbytes : (n + m) * bytes ≤ 140737488355328) (hbase : base ≤ w.heap.size)
    (h : ∀ v' w', w'.ownsRow base e size v' (n + m) (xs ++ news) → w.grownBy w' v.ownBlock → (v' = .slice none 0 0 ↔ v = .slice none 0 0 ∧ m = 0) → (v'.ownBlock = v.ownBlock ∨ v'.ownBlock = some w.heap.size) → K (a.put o.dst v') w') : o.wp P a w K Q := by
  rcases Nat.eq_zero_or_pos m with rfl | hm
  · have hn : news = [] := List.eq_nil_of_length_eq_zero (by simpa using hr.1)
    subst hn
    have hrun : (Builtin.append_ #[t, t] o.type #[v, .slice A 0 c]).run P w = .ok v w := by
      rcases hown.2 with ⟨rfl, rfl⟩ | ⟨g, cap, cur, rfl, _, _, hnc, _⟩
      · simp [Builtin.append_, run_underlying ht, sizeOf, typeInfo, hi, Builtin.lenOf, Builtin.firstCells]
        cases A <;> simp [loadCells, loadCellsFrom]
      · cases A <;> simp [Builtin.append_, run_underlying ht, sizeOf, typeInfo, hi, Builtin.lenOf, Builtin.firstCells, hnc, storeCells, loadCells, loadCellsFrom]
    unfold Oper.wp execOp
    simp only [ho, resolve, invoke, builtin, Sem.run_bind, Sem.run_pure, Result.andThen_ok, List.map_toArray, List.map_cons, List.map_nil, hs, hx, hrun]
    exact h v w (by simpa using hown) ⟨rfl, rfl, rfl, Nat.le_refl _, fun _ _ _ => rfl⟩ (by simp) (.inl rfl)
  · obtain ⟨b, off, rfl, hb, hc⟩ := hr.2.2.2 hm
    obtain ⟨v', w', hrun, h2, h3, h4, h5⟩ := run_append_own_at (P := P) w base t o.type e i z size bytes ht hi hz hsize hby hzs hsz v n xs hown ⟨b, off, none⟩ m c news hr.1 (fun j u hu => by rw [addr_add]; exact hc j u hu) h1 h63 hbytes hbase
    unfold Oper.wp execOp
    simp only [ho, resolve, invoke, builtin, Sem.run_bind, Sem.run_pure, Result.andThen_ok, List.map_toArray, List.map_cons, List.map_nil, hs, hx, hrun]
    exact h v' w' h2 h3 h4 h5
theorem wp_app {P : Program} {w : World} {o : Oper} {a : Act} {K : Act → World → Prop} {Q : Exit → Act → World → Prop} (s x : Operand) (t : TypeId)
    (ho : o.op = .call { callee := .builtin .append, args := #[s, x], argTypes := #[t, t] })
    (base : Nat) (e : TypeId) (i : TypeInfo) (z : Value) (size bytes : Nat) (ht : P.underlying t = some (.slice e)) (hi : P.info? e = some i) (hz : i.zero = some z)
    (hsize : i.size = size) (hby : i.bytes = bytes) (hzs : z.cells.size = size) (hsz : 0 < size)
    (v : Value) (n : Nat) (xs : List Value) (hs : a.eval s = v) (hown : w.ownsRow base e size v n xs)
    (B : Nat) (A : Option Addr) (m c : Nat) (news : List Value) (hx : a.eval x = .slice A m c) (hr : Rd w B size A m c news) (h1 : ∀ u ∈ news, u.oneCell' = true)
    (h63 : n + m ≤ maxLen) (hbytes : (n + m) * bytes ≤ 140737488355328) (hbase : base ≤ w.heap.size)
    (h : ∀ v' w', w'.ownsRow base e size v' (n + m) (xs ++ news) → w.grownBy w' v.ownBlock → (v' = .slice none 0 0 ↔ v = .slice none 0 0 ∧ m = 0) → K (a.put o.dst v') w') : o.wp P a w K Q :=
  wp_appAt s x t ho base e i z size bytes ht hi hz hsize hby hzs hsz v n xs hs hown B A m c news hx hr h1 h63 hbytes hbase fun v' w' h2 h3 h4 _ => h v' w' h2 h3 h4
theorem wpList_app {P : Program} {w : World} {ops : Array Oper} {rest : List Oper} {o : Oper} {a : Act} {Q : Exit → Act → World → Prop} (hgd : o.guard = none) (s x : Operand) (t : TypeId)
    (ho : o.op = .call { callee := .builtin .append, args := #[s, x], argTypes := #[t, t] })
    (base : Nat) (e : TypeId) (i : TypeInfo) (z : Value) (size bytes : Nat) (ht : P.underlying t = some (.slice e)) (hi : P.info? e = some i) (hz : i.zero = some z)
    (hsize : i.size = size) (hby : i.bytes = bytes) (hzs : z.cells.size = size) (hsz : 0 < size)
    (v : Value) (n : Nat) (xs : List Value) (hs : a.eval s = v) (hown : w.ownsRow base e size v n xs)
    (B : Nat) (A : Option Addr) (m c : Nat) (news : List Value) (hx : a.eval x = .slice A m c) (hr : Rd w B size A m c news) (h1 : ∀ u ∈ news, u.oneCell' = true)
    (h63 : n + m ≤ maxLen) (hbytes : (n + m) * bytes ≤ 140737488355328) (hbase : base ≤ w.heap.size)
    (h : ∀ v' w', w'.ownsRow base e size v' (n + m) (xs ++ news) → w.grownBy w' v.ownBlock → (v' = .slice none 0 0 ↔ v = .slice none 0 0 ∧ m = 0) → wpList P ops Q rest (a.put o.dst v') w') : wpList P ops Q (o :: rest) a w :=
  wpList_plain hgd fun _ hK => wp_app s x t ho base e i z size bytes ht hi hz hsize hby hzs hsz v n xs hs hown B A m c news hx hr h1 h63 hbytes hbase fun v' w' h2 h3 h4 => hK _ _ (h v' w' h2 h3 h4)
/-- A call that only reads: it may draw. -/
def Qt (w : World) (v : Value) (e : Ending) (w' : World) : Prop := e = .returned v ∧ ∃ k, w' = w.drewN k
end Go.Proofs.YtkckncggiicciaaDoor
