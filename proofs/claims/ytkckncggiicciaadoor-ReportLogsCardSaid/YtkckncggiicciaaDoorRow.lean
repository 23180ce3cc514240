/-
  Rows of structs that are read; rows of strings and of floats of the call's own.
-/
import Derived.Test.YtkckncggiicciaaDoorRstr
import Derived.Test.YtkckncggiicciaaDoorRfl
import Derived.Deep.MidRow
import Derived.Deep.LoopGhost
import Derived.IntWalk
namespace Go.Proofs.YtkckncggiicciaaDoor
open Go.RowKit
set_option maxRecDepth 100000
/-- Rows of the same width, one behind the other: the k-th. -/
theorem flat_at {α : Type} (L : Nat) : ∀ (xss : List (List α)), (∀ x ∈ xss, x.length = L) → ∀ (k j : Nat) (x : List α) (u : α), xss[k]? = some x → x[j]? = some u → xss.flatten[k * L + j]? = some u
  | [], _, k, j, x, u, h, _ => by simp at h
  | y :: r, hl, 0, j, x, u, h, hj => by
    simp at h
    subst h
    have hy := hl y (by simp)
    have hjl := (List.getElem?_eq_some_iff.1 hj).1
    rw [List.flatten_cons, List.getElem?_append_left (by omega), Nat.zero_mul, Nat.zero_add]
    exact hj
  | y :: r, hl, k + 1, j, x, u, h, hj => by
    have hy := hl y (by simp)
    have ih := flat_at L r (fun z hz => hl z (by simp [hz])) k j x u (by simpa using h) hj
    rw [List.flatten_cons, List.getElem?_append_right (by rw [hy, Nat.add_mul]; omega), hy, show (k + 1) * L + j - L = k * L + j by rw [Nat.add_mul]; omega]
    exact ih
/-- The k-th struct of a row of structs that is read. -/
theorem rd_row {w : World} {B L n cap : Nat} {A : Option Addr} {xss : List (List Value)} (h : Rd w B L A n cap xss.flatten) (hl : ∀ x ∈ xss, x.length = L) (hn : xss.length = n) {k : Nat} (hk : k < n) :
    ∃ b off x, A = some ⟨b, off, none⟩ ∧ b < B ∧ xss[k]? = some x ∧ x.length = L ∧ w.rangeAt b (off + k * L) x := by
  obtain ⟨_, _, _, h4⟩ := h
  obtain ⟨b, off, e, hb, hc⟩ := h4 (by omega)
  have hk' : k < xss.length := by omega
  refine ⟨b, off, xss[k], e, hb, List.getElem?_eq_getElem hk', hl _ (List.getElem_mem hk'), fun j u hu => ?_⟩
  rw [Nat.add_assoc]
  exact hc _ u (flat_at L xss hl k j _ u (List.getElem?_eq_getElem hk') hu)
theorem range_below {w w' : World} {C b o : Nat} {cs : List Value} (h : w.rangeAt b o cs) (hb : Below C w w') (hlt : b < C) : w'.rangeAt b o cs := fun j v hj => (hb.cell (p := ⟨b, o + j, none⟩) hlt).trans (h j v hj)
/-! ### A replica -/
theorem size40 : (Tryd.prog.info? 33).map (·.size) = some 40 := by kernel_rfl
/-- A replica's cells: its number, and how far its log is done. -/
structure RfOk (x : List Value) (id commit : Int) : Prop where
  len : x.length = 40
  one : ∀ v ∈ x, v.oneCell' = true
  id : x[0]? = some (.int .i64 id)
  commit : x[11]? = some (.int .i64 commit)
theorem all_one {x : List Value} (h : ∀ v ∈ x, v.oneCell' = true) : x.toArray.all (·.oneCell') = true := Go.all_oneCell_toArray h
/-- A block that holds a struct's cells. -/
theorem cell_list {w : World} {g : Nat} {x : List Value} {t : TypeId} (h : w.heap[g]? = some (.cells x.toArray t (0, 0))) (j : Nat) (u : Value) (hj : x[j]? = some u) : w.cell? ⟨g, j, none⟩ = some u := by
  rw [cell_of_row _ _ _ _ _ _ h]
  simpa using hj
/-! ### Rows of strings, of floats, of the call's own -/
theorem info_str : (Tryd.prog.info? 9).map (fun i => (i.zero, i.size, i.bytes)) = some (some (.string ⟨#[]⟩), 1, 16) := by kernel_rfl
theorem info_f64 : (Tryd.prog.info? 35).map (fun i => (i.zero, i.size, i.bytes)) = some (some (.float .f64 0), 1, 8) := by kernel_rfl
def OwnS (w : World) (base : Nat) (v : Value) (l : List (List UInt8)) : Prop := w.ownsRow base 9 1 v l.length (l.map sV)
def fV (x : Nat) : Value := .float .f64 x
def OwnF (w : World) (base : Nat) (v : Value) (l : List Nat) : Prop := w.ownsRow base 35 1 v l.length (l.map fV)
theorem ownS_rd {w : World} {base : Nat} {v : Value} {l : List (List UInt8)} (h : OwnS w base v l) {n : Nat} (hn : l.length = n) : ∃ A cap, v = .slice A n cap ∧ Rd w w.heap.size 1 A n cap (l.map sV) := by
  subst hn
  exact Rd.of_own h
theorem ownF_rd {w : World} {base : Nat} {v : Value} {l : List Nat} (h : OwnF w base v l) {n : Nat} (hn : l.length = n) : ∃ A cap, v = .slice A n cap ∧ Rd w w.heap.size 1 A n cap (l.map fV) := by
  subst hn
  exact Rd.of_own h
theorem ownS_nil (w : World) (base : Nat) : OwnS w base (.slice none 0 0) [] := ⟨rfl, .inl ⟨rfl, rfl⟩⟩
theorem ownF_nil (w : World) (base : Nat) : OwnF w base (.slice none 0 0) [] := ⟨rfl, .inl ⟨rfl, rfl⟩⟩
theorem own_ne {w : World} {v : Value} {e e' : TypeId} {s s' n n' base base' : Nat} {u : Value} {xs xs' : List Value} (h : w.ownsRow base e s u n xs) (h' : w.ownsRow base' e' s' v n' xs') (hne : e ≠ e') : u.ownBlock = none ∨ u.ownBlock ≠ v.ownBlock := by
  rcases h.2 with ⟨rfl, _⟩ | ⟨g, cap, cur, rfl, _, hg, _⟩
  · exact .inl rfl
  · rcases h'.2 with ⟨rfl, _⟩ | ⟨g', cap', cur', rfl, _, hg', _⟩
    · exact .inr (by simp [Value.ownBlock])
    · refine .inr fun eq => ?_
      simp [Value.ownBlock] at eq
      subst eq
      rw [hg] at hg'
      injection hg' with hg'
      injection hg' with _ ht
      exact hne ht
/-- One more string. -/
theorem wpList_appS {w : World} {ops : Array Oper} {rest : List Oper} {o : Oper} {a : Act} {Q : Exit → Act → World → Prop} (hgd : o.guard = none) (s x : Operand)
    (ho : o.op = .call { callee := .builtin .append, args := #[s, x], argTypes := #[34, 34] })
    (base : Nat) (v : Value) (l : List (List UInt8)) (hs : a.eval s = v) (hown : OwnS w base v l)
    (B g : Nat) (l' : List UInt8) (hx : a.eval x = .slice (some ⟨g, 0, none⟩) 1 1) (hr : Rd w B 1 (some ⟨g, 0, none⟩) 1 1 [sV l'])
    (hlim : l.length ≤ 100000) (hbase : base ≤ w.heap.size)
    (h : ∀ v' w', OwnS w' base v' (l ++ [l']) → w.grownBy w' v.ownBlock → (v'.ownBlock = v.ownBlock ∨ v'.ownBlock = some w.heap.size) → wpList Tryd.prog ops Q rest (a.put o.dst v') w') : wpList Tryd.prog ops Q (o :: rest) a w := by
  obtain ⟨i0, hi, hz0, hz1, hz2⟩ := info_parts info_str
  refine wpList_plain hgd fun _ hK => wp_appAt s x _ ho base 9 i0 _ 1 16 Tryd.underlying34 hi hz0 hz1 hz2 rfl (by omega) v l.length (l.map sV) hs hown B _ 1 1 [sV l'] hx hr (one_one rfl) (by simp only [maxLen]; omega) (by omega) hbase ?_
  intro v' w' h1 h2 _ h4
  refine hK _ _ (h v' w' ?_ h2 h4)
  unfold OwnS
  rw [List.length_append, List.map_append]
  exact h1
/-- One more float. -/
theorem wpList_appF {w : World} {ops : Array Oper} {rest : List Oper} {o : Oper} {a : Act} {Q : Exit → Act → World → Prop} (hgd : o.guard = none) (s x : Operand)
    (ho : o.op = .call { callee := .builtin .append, args := #[s, x], argTypes := #[76, 76] })
    (base : Nat) (v : Value) (l : List Nat) (hs : a.eval s = v) (hown : OwnF w base v l)
    (B g : Nat) (y : Nat) (hx : a.eval x = .slice (some ⟨g, 0, none⟩) 1 1) (hr : Rd w B 1 (some ⟨g, 0, none⟩) 1 1 [fV y])
    (hlim : l.length ≤ 100000) (hbase : base ≤ w.heap.size)
    (h : ∀ v' w', OwnF w' base v' (l ++ [y]) → w.grownBy w' v.ownBlock → (v'.ownBlock = v.ownBlock ∨ v'.ownBlock = some w.heap.size) → wpList Tryd.prog ops Q rest (a.put o.dst v') w') : wpList Tryd.prog ops Q (o :: rest) a w := by
  obtain ⟨i0, hi, hz0, hz1, hz2⟩ := info_parts info_f64
  refine wpList_plain hgd fun _ hK => wp_appAt s x _ ho base 35 i0 _ 1 8 Tryd.underlying76 hi hz0 hz1 hz2 rfl (by omega) v l.length (l.map fV) hs hown B _ 1 1 [fV y] hx hr (one_one rfl) (by simp only [maxLen]; omega) (by omega) hbase ?_
  intro v' w' h1 h2 _ h4
  refine hK _ _ (h v' w' ?_ h2 h4)
  unfold OwnF
  rw [List.length_append, List.map_append]
  exact h1
end Go.Proofs.YtkckncggiicciaaDoor
