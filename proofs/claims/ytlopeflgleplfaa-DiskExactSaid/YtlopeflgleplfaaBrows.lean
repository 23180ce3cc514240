/-
  Slices of slices of bytes; the walk of skerrykeep.Rows.
-/
import Derived.Test.YtlopeflgleplfaaKeep
namespace Go.Proofs.Ytlopeflgleplfaa
open Go.RowKit
/-- A slice of slices of bytes that is read. -/
def RdRows (w : World) (B : Nat) (A : Option Addr) (n cap : Nat) (ll : List (List UInt8)) : Prop :=
  ∃ us : List Value, Rd w B 1 A n cap us ∧ us.length = ll.length ∧ ∀ (i : Nat) u l, us[i]? = some u → ll[i]? = some l → ∃ A' c', u = .slice A' l.length c' ∧ By w B A' l.length c' l
section
variable {w w' : World} {B B' n cap : Nat} {A : Option Addr} {ll : List (List UInt8)}
theorem RdRows.keep (h : RdRows w B A n cap ll) (hk : ∀ p : Addr, p.block < B → w'.cell? p = w.cell? p) : RdRows w' B A n cap ll := by
  obtain ⟨us, h1, h2, h3⟩ := h
  refine ⟨us, h1.keep hk, h2, fun i u l hu hl => ?_⟩
  obtain ⟨A', c', e, hb⟩ := h3 i u l hu hl
  exact ⟨A', c', e, Rd.keep hb hk⟩
theorem RdRows.below {C : Nat} (h : RdRows w B A n cap ll) (hb : Below C w w') (hB : B ≤ C) : RdRows w' B A n cap ll := h.keep fun p hp => hb.cell (by omega)
theorem RdRows.mono (h : RdRows w B A n cap ll) (hB : B ≤ B') : RdRows w B' A n cap ll := by
  obtain ⟨us, h1, h2, h3⟩ := h
  refine ⟨us, h1.mono hB, h2, fun i u l hu hl => ?_⟩
  obtain ⟨A', c', e, hb⟩ := h3 i u l hu hl
  exact ⟨A', c', e, Rd.mono hb hB⟩
theorem RdRows.len (h : RdRows w B A n cap ll) : ll.length = n := by
  obtain ⟨us, h1, h2, _⟩ := h
  have := h1.1
  omega
theorem RdRows.caps (h : RdRows w B A n cap ll) : n ≤ cap ∧ cap ≤ maxLen := by
  obtain ⟨us, h1, _⟩ := h
  exact ⟨h1.2.1, h1.2.2.1⟩
theorem RdRows.take (h : RdRows w B A n cap ll) (k : Nat) (hk : k ≤ n) : RdRows w B A k cap (ll.take k) := by
  obtain ⟨us, h1, h2, h3⟩ := h
  have := h1.take k hk
  rw [Nat.mul_one] at this
  refine ⟨us.take k, this, by simp [h2], fun i u l hu hl => ?_⟩
  rw [List.getElem?_take] at hu hl
  split at hu
  · rw [if_pos (by assumption)] at hl
    exact h3 i u l hu hl
  · cases hu
/-- The k-th row, in a round. -/
theorem RdRows.step (h : RdRows w B A n cap ll) {k : Nat} (hk : k < n) : ∃ b off A' m c' l, A = some ⟨b, off, none⟩ ∧ b < B ∧ w.cell? ⟨b, off + k, none⟩ = some (.slice A' m c') ∧ By w B A' m c' l ∧
    Hid (ll[k]? = some l ∧ ll.take (k + 1) = ll.take k ++ [l]) := by
  have hlen := h.len
  obtain ⟨us, h1, h2, h3⟩ := h
  obtain ⟨b, off, e, hb, hc⟩ := h1.2.2.2 (by omega)
  have hu : us[k]? = some (us[k]'(by omega)) := by simp
  have hl : ll[k]? = some (ll[k]'(by omega)) := by simp
  obtain ⟨A', c', e', hy⟩ := h3 k _ _ hu hl
  exact ⟨b, off, A', _, c', _, e, hb, by rw [hc k _ hu, e'], hy, hl, List.take_succ_eq_append_getElem (by omega)⟩
end
/-- Rows of bytes of the call's own, in a row of its own. -/
def OwnRows (w : World) (base : Nat) (v : Value) (ll : List (List UInt8)) : Prop :=
  ∃ us : List Value, w.ownsRow base 22 1 v ll.length us ∧ us.length = ll.length ∧ (∀ u ∈ us, u.oneCell' = true) ∧ ∀ (i : Nat) u l, us[i]? = some u → ll[i]? = some l → OwnB w base u l
section
variable {w w' : World} {bs : Nat} {v : Value} {ll : List (List UInt8)}
theorem OwnRows.nil (w : World) (bs : Nat) : OwnRows w bs (.slice none 0 0) [] := ⟨[], World.ownsRow_nil _ _ _ _, rfl, by simp, by simp⟩
theorem OwnRows.below (h : OwnRows w bs v ll) (hb : Below w.heap.size w w') : OwnRows w' bs v ll := by
  obtain ⟨us, h1, h2, h4, h3⟩ := h
  exact ⟨us, own_below h1 hb, h2, h4, fun i u l hu hl => (h3 i u l hu hl).below hb⟩
theorem OwnRows.lower {bs' : Nat} (h : OwnRows w bs v ll) (hb : bs' ≤ bs) : OwnRows w bs' v ll := by
  obtain ⟨us, h1, h2, h4, h3⟩ := h
  exact ⟨us, own_base h1 hb, h2, h4, fun i u l hu hl => (h3 i u l hu hl).base hb⟩
theorem OwnRows.rd (h : OwnRows w bs v ll) {n : Nat} (hn : ll.length = n) : ∃ A cap, v = .slice A n cap ∧ RdRows w w.heap.size A n cap ll := by
  subst hn
  obtain ⟨us, h1, h2, h4, h3⟩ := h
  obtain ⟨A, cap, e, hr⟩ := Rd.of_own h1
  refine ⟨A, cap, e, us, hr, h2, fun i u l hu hl => ?_⟩
  obtain ⟨A', c', e', hb⟩ := own_by (h3 i u l hu hl) rfl
  exact ⟨A', c', e', hb⟩
/-- Rows of other element types never share a block. -/
theorem own_ne {e e' : TypeId} {s s' n n' base base' : Nat} {u : Value} {xs xs' : List Value} (h : w.ownsRow base e s u n xs) (h' : w.ownsRow base' e' s' v n' xs') (hne : e ≠ e') : u.ownBlock = none ∨ u.ownBlock ≠ v.ownBlock := by
  rcases h.2 with ⟨rfl, _⟩ | ⟨g, cap, cur, rfl, _, hg, _⟩
  · exact .inl rfl
  · rcases h'.2 with ⟨rfl, _⟩ | ⟨g', cap', cur', rfl, _, hg', _⟩
    · exact .inr (by simp [Value.ownBlock])
    · refine .inr fun eq => ?_
      simp [Value.ownBlock] at eq
      subst eq
      rw [hg] at hg'
      injection hg' with hg'
      injection hg' with _ ht
      exact hne ht
theorem OwnRows.snoc {v' : Value} {us : List Value} {u : Value} {l : List UInt8} (h1 : w.ownsRow bs 22 1 v ll.length us) (h2 : us.length = ll.length) (h4 : ∀ u ∈ us, u.oneCell' = true)
    (h3 : ∀ (i : Nat) u l, us[i]? = some u → ll[i]? = some l → OwnB w bs u l) (hu : OwnB w bs u l) (hu1 : u.oneCell' = true)
    (ho : w'.ownsRow bs 22 1 v' (ll.length + 1) (us ++ [u])) (hg : w.grownBy w' v.ownBlock) : OwnRows w' bs v' (ll ++ [l]) := by
  refine ⟨us ++ [u], by simpa using ho, by simp [h2], ?_, fun i x y hx hy => ?_⟩
  · intro x hx
    rcases List.mem_append.1 hx with hx | hx
    · exact h4 x hx
    · simp at hx; subst hx; exact hu1
  · by_cases hi : i < us.length
    · rw [List.getElem?_append_left hi] at hx
      rw [List.getElem?_append_left (by omega)] at hy
      have := h3 i x y hx hy
      exact World.ownsRow.kept this hg (own_ne (e := 5) this h1 (by decide))
    · rw [List.getElem?_append_right (by omega)] at hx
      rw [List.getElem?_append_right (by omega), ← h2] at hy
      have h0 : i - us.length = 0 := by
        rcases Nat.eq_zero_or_pos (i - us.length) with h | h
        · exact h
        · rw [List.getElem?_eq_none (by simp; omega)] at hx; cases hx
      rw [h0] at hx hy
      simp at hx hy
      subst hx
      subst hy
      exact World.ownsRow.kept hu hg (own_ne (e := 5) hu h1 (by decide))
end
theorem quiet_more {w wr : World} (h : ∃ q, wr = w.drewN q) (m : Nat) : ∃ q, wr.drewN m = w.drewN q := by
  obtain ⟨q, rfl⟩ := h
  exact ⟨_, World.drewN_drewN _ _ _⟩
end Go.Proofs.Ytlopeflgleplfaa
