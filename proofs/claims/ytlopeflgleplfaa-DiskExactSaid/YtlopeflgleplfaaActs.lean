/-
  A slice of acts that came in.
-/
import Derived.Test.YtlopeflgleplfaaLaw
import Derived.Test.YtlopeflgleplfaaKeep
namespace Go.Proofs.Ytlopeflgleplfaa
open Go.RowKit Go.ChangeShapes Go.WideShapes Go.ChangeAt
/-- An act. -/
structure ActV where
  what : Int
  n : Int
  keep : Int
  b : List UInt8
def I64 (x : Int) : Prop := -9223372036854775808 ≤ x ∧ x ≤ 9223372036854775807
structure ActV.Ok (a : ActV) : Prop where
  what : I64 a.what
  n : I64 a.n
  keep : I64 a.keep
instance : Inhabited ActV := ⟨⟨0, 0, 0, []⟩⟩
/-- The act a lies at p. -/
def ActAt (w : World) (B b off : Nat) (a : ActV) : Prop :=
  a.Ok ∧ w.cell? ⟨b, off, none⟩ = some (.int .i64 a.what) ∧ w.cell? ⟨b, off + 1, none⟩ = some (.int .i64 a.n) ∧ w.cell? ⟨b, off + 2, none⟩ = some (.int .i64 a.keep) ∧
    ∃ A c, w.cell? ⟨b, off + 3, none⟩ = some (.slice A a.b.length c) ∧ By w B A a.b.length c a.b
/-- A slice of acts that is read. -/
def RdActs (w : World) (B : Nat) (A : Option Addr) (n cap : Nat) (l : List ActV) : Prop :=
  l.length = n ∧ n ≤ cap ∧ cap ≤ maxLen ∧ (0 < n → ∃ b off, A = some ⟨b, off, none⟩ ∧ b < B ∧ ∀ (i : Nat) a, l[i]? = some a → ActAt w B b (off + i * 4) a)
theorem RdActs.below {w w' : World} {B C n cap : Nat} {A : Option Addr} {l : List ActV} (h : RdActs w B A n cap l) (hb : Below C w w') (hB : B ≤ C) : RdActs w' B A n cap l := by
  obtain ⟨h1, h2, h3, h4⟩ := h
  refine ⟨h1, h2, h3, fun hn => ?_⟩
  obtain ⟨b, off, e, hb', hc⟩ := h4 hn
  refine ⟨b, off, e, hb', fun i a hi => ?_⟩
  obtain ⟨k0, k1, k2, k3, A', c', k4, k5⟩ := hc i a hi
  have kk : ∀ x, w'.cell? ⟨b, x, none⟩ = w.cell? ⟨b, x, none⟩ := fun x => hb.cell (by show b < C; omega)
  exact ⟨k0, (kk _).trans k1, (kk _).trans k2, (kk _).trans k3, A', c', (kk _).trans k4, k5.below hb hB⟩
/-- The k-th act, in a round. -/
theorem RdActs.step {w : World} {B n cap : Nat} {A : Option Addr} {l : List ActV} (h : RdActs w B A n cap l) {k : Nat} (hk : k < n) : ∃ b off a, A = some ⟨b, off, none⟩ ∧ b < B ∧ ActAt w B b (off + k * 4) a ∧ Hid (l[k]? = some a ∧ l.take (k + 1) = l.take k ++ [a]) := by
  obtain ⟨h1, h2, h3, h4⟩ := h
  obtain ⟨b, off, e, hb', hc⟩ := h4 (by omega)
  have hl : l[k]? = some (l[k]'(by omega)) := by simp
  exact ⟨b, off, _, e, hb', hc k _ hl, hl, List.take_succ_eq_append_getElem (by omega)⟩
theorem trod_i64 {H : Type} {enc : TypeId × Value → H} {W : World} {fuel : Nat} {v : Value} {x : DataW H × List MemPlace} (h : DataW.trod enc Try.prog W 0 (fun _ => true) true fuel 3 [v] = some x) : ∃ z, v = .int .i64 z ∧ I64 z := by
  obtain ⟨z, e, _, hw⟩ := DataW.trod_int Try.underlying3 h
  simp at e
  exact ⟨z, e, law_i64 hw⟩
theorem law_acts {H : Type} {enc : TypeId × Value → H} {W : World} {base : Nat} {v : Value} {d : DataW H} {ps : List MemPlace} (hv : Value.okWide Try.prog W .any base 42 v)
    (h : DataW.Trod enc Try.prog W 0 (fun _ => true) true 42 v d ps) : ∃ A n cap l, v = .slice A n cap ∧ RdActs W W.heap.size A n cap l := by
  obtain ⟨a0, len, cap, rfl⟩ := okWide_slice Try.underlying42 hv
  obtain ⟨fuel, hf⟩ := h
  rcases DataW.trod_slice Try.underlying42 hf with ⟨hcs, _⟩ | ⟨a, len', cap', elems, rest, fl, _, hcs, _, _, hl, hm, hel, hat, _, _⟩
  · simp [Value.cells] at hcs
    obtain ⟨rfl, rfl, rfl⟩ := hcs
    exact ⟨none, 0, 0, [], rfl, rfl, Nat.le_refl _, Nat.zero_le _, fun h => by omega⟩
  · simp [Value.cells] at hcs
    obtain ⟨rfl, rfl, rfl⟩ := hcs
    have hce : Try.prog.cellsOf 45 = 4 := by kernel_rfl
    have hc3 : Try.prog.cellsOf 3 = 1 := by kernel_rfl
    have hc22 : Try.prog.cellsOf 22 = 1 := by kernel_rfl
    have each : ∀ i, i < len → ∃ A' n' c' z0 z1 z2, ∃ l : List UInt8, W.cell? ((a.add (i * 4)).add 0) = some (.int .i64 z0) ∧ W.cell? ((a.add (i * 4)).add 1) = some (.int .i64 z1) ∧ W.cell? ((a.add (i * 4)).add 2) = some (.int .i64 z2) ∧
        W.cell? ((a.add (i * 4)).add 3) = some (.slice A' n' c') ∧ By W W.heap.size A' n' c' l ∧ I64 z0 ∧ I64 z1 ∧ I64 z2 := by
      intro i hi
      have h1 := hat i hi
      rw [hce, List.getElem?_eq_getElem (by omega), Option.bind_eq_some_iff] at h1
      obtain ⟨cs, h2, h3⟩ := h1
      obtain ⟨_, hlen, hcell⟩ := World.cells?_some h2
      obtain ⟨v0, v1, v2, v3, rfl⟩ : ∃ v0 v1 v2 v3, cs = [v0, v1, v2, v3] := by
        match cs, hlen with
        | [v0, v1, v2, v3], _ => exact ⟨v0, v1, v2, v3, rfl⟩
      obtain ⟨xs, n', _, _, _, hxl, hfs⟩ := DataW.trod_struct Try.underlying45 h3
      have f0 : DataW.trod enc Try.prog W 0 (fun _ => true) true n' 3 (([v0, v1, v2, v3].drop 0).take (Try.prog.cellsOf 3)) = xs[0]? := hfs 0 _ rfl
      have f1 : DataW.trod enc Try.prog W 0 (fun _ => true) true n' 3 (([v0, v1, v2, v3].drop 1).take (Try.prog.cellsOf 3)) = xs[1]? := hfs 1 _ rfl
      have f2 : DataW.trod enc Try.prog W 0 (fun _ => true) true n' 3 (([v0, v1, v2, v3].drop 2).take (Try.prog.cellsOf 3)) = xs[2]? := hfs 2 _ rfl
      have f3 : DataW.trod enc Try.prog W 0 (fun _ => true) true n' 22 (([v0, v1, v2, v3].drop 3).take (Try.prog.cellsOf 22)) = xs[3]? := hfs 3 _ rfl
      have hxl4 : xs.length = 4 := hxl
      rw [List.getElem?_eq_getElem (by omega)] at f0 f1 f2 f3
      simp only [hc3, hc22, List.drop_succ_cons, List.drop_zero, List.take_succ_cons, List.take_zero] at f0 f1 f2 f3
      obtain ⟨z0, rfl, i0⟩ := trod_i64 f0
      obtain ⟨z1, rfl, i1⟩ := trod_i64 f1
      obtain ⟨z2, rfl, i2⟩ := trod_i64 f2
      obtain ⟨A', n', c', l, h5, h6⟩ := cells_bytes f3
      simp at h5
      subst h5
      exact ⟨A', n', c', z0, z1, z2, l, hcell 0 (by omega), hcell 1 (by omega), hcell 2 (by omega), hcell 3 (by omega), h6, i0, i1, i2⟩
    by_cases h0 : 0 < len
    · obtain ⟨_, _, _, _, _, _, _, hu0, _⟩ := each 0 h0
      obtain ⟨b, off, spot⟩ := a
      have hspot : spot = none := by simpa [Addr.add] using World.cell?_spot hu0
      subst hspot
      have hblt : b < W.heap.size := World.block_lt_of_cell? _ _ (by simpa [Addr.add] using hu0)
      have each' : ∀ i, i < len → ∃ x : ActV, ActAt W W.heap.size b (off + i * 4) x := fun i hi => by
        obtain ⟨A', n', c', z0, z1, z2, l, e0, e1, e2, e3, hy, i0, i1, i2⟩ := each i hi
        rw [addr_add, addr_add] at e0 e1 e2 e3
        have hn := hy.len
        subst hn
        exact ⟨⟨z0, z1, z2, l⟩, ⟨i0, i1, i2⟩, e0, e1, e2, A', c', e3, hy⟩
      refine ⟨_, _, _, (List.range len).map fun i => if h : i < len then Classical.choose (each' i h) else default, rfl, by simp, hl, hm, fun _ => ⟨b, off, rfl, hblt, fun i x hx => ?_⟩⟩
      have hi : i < len := by have := (List.getElem?_eq_some_iff.1 hx).1; simpa using this
      simp [hi] at hx
      rw [← hx]
      exact Classical.choose_spec (each' i hi)
    · obtain rfl : len = 0 := by omega
      exact ⟨_, _, _, [], rfl, rfl, hl, hm, fun h => by omega⟩
end Go.Proofs.Ytlopeflgleplfaa
