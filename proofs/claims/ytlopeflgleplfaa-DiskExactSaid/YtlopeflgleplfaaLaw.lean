/-
  From a law's walk to its row: what was there reads as it did. And: how arguments come in.
-/
import Derived.Test.YtlopeflgleplfaaRows
import Derived.Test.YtlopeflgleplfaaMem
import Derived.ProofKit
import Derived.OpenShut
namespace Go.Proofs.Ytlopeflgleplfaa
open Go.RowKit Go.ChangeShapes Go.WideShapes Go.ChangeAt
theorem Try.ownKnob : ownKnob Try.prog.godebug = none := by kernel_rfl
theorem Try.laidOut : laidOutB Try.prog = true := by kernel_rfl
theorem law_args {H : Type} {enc : TypeId × Value → H} {P : Program} (hl : laidOutB P = true) {W W' : World} (hb : Below W.heap.size W W') :
    ∀ {ts : List TypeId} {vs : List Value} {ds : List (DataW H)} {ps : List MemPlace}, (∀ t ∈ ts, P.readableRec t = true ∧ t < P.types.size) →
      DataW.TrodAll enc P W 0 (fun _ => true) true ts vs ds ps → (∀ x ∈ ps, x.block < W.heap.size) → DataW.TrodAll enc P W' 0 (fun b => decide (b < W.heap.size)) true ts vs ds ps
  | [], vs, ds, ps, _, h, _ => by
    obtain ⟨rfl, rfl, rfl⟩ := trodAll_nil h
    exact trodAll_mk0
  | t :: ts, vs, ds, ps, ht, h, hlt => by
    obtain ⟨v, vs', d, ds', p, q, rfl, rfl, rfl, h0, hs⟩ := trodAll_cons h
    exact trodAll_cons_mk (Below.trod hl (ht t (by simp)).1 (ht t (by simp)).2 h0 hb (fun x hx => hlt x (by simp [hx])))
      (law_args hl hb (fun x hx => ht x (by simp [hx])) hs (fun x hx => hlt x (by simp [hx])))
/-- A LAW's ROW's LAST STEP: it has returned true, and nothing that was there has turned. -/
theorem law_post {H : Type} {enc : TypeId × Value → H} {f : Func} {s : ChangeSpec} {W W' : World} {args : Array Value} {ds gs : List (DataW H)} {before : List MemPlace} (tb : TypeId)
    (hres : f.resultTypes = #[tb]) (hbool : Try.prog.underlying tb = some .bool) (hvars : s.vars = []) (hts : f.params.toList.all (fun t => Try.prog.readableRec t && decide (t < Try.prog.types.size)) = true)
    (hW : DataW.Whole enc Try.prog f.params.toList s.vars false W args.toList ds gs before)
    (hfn : s.fn H (ds ++ gs) = { results := [.lit (.bool true)], args := ds }) (hb : Below W.heap.size W W') :
    s.post enc Try.prog f false true false false W args (.bool true) W' := by
  have hlt : ∀ p ∈ before, p.block < W.heap.size := fun p hp => hW.lt p hp
  have hW0 := hW
  obtain ⟨p, q, hA, hV, rfl, _, _⟩ := hW
  rw [hvars] at hV
  obtain ⟨rfl, rfl⟩ := trodVars_none hV
  have hts' : ∀ t ∈ f.params.toList, Try.prog.readableRec t = true ∧ t < Try.prog.types.size := fun t ht => by
    have := (List.all_eq_true.1 hts) t ht
    simpa using this
  refine ⟨ds, [], p ++ [], [], p, [], hW0, ?_, ?_, ?_, hb.frame _ |> World.keptBut_mono (fun _ h => h), fun h => by cases h⟩
  · rw [hfn, hres]
    exact trodAll_mk1 (shut_bool hbool true)
  · rw [hfn]
    exact law_args Try.laidOut hb hts' hA (fun x hx => hlt x (by simp [hx]))
  · rw [hfn, hvars]
    rfl
/-- A slice of bytes that came in: its cells, and its bytes. -/
theorem cells_bytes {H : Type} {enc : TypeId × Value → H} {W : World} {fuel : Nat} {cs : List Value} {x : DataW H × List MemPlace} (hf : DataW.trod enc Try.prog W 0 (fun _ => true) true fuel 22 cs = some x) :
    ∃ A n cap, ∃ l : List UInt8, cs = [.slice A n cap] ∧ By W W.heap.size A n cap l := by
  rcases open_ints Try.underlying22 Try.underlying5 (by kernel_rfl) hf with ⟨hcs, _⟩ | ⟨x, l, c, zs, hcs, _, hl, hm, hz, hx, hcell, hwz⟩
  · exact ⟨none, 0, 0, [], hcs, Rd.nil _ _ _⟩
  · refine ⟨_, _, _, (zs.take l).map (fun z => UInt8.ofNat z.toNat), hcs, by simp at hz ⊢; omega, hl, hm, fun hn => ?_⟩
    simp at hz
    have h0 := hcell 0 (by omega)
    obtain ⟨b, off, spot⟩ := x
    have hspot : spot = none := by simpa [Addr.add] using World.cell?_spot h0
    subst hspot
    refine ⟨b, off, rfl, World.block_lt_of_cell? _ _ (by simpa [Addr.add] using h0), fun j u hu => ?_⟩
    have hj : j < l := by
      have := (List.getElem?_eq_some_iff.1 hu).1
      simp at this
      omega
    have hc := hcell j (by omega)
    rw [addr_add] at hc
    rw [hc]
    have hzj : zs[j]? = some (zs[j]'(by omega)) := by simp
    simp only [List.map_map, List.getElem?_map, List.getElem?_take, if_pos hj, hzj] at hu
    have hw := hwz (zs[j]'(by omega)) (by simp)
    have hr : 0 ≤ zs[j]'(by omega) ∧ zs[j]'(by omega) ≤ 255 := by simpa [Lit.wf, IntKind.min, IntKind.max, IntKind.signed, IntKind.bits] using hw
    simp only [Option.map_some, Option.some.injEq, Function.comp] at hu
    rw [← hu]
    simp only [bv, UInt8.toNat_ofNat']
    rw [List.getD_eq_getElem?_getD, hzj]
    simp
    omega
theorem law_bytes {H : Type} {enc : TypeId × Value → H} {W : World} {base : Nat} {v : Value} {d : DataW H} {ps : List MemPlace} (hv : Value.okWide Try.prog W .any base 22 v)
    (h : DataW.Trod enc Try.prog W 0 (fun _ => true) true 22 v d ps) : ∃ A n cap l, v = .slice A n cap ∧ By W W.heap.size A n cap l := by
  obtain ⟨a0, len, cap, rfl⟩ := okWide_slice Try.underlying22 hv
  obtain ⟨fuel, hf⟩ := h
  obtain ⟨A, n, c, l, hcs, hy⟩ := cells_bytes hf
  simp [Value.cells] at hcs
  obtain ⟨rfl, rfl, rfl⟩ := hcs
  exact ⟨_, _, _, l, rfl, hy⟩
theorem cells_one {w : World} {base : Nat} {a : Addr} {cs : List Value} (h : w.cells? base a 1 = some cs) : ∃ v, cs = [v] ∧ w.cell? a = some v := by
  unfold World.cells? at h
  split at h
  · have h0 : a.add 0 = a := by simp [Addr.add]
    rw [show List.range 1 = [0] from rfl] at h
    simp only [List.mapM_cons, List.mapM_nil, h0] at h
    cases hc : w.cell? a with
    | none => rw [hc] at h; cases h
    | some v => rw [hc] at h; cases h; exact ⟨v, rfl, rfl⟩
  · cases h
theorem law_u8 {x : Int} (w : (Lit.int .u8 x).wf = true) : ∃ b : UInt8, x = (b.toNat : Int) := by
  have hr : 0 ≤ x ∧ x ≤ 255 := by simpa [Lit.wf, IntKind.min, IntKind.max, IntKind.signed, IntKind.bits] using w
  obtain ⟨k, rfl⟩ := Int.eq_ofNat_of_zero_le hr.1
  exact ⟨UInt8.ofNat k, by rw [UInt8.toNat_ofNat']; omega⟩
theorem law_i64 {x : Int} (w : (Lit.int .i64 x).wf = true) : -9223372036854775808 ≤ x ∧ x ≤ 9223372036854775807 := by
  simpa [Lit.wf, IntKind.min, IntKind.max, IntKind.signed, IntKind.bits] using w
theorem law_u32 {x : Int} (w : (Lit.int .u32 x).wf = true) : ∃ b : Nat, x = (b : Int) ∧ b ≤ 4294967295 := by
  have hr : 0 ≤ x ∧ x ≤ 4294967295 := by simpa [Lit.wf, IntKind.min, IntKind.max, IntKind.signed, IntKind.bits] using w
  obtain ⟨k, rfl⟩ := Int.eq_ofNat_of_zero_le hr.1
  exact ⟨k, rfl, by omega⟩
end Go.Proofs.Ytlopeflgleplfaa
