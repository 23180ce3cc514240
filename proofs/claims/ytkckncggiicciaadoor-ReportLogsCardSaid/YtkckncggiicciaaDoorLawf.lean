/-
  From a law's walk to its row: what was there reads as it did. And: how arguments come in.
-/
import Derived.Test.YtkckncggiicciaaDoorRows
import Derived.Test.YtkckncggiicciaaDoorMemg
import Derived.ProofKit
import Derived.OpenShut
import Derived.Laws.FloatArith
namespace Go.Proofs.YtkckncggiicciaaDoor
open Go.RowKit Go.ChangeShapes Go.WideShapes Go.ChangeAt
set_option maxRecDepth 100000
theorem Tryd.ownKnob : ownKnob Tryd.prog.godebug = none := by kernel_rfl
theorem Tryd.laidOut : laidOutB Tryd.prog = true := by kernel_rfl
theorem law_args {H : Type} {enc : TypeId × Value → H} {P : Program} (hl : laidOutB P = true) {W W' : World} (hb : Below W.heap.size W W') :
    ∀ {ts : List TypeId} {vs : List Value} {ds : List (DataW H)} {ps : List MemPlace}, (∀ t ∈ ts, P.readableRec t = true ∧ t < P.types.size) →
      DataW.TrodAll enc P W 0 (fun _ => true) true ts vs ds ps → (∀ x ∈ ps, x.block < W.heap.size) → DataW.TrodAll enc P W' 0 (fun b => decide (b < W.heap.size)) true ts vs ds ps
  | [], vs, ds, ps, _, h, _ => by
    obtain ⟨rfl, rfl, rfl⟩ := trodAll_nil h
    exact trodAll_mk0
  | t :: ts, vs, ds, ps, ht, h, hlt => by
    obtain ⟨v, vs', d, ds', p, q, rfl, rfl, rfl, h0, hs⟩ := trodAll_cons h
    exact trodAll_cons_mk (Below.trod hl (ht t (by simp)).1 (ht t (by simp)).2 h0 hb (fun x hx => hlt x (by simp [hx])))
      (law_args hl hb (fun x hx => ht x (by simp [hx])) hs (fun x hx => hlt x (by simp [hx])))
/-- A LAW's ROW's LAST STEP: it has returned true, and nothing that was there has turned. -/
theorem law_post {H : Type} {enc : TypeId × Value → H} {f : Func} {s : ChangeSpec} {W W' : World} {args : Array Value} {ds gs : List (DataW H)} {before : List MemPlace} (tb : TypeId)
    (hres : f.resultTypes = #[tb]) (hbool : Tryd.prog.underlying tb = some .bool) (hvars : s.vars = []) (hts : f.params.toList.all (fun t => Tryd.prog.readableRec t && decide (t < Tryd.prog.types.size)) = true)
    (hW : DataW.Whole enc Tryd.prog f.params.toList s.vars false W args.toList ds gs before)
    (hfn : s.fn H (ds ++ gs) = { results := [.lit (.bool true)], args := ds }) (hb : Below W.heap.size W W') :
    s.post enc Tryd.prog f false true false false W args (.bool true) W' := by
  have hlt : ∀ p ∈ before, p.block < W.heap.size := fun p hp => hW.lt p hp
  have hW0 := hW
  obtain ⟨p, q, hA, hV, rfl, _, _⟩ := hW
  rw [hvars] at hV
  obtain ⟨rfl, rfl⟩ := trodVars_none hV
  have hts' : ∀ t ∈ f.params.toList, Tryd.prog.readableRec t = true ∧ t < Tryd.prog.types.size := fun t ht => by
    have := (List.all_eq_true.1 hts) t ht
    simpa using this
  refine ⟨ds, [], p ++ [], [], p, [], hW0, ?_, ?_, ?_, hb.frame _ |> World.keptBut_mono (fun _ h => h), fun h => by cases h⟩
  · rw [hfn, hres]
    exact trodAll_mk1 (shut_bool hbool true)
  · rw [hfn]
    exact law_args Tryd.laidOut hb hts' hA (fun x hx => hlt x (by simp [hx]))
  · rw [hfn, hvars]
    rfl
theorem cells_one {w : World} {base : Nat} {a : Addr} {cs : List Value} (h : w.cells? base a 1 = some cs) : ∃ v, cs = [v] ∧ w.cell? a = some v := by
  unfold World.cells? at h
  split at h
  · have h0 : a.add 0 = a := by simp [Addr.add]
    rw [show List.range 1 = [0] from rfl] at h
    simp only [List.mapM_cons, List.mapM_nil, h0] at h
    cases hc : w.cell? a with
    | none => rw [hc] at h; cases h
    | some v => rw [hc] at h; cases h; exact ⟨v, rfl, rfl⟩
  · cases h
theorem law_i64 {x : Int} (w : (Lit.int .i64 x).wf = true) : -9223372036854775808 ≤ x ∧ x ≤ 9223372036854775807 := by
  simpa [Lit.wf, IntKind.min, IntKind.max, IntKind.signed, IntKind.bits] using w
/-- A float's cell. -/
theorem trod_float {H : Type} {enc : TypeId × Value → H} {W : World} {base : Nat} {spare : Nat → Bool} {held : Bool} {fuel : Nat} {cs : List Value} {x : DataW H × List MemPlace} (h : DataW.trod enc Tryd.prog W base spare held fuel 35 cs = some x) :
    ∃ b, cs = [.float .f64 b] ∧ b < 18446744073709551616 := by
  cases fuel with
  | zero => simp [DataW.trod] at h
  | succ n =>
    simp only [DataW.trod, Tryd.underlying35] at h
    match cs, h with
    | [.float k b], h =>
      cases k
      · simp at h
      · refine ⟨b, rfl, ?_⟩
        by_cases hw : (Lit.float .f64 b).wf = true
        · simpa [Lit.wf] using hw
        · simp [hw] at h
theorem law_float {H : Type} {enc : TypeId × Value → H} {W : World} {base : Nat} {v : Value} {d : DataW H} {ps : List MemPlace} (hv : Value.okWide Tryd.prog W .any base 35 v)
    (h : DataW.Trod enc Tryd.prog W 0 (fun _ => true) true 35 v d ps) : ∃ b, v = .float .f64 b ∧ b < 18446744073709551616 := by
  obtain ⟨b, rfl⟩ := okWide_float Tryd.underlying35 hv
  obtain ⟨fuel, hf⟩ := h
  obtain ⟨b', e, hb⟩ := trod_float hf
  simp [Value.cells] at e
  subst e
  exact ⟨_, rfl, hb⟩
end Go.Proofs.YtkckncggiicciaaDoor
