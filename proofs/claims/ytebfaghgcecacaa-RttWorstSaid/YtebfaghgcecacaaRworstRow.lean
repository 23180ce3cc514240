/-
  Law RttWorst: for every input the law returns true, and each argument reads afterwards as before. The row, from the walk.
-/
import Derived.Test.YtebfaghgcecacaaRworst
import Derived.Test.YtebfaghgcecacaaLawp
import Derived.Test.YtebfaghgcecacaaLawf
namespace Go.Proofs.Ytebfaghgcecacaa
open Go.RowKit Go.ChangeShapes Go.WideShapes Go.ChangeAt
set_option maxRecDepth 100000 in
theorem rttWorst_lifted (os : Os) (started : os.Started) (H : Type) (enc : TypeId × Value → H) :
    ReturnsInHanded {} Try.checked os 11 .any (Rows.rttWorstSpec.pre6 enc Try.prog Try.f11 Rows.rttWorstRow.domain false) (Rows.rttWorstSpec.post enc Try.prog Try.f11 false true false false) := by
  refine returnsInHanded_of_change (C := Try.checked) Try.ownKnob started (by kernel_rfl) Try.func11
    (ChangeSpec.witness6 (enc := enc) (C := Try.checked) false ⟨#[], #[.slice none 0 0], []⟩ 8 (by kernel_rfl) (by kernel_rfl) (by kernel_rfl) (by kernel_rfl)) ?_
  intro W base args ds gs before hval0 hW _ _
  have hval : ∀ (j : Nat) t v, Try.f11.params[j]? = some t → args[j]? = some v → Value.okWide Try.prog W .any base t v := hval0
  have hW' := hW
  obtain ⟨p, q, hA0, hV, rfl, _, _⟩ := hW
  have hA : DataW.TrodAll enc Try.prog W 0 (fun _ => true) true Try.f11.params.toList args.toList ds p := hA0
  rw [Try.params11] at hA hval
  obtain ⟨v0, vs0, d0, ds0, p0, q0, hargs, rfl, rfl, h0, r0⟩ := trodAll_cons hA
  obtain ⟨rfl, rfl, rfl⟩ := trodAll_nil r0
  obtain rfl : args = #[v0] := by cases args; simp_all
  obtain ⟨rfl, rfl⟩ := trodVars_none hV
  obtain ⟨A0, n0, c0, l0, rfl, hy0⟩ := law_rtts (hval 0 40 v0 rfl rfl) h0
  clear hA0 hval0
  refine (rworst_walk A0 n0 c0 l0 W hy0).mono fun e W' ⟨he, hb⟩ => ?_
  subst he
  exact ⟨_, rfl, law_post _ rfl Try.underlying4 rfl (by kernel_rfl) hW' rfl hb⟩

theorem rttWorst_over : Rows.rttWorstRow.holds Try.pinned (OpenSpec.ofChange Rows.rttWorstSpec) :=
  OpenClaim.holds_of_wide 11 Try.f11 rfl rfl rfl rfl rfl rfl rfl ⟨rfl, rfl, rfl, rfl, rfl⟩ rfl rfl rfl rfl rfl (by kernel_rfl) Try.func11 (by kernel_rfl)
    (of_decide_eq_true (by kernel_rfl)) (by unfold Func.isWrapper; first | (rw [if_pos (by decide +kernel)]; kernel_rfl) | (rw [if_neg (by decide +kernel)]; exact ⟨rfl, rfl⟩))
    (fun os started H enc _ => rttWorst_lifted os started H enc)

/-- The statement. -/
theorem rttWorst_holds : Rows.RttWorstSaid := rttWorst_over
#print axioms rttWorst_holds
end Go.Proofs.Ytebfaghgcecacaa
