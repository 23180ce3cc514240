/-
  Law ReportExact: for every input the law returns true, and each argument reads afterwards as before, where the listed variables hold what the program's text lays. The row, from the walk; and its card.
-/
import Derived.Test.YtkckncggiicciaaDoorU3
import Derived.Test.YtkckncggiicciaaDoorU4
import Derived.Test.YtkckncggiicciaaDoorTie
import Derived.Test.YtkckncggiicciaaDoorCards
import Derived.SevenTiedAt
namespace Go.Proofs.YtkckncggiicciaaDoor
open Go.RowKit Go.ChangeShapes Go.WideShapes Go.ChangeAt
set_option maxRecDepth 100000 in
theorem reportExact_lifted (os : Os) (started : os.Started) (H : Type) (enc : TypeId × Value → H) :
    ReturnsInHanded {} Tryd.checked os 4 .any (fun w args => (Rows.reportExactSpec.pre enc Tryd.prog Tryd.f4 [] false w args ∧ laidMetH Tryd.prog Rows.reportExactRow.laid w) ∧ sizedMet enc Tryd.prog Tryd.f4 (OpenSpec.ofChange Rows.reportExactSpec) false w args)
      (Rows.reportExactSpec.post enc Tryd.prog Tryd.f4 false true false false) := by
  refine returnsInHanded_of_change_and (C := Tryd.checked) (X := fun w _ => laidMetH Tryd.prog Rows.reportExactRow.laid w) (fun _ _ _ hh h => h.of_heap hh) Tryd.ownKnob started (by kernel_rfl) Tryd.func4
    (ChangeSpec.witness_shaped (enc := enc) (C := Tryd.checked) (os := os) (X := fun w _ => laidMetH Tryd.prog Rows.reportExactRow.laid w) false (World.doorLaid Tryd.prog doorSteps os) #[.slice none 0 0, .agg #[.slice none 0 0, .slice none 0 0]] 8 rfl (World.shaped_of_RefB (by kernel_rfl) (by kernel_rfl)) (by kernel_rfl) (by kernel_rfl) (by kernel_rfl) (door_met os _)) ?_
  intro W base args ds gs before hval0 hW _ hSz hL _
  have hval : ∀ (j : Nat) t v, Tryd.f4.params[j]? = some t → args[j]? = some v → Value.okWide Tryd.prog W .any base t v := hval0
  have hW' := hW
  obtain ⟨p, q, hA0, hV, rfl, _, _⟩ := hW
  have hA : DataW.TrodAll enc Tryd.prog W 0 (fun _ => true) true Tryd.f4.params.toList args.toList ds p := hA0
  rw [Tryd.params4] at hA hval
  obtain ⟨v0, vs0, d0, ds0, p0, q0, hargs, rfl, rfl, h0, r0⟩ := trodAll_cons hA
  obtain ⟨v1, vs1, d1, ds1, p1, q1, rfl, rfl, rfl, h1, r1⟩ := trodAll_cons r0
  obtain ⟨rfl, rfl, rfl⟩ := trodAll_nil r1
  obtain rfl : args = #[v0, v1] := by cases args; simp_all
  obtain ⟨rfl, rfl⟩ := trodVars_none hV
  obtain ⟨A0, n0, c0, l0, rfl, hy0, hl0, ho0⟩ := law_rafts (hval 0 23 v0 rfl rfl) h0 (wok_each hSz (j := 0) (by kernel_rfl) rfl)
  obtain ⟨A1, n1, c1, B1, k1, e1, l1, s1, rfl, m1_0, m1_1, m1_2, m1_3, m1_4, m1_5, m1_6⟩ := law_machine (hval 1 44 v1 rfl rfl) h1 (wok_each hSz (j := 1) (by kernel_rfl) rfl)
  clear hA0 hval0
  have hT := tz_of_laid hL
  refine (exact_walk A0 n0 c0 l0 A1 n1 c1 l1 B1 k1 e1 s1 W hy0 hl0 ho0 m1_0 m1_1 m1_2 m1_3 m1_4 m1_5 m1_6 hT (it_of_laid hL)).mono fun e W' ⟨he, hb⟩ => ?_
  subst he
  exact ⟨_, rfl, law_post _ rfl Tryd.underlying4 rfl (by kernel_rfl) hW' rfl hb⟩

theorem reportExact_row : Rows.ReportExactSaid :=
  OpenClaim.holds_of_wide 4 Tryd.f4 rfl rfl rfl rfl rfl rfl rfl ⟨rfl, rfl, rfl, rfl, rfl⟩ rfl rfl rfl rfl rfl (by kernel_rfl) Tryd.func4 (by kernel_rfl)
    (of_decide_eq_true (by kernel_rfl)) (by unfold Func.isWrapper; first | (rw [if_pos (by decide +kernel)]; kernel_rfl) | (rw [if_neg (by decide +kernel)]; exact ⟨rfl, rfl⟩))
    (fun os started H enc _ => reportExact_lifted os started H enc)

/-- The statement: the tied card. -/
theorem reportExact_holds : Rows.ReportExactCardSaid :=
  Claim7.holds_tied_plain_at .later [] [.data, .data, .data] true (true, "54760166042e10a07103ffea2c31cda3650b70c2368d7a8825d48a27f23dfbc1") true
    reportExact_row (fun _ h => by cases h) (by kernel_rfl) (fun _ h => by cases h) reportExact_row_tie rfl ⟨rfl, rfl⟩ (by kernel_rfl) rfl
    (fun f fn hf hfn => by
      obtain rfl : f = 4 := Option.some.inj ((show Tryd.prog.funcNamed Rows.reportExactRow.func = some 4 by kernel_rfl).symm.trans hf) |>.symm
      obtain rfl : fn = Tryd.f4 := (Option.some.inj (Tryd.func4.symm.trans hfn)).symm
      exact ⟨by kernel_rfl, fun j t ht => by
        rw [Tryd.params4] at ht
        have hm : t ∈ [23, 44] := by simpa using Array.mem_of_getElem? ht
        have hall : ([23, 44].all fun u => !Tryd.prog.wantsStandIn u) = true := by kernel_rfl
        exact (show Tryd.prog.wantsStandIn t = false by simpa using List.all_eq_true.1 hall t hm)⟩)
    (by kernel_rfl)
#print axioms reportExact_holds
end Go.Proofs.YtkckncggiicciaaDoor
