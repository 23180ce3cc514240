/-
  Law ReportLogs: for every input the law returns true, and each argument reads afterwards as before, where the listed variables hold what the program's text lays. The row, from the walk; and its card.
-/
import Derived.Test.YtkckncggiicciaaDoorRlogsw
import Derived.Test.YtkckncggiicciaaDoorLawh
import Derived.Test.YtkckncggiicciaaDoorTie
import Derived.Test.YtkckncggiicciaaDoorCards
import Derived.SevenTiedAt
namespace Go.Proofs.YtkckncggiicciaaDoor
open Go.RowKit Go.ChangeShapes Go.WideShapes Go.ChangeAt
set_option maxRecDepth 100000 in
theorem reportLogs_lifted (os : Os) (started : os.Started) (H : Type) (enc : TypeId × Value → H) :
    ReturnsInHanded {} Tryd.checked os 5 .any (fun w args => (Rows.reportLogsSpec.pre enc Tryd.prog Tryd.f5 [] false w args ∧ laidMetH Tryd.prog Rows.reportLogsRow.laid w) ∧ sizedMet enc Tryd.prog Tryd.f5 (OpenSpec.ofChange Rows.reportLogsSpec) false w args)
      (Rows.reportLogsSpec.post enc Tryd.prog Tryd.f5 false true false false) := by
  refine returnsInHanded_of_change_and (C := Tryd.checked) (X := fun w _ => laidMetH Tryd.prog Rows.reportLogsRow.laid w) (fun _ _ _ hh h => h.of_heap hh) Tryd.ownKnob started (by kernel_rfl) Tryd.func5
    (ChangeSpec.witness_shaped (enc := enc) (C := Tryd.checked) (os := os) (X := fun w _ => laidMetH Tryd.prog Rows.reportLogsRow.laid w) false (World.doorLaid Tryd.prog doorSteps os) #[.agg #[.int .i64 0, .int .i64 0, .int .i64 0, .int .i64 0, .int .i64 0, .int .i64 0, .int .i64 0, .int .i64 0, .slice none 0 0, .slice none 0 0], .agg #[.int .i64 0, .float .f64 0, .string ⟨#[]⟩]] 8 rfl (World.shaped_of_RefB (by kernel_rfl) (by kernel_rfl)) (by kernel_rfl) (by kernel_rfl) (by kernel_rfl) (door_met os _)) ?_
  intro W base args ds gs before hval0 hW _ _ hL _
  have hval : ∀ (j : Nat) t v, Tryd.f5.params[j]? = some t → args[j]? = some v → Value.okWide Tryd.prog W .any base t v := hval0
  have hW' := hW
  obtain ⟨p, q, hA0, hV, rfl, _, _⟩ := hW
  have hA : DataW.TrodAll enc Tryd.prog W 0 (fun _ => true) true Tryd.f5.params.toList args.toList ds p := hA0
  rw [Tryd.params5] at hA hval
  obtain ⟨v0, vs0, d0, ds0, p0, q0, hargs, rfl, rfl, h0, r0⟩ := trodAll_cons hA
  obtain ⟨v1, vs1, d1, ds1, p1, q1, rfl, rfl, rfl, h1, r1⟩ := trodAll_cons r0
  obtain ⟨rfl, rfl, rfl⟩ := trodAll_nil r1
  obtain rfl : args = #[v0, v1] := by cases args; simp_all
  obtain ⟨rfl, rfl⟩ := trodVars_none hV
  obtain ⟨g0, S0, sn0, sc0, A0, m0, c0, es0, rfl, hy0, hl0, hin0, hst0, hb0⟩ := law_hard (hval 0 29 v0 rfl rfl) h0
  obtain ⟨a1, rfl, k1, w1, z1⟩ := law_val (hval 1 56 v1 rfl rfl) h1
  clear hA0 hval0
  have hT := tz_of_laid hL
  refine (logs_walk g0 S0 sn0 sc0 A0 m0 c0 es0 a1 W hy0 hl0 hin0 hst0 hb0 w1 z1 (tz_of_laid hL) (it_of_laid hL)).mono fun e W' ⟨he, hb⟩ => ?_
  subst he
  exact ⟨_, rfl, law_post _ rfl Tryd.underlying4 rfl (by kernel_rfl) hW' rfl hb⟩

theorem reportLogs_row : Rows.ReportLogsSaid :=
  OpenClaim.holds_of_wide 5 Tryd.f5 rfl rfl rfl rfl rfl rfl rfl ⟨rfl, rfl, rfl, rfl, rfl⟩ rfl rfl rfl rfl rfl (by kernel_rfl) Tryd.func5 (by kernel_rfl)
    (of_decide_eq_true (by kernel_rfl)) (by unfold Func.isWrapper; first | (rw [if_pos (by decide +kernel)]; kernel_rfl) | (rw [if_neg (by decide +kernel)]; exact ⟨rfl, rfl⟩))
    (fun os started H enc _ => reportLogs_lifted os started H enc)

/-- The statement: the tied card. -/
theorem reportLogs_holds : Rows.ReportLogsCardSaid :=
  Claim7.holds_tied_plain_at .later [] [.data, .data, .data] true (true, "54760166042e10a07103ffea2c31cda3650b70c2368d7a8825d48a27f23dfbc1") true
    reportLogs_row (fun _ h => by cases h) (by kernel_rfl) (fun _ h => by cases h) reportLogs_row_tie rfl ⟨rfl, rfl⟩ (by kernel_rfl) rfl
    (fun f fn hf hfn => by
      obtain rfl : f = 5 := Option.some.inj ((show Tryd.prog.funcNamed Rows.reportLogsRow.func = some 5 by kernel_rfl).symm.trans hf) |>.symm
      obtain rfl : fn = Tryd.f5 := (Option.some.inj (Tryd.func5.symm.trans hfn)).symm
      exact ⟨by kernel_rfl, fun j t ht => by
        rw [Tryd.params5] at ht
        have hm : t ∈ [29, 56] := by simpa using Array.mem_of_getElem? ht
        have hall : ([29, 56].all fun u => !Tryd.prog.wantsStandIn u) = true := by kernel_rfl
        exact (show Tryd.prog.wantsStandIn t = false by simpa using List.all_eq_true.1 hall t hm)⟩)
    (by kernel_rfl)
#print axioms reportLogs_holds
end Go.Proofs.YtkckncggiicciaaDoor
