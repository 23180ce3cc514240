/-
  The walks of the page's estimates, doubts, who is silent, who is doubted most.
-/
import Derived.Test.YtebfaghgcecacaaRefn
namespace Go.Proofs.Ytebfaghgcecacaa
open Go.RowKit
theorem eq_self' (x : Nat) : (FloatKind.f64.format.order x x == some Ordering.eq) = !isNan x := by
  rw [cmp_eq]
  cases isNan x <;> simp
set_option maxHeartbeats 1600000 in
theorem RefRtt_any (m v : Nat) (w : World) (hm : m < 18446744073709551616) (hv : v < 18446744073709551616) :
    Calls Try.prog 21 #[.agg #[.float .f64 m, .float .f64 v]] w fun e w' => e = .returned (.bool (chk m v)) ∧ Below w.heap.size w w' := by
  unfold chk
  have nem := cmp_ne_self m
  have nev := cmp_ne_self v
  cases nm : isNan m
  case' true => have rm := not_right nm
  case' false => cases rm : rightB m
  all_goals cases nv : isNan v
  case' true.true | false.false.true | false.true.true => have rv := not_right nv
  case' true.false | false.false.false | false.true.false => cases rv : rightB v
  all_goals
    rw [nm] at nem
    rw [nv] at nev
    simp only [rm, rv, Bool.and_true, Bool.and_false, Bool.or_true, Bool.or_false]
    clear nm nv
    go_enter Try.func21, Try.ntmps21
    go_wp2_with (go_at_call 43; refine (plus_any _ _ (by assumption)).mono ?_; rintro e w1 ⟨rfl, rfl⟩)
    go_ret
    exact ⟨rfl, (Below.refl _ _).alloc (Nat.le_refl _) _⟩
set_option maxHeartbeats 400000 in
theorem Refknown_any (m v : Nat) (w : World) : Calls Try.prog 45 #[.agg #[.float .f64 m, .float .f64 v]] w fun e w' => e = .returned (.bool (!isNan m)) ∧ Below w.heap.size w w' := by
  go_enter Try.func45, Try.ntmps45
  go_wp2_with fail
  go_ret
  exact ⟨ret_bool (eq_self' m), (Below.refl _ _).alloc (Nat.le_refl _) _⟩
set_option maxHeartbeats 400000 in
theorem Refinf_any (w : World) : Calls Try.prog 44 #[] w fun e w' => e = .returned (.float .f64 9218868437227405312) ∧ w = w' := by
  go_enter Try.func44, Try.ntmps44
  go_wp2_with (refine (Inf_any _).mono ?_; rintro e w1 ⟨rfl, rfl⟩)
  go_ret
  exact ⟨rfl, rfl⟩
set_option maxHeartbeats 3200000 in
theorem RefDoubt_any (s : Int) (m v : Nat) (w : World) (hs : -9223372036854775808 ≤ s ∧ s ≤ 9223372036854775807) (hm : m < 18446744073709551616) (hv : v < 18446744073709551616) (hc : chk m v = true) :
    Calls Try.prog 23 #[.int .i64 s, .agg #[.float .f64 m, .float .f64 v]] w fun e w' => e = .returned (.float .f64 (doubt s m v)) ∧ Below w.heap.size w w' := by
  have Hc := Lib.hid hc
  clear hc
  by_cases h0 : s ≤ 0
  · have HD : Hid (doubt s m v = 0) := by unfold Hid doubt; rw [if_pos h0]
    rw [HD.out]
    go_enter Try.func23, Try.ntmps23
    go_wp2_with fail
    go_ret
    exact ⟨rfl, (Below.refl _ _).alloc (Nat.le_refl _) _⟩
  by_cases h12 : 12 ≤ s
  · have HD : Hid (doubt s m v = 9218868437227405312) := by unfold Hid doubt; rw [if_neg h0, if_pos h12]
    rw [HD.out]
    go_enter Try.func23, Try.ntmps23
    go_wp2_with (refine (Refinf_any _).mono ?_; rintro e w2 ⟨rfl, rfl⟩)
    go_ret
    exact ⟨rfl, (Below.refl _ _).alloc (Nat.le_refl _) _⟩
  obtain ⟨n, rfl⟩ := Int.eq_ofNat_of_zero_le (show 0 ≤ s by omega)
  have hfs := fi_eq n
  have hfn : fi n < 9218868437227405312 := by have := fi_bd (n := n) (by omega); omega
  cases nm : isNan m
  · have hr : rightB m = true ∧ rightB v = true := by
      have := Hc.out
      unfold chk at this
      rw [nm] at this
      simpa using this
    have hmle := right_le hr.1 hm
    have hvle := right_le hr.2 hv
    obtain ⟨u, k1, k2, k3, k4, k5⟩ := usual_eq hmle hvle
    have hd := div_right hfn k4 k5
    have HD : Hid (doubt n m v = dv (fi n) (usual m v)) := by
      unfold Hid doubt
      rw [if_neg h0, if_neg h12, nm, Int.toNat_natCast]
      rfl
    have hnn := cmp_ne_self (dv (fi n) (usual m v))
    rw [(right_sg (right_small (dv_le _ _))).1] at hnn
    have q1 := fun w => run_float_arith (P := Try.prog) w .add 22 .f64 m v u k1
    have q2 := fun w => run_float_arith (P := Try.prog) w .add 22 .f64 u 4607182418800017408 _ k3
    have q3 := fun w => run_float_arith (P := Try.prog) w .quo 22 .f64 (fi n) (usual m v) _ hd
    obtain ⟨D, hD⟩ : ∃ D, dv (fi n) (usual m v) = D := ⟨_, rfl⟩
    rw [hD] at q3 HD hnn
    rw [HD.out]
    clear hD hd k1 k3 k2 k4 k5 hr hmle hvle hfn
    go_enter Try.func23, Try.ntmps23
    go_wp2_with fail
    refine (Refknown_any _ _ _).mono ?_
    rintro e w1 ⟨rfl, hb1⟩
    obtain ⟨hcc, hff⟩ := bcell hb1
    go_wp2_with fail
    go_ret
    exact ⟨rfl, ((Below.refl _ _).alloc (Nat.le_refl _) _).trans (hb1.mono (by simp))⟩
  · have hd := div_right hfn (show 4622945017495814144 ≤ 9218868437227405312 by omega) (by omega)
    have HD : Hid (doubt n m v = dv (fi n) 4622945017495814144) := by
      unfold Hid doubt
      rw [if_neg h0, if_neg h12, nm, Int.toNat_natCast]
      rfl
    have q3 := fun w => run_float_arith (P := Try.prog) w .quo 22 .f64 (fi n) 4622945017495814144 _ hd
    obtain ⟨D, hD⟩ : ∃ D, dv (fi n) 4622945017495814144 = D := ⟨_, rfl⟩
    rw [hD] at q3 HD
    rw [HD.out]
    clear hD hd hfn
    go_enter Try.func23, Try.ntmps23
    go_wp2_with fail
    refine (Refknown_any _ _ _).mono ?_
    rintro e w1 ⟨rfl, hb1⟩
    go_wp2_with fail
    go_ret
    exact ⟨rfl, ((Below.refl _ _).alloc (Nat.le_refl _) _).trans (hb1.mono (by simp))⟩
theorem rtt_one (a b : Nat) : (#[.float .f64 a, .float .f64 b] : Array Value).all (·.oneCell') = true := by simp [Value.oneCell']
theorem size2 : (Try.prog.info? 24).map (·.size) = some 2 := by kernel_rfl
set_option maxHeartbeats 800000 in
theorem of_any (A : Option Addr) (n cap B k : Nat) (l : List (Nat × Nat)) (w : World) (hy : RdRtts w B A n cap l) (hB : B ≤ w.heap.size) :
    Calls Try.prog 48 #[.slice A n cap, .int .i64 k] w fun e w' => e = .returned (.agg #[.float .f64 (est l k).1, .float .f64 (est l k).2]) ∧ Below w.heap.size w w' := by
  have hn := hy.n_le
  have hst := run_store_float
  by_cases hkn : k < n
  · obtain ⟨b, off, m, v, rfl, hbB, hm, hv, c1, c2, Hst⟩ := hy.step hkn
    have e1 : est l k = (m, v) := by unfold est; rw [List.getD_eq_getElem?_getD, Hst.out.1]; rfl
    rw [e1]
    clear e1
    have hbz : b < w.heap.size := by omega
    go_enter Try.func48, Try.ntmps48
    go_wp2_with fail
    exact bodyPost_ret (v := .agg #[.float .f64 m, .float .f64 v]) (by simp [results, Try.results48, go_sem]) rfl ⟨rfl, (Below.refl _ _).alloc (Nat.le_refl _) _⟩
  · have e1 : est l k = (9221120237041090561, 9221120237041090561) := by unfold est; rw [List.getD_eq_getElem?_getD, List.getElem?_eq_none (by have := hy.1; omega)]; rfl
    rw [e1]
    clear e1
    go_enter Try.func48, Try.ntmps48
    go_wp2_with fail
    refine (RefNew_any _).mono ?_
    rintro e w1 ⟨rfl, hb1⟩
    have hx : Hid (w1.heap[w.heap.size]? = some (.cells #[.float .f64 0, .float .f64 0] 24 (0, 0))) := by
      unfold Hid
      rw [hb1.block _ (by simp)]
      exact heap_alloc_new w _
    go_wp2_with (refine wpList_store_row rfl 24 (.tmp 4) (.tmp 13) rfl w.heap.size #[.float .f64 9221120237041090561, .float .f64 9221120237041090561] rfl rfl 24 _ hx.out size2 rfl (rtt_one _ _) ?_)
    refine bodyPost_ret (v := .agg #[.float .f64 9221120237041090561, .float .f64 9221120237041090561]) ?_ ?_ ?_
    rotate_left
    · rfl
    · exact ⟨rfl, below_setRow (((Below.refl _ _).alloc (Nat.le_refl _) _).trans (hb1.mono (by simp))) (Nat.le_refl _) _⟩
    exact results_cell_row rfl _ _ w.heap.size 24 #[.float .f64 9221120237041090561, .float .f64 9221120237041090561] (0, 0) _ rfl (setRow_heap _ _ _ _ _ _ hx.out) Try.underlying24 rfl size2
set_option maxHeartbeats 800000 in
theorem all_any (A : Option Addr) (n cap B : Nat) (l : List (Nat × Nat)) (w : World) (hy : RdRtts w B A n cap l) (hB : B ≤ w.heap.size) :
    Calls Try.prog 46 #[.slice A n cap] w fun e w' => e = .returned (.bool (allR l)) ∧ Below w.heap.size w w' := by
  have hn := hy.n_le
  go_enter Try.func46, Try.ntmps46
  go_wp2_with fail
  go_loopg [3] n (fun g s3 wr => ∃ i : Nat, i + g = n ∧ s3 = .int .i64 i ∧ allR (l.take i) = true ∧ Below w.heap.size w wr)
  case atStart => exact ⟨0, by omega, rfl, rfl, Below.refl _ _⟩
  case round =>
    obtain ⟨i, hig, rfl, hall, hb⟩ := hrel
    have hin : i ≤ n := by omega
    have Hig := Lib.hid hig
    have Hall := Lib.hid hall
    clear hig hall
    by_cases hlt : i < n
    · obtain ⟨b, off, m, v, rfl, hbB, hm, hv, c1, c2, Hst⟩ := (hy.below hb hB).step hlt
      have Hck : Hid (∀ W, Calls Try.prog 21 #[.agg #[.float .f64 m, .float .f64 v]] W fun e w' => e = .returned (.bool (chk m v)) ∧ Below W.heap.size W w') := fun W => RefRtt_any m v W hm hv
      cases hc : chk m v
      · rw [hc] at Hck
        have Hno : Hid (allR l = false) := allR_take (k := i + 1) (by rw [Hst.out.2, allR_snoc, hc, Bool.and_false])
        clear hc
        go_wp2_with fail
        refine (Hck.out _).mono ?_
        rintro e w4 ⟨rfl, hb4⟩
        go_wp2_with fail
        go_ret
        exact ⟨ret_bool Hno.out.symm, hb.trans (hb4.mono hb.size)⟩
      · rw [hc] at Hck
        have Hok : Hid (allR (l.take (i + 1)) = true) := by unfold Hid; rw [Hst.out.2, allR_snoc, hc, Hall.out]; rfl
        clear hc
        go_wp2_with fail
        refine (Hck.out _).mono ?_
        rintro e w4 ⟨rfl, hb4⟩
        go_wp2_with fail
        go_roundg (gk - 1)
        case rel => exact ⟨i + 1, by have := Hig.out; omega, by go_num, Hok.out, hb.trans (hb4.mono hb.size)⟩
        case measure => have := Hig.out; omega
    · have Hall2 : Hid (allR l = true) := by
        have := Hall.out
        rwa [List.take_of_length_le (by have := hy.1; omega)] at this
      go_wp2_with fail
      go_ret
      exact ⟨ret_bool Hall2.out.symm, hb⟩
end Go.Proofs.Ytebfaghgcecacaa
