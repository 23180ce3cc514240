/-
  Joined texts, part 4: the lemmas and walks that the row stands on.
-/
import Derived.Test.YtkckncggiicciaaDoorV3
import Derived.Test.YtkckncggiicciaaDoorV2
import Derived.StillTailTactics
/-
  ReportPairs: the walk of ref05.Pairs on right pairs; written by genpq.py.
-/
namespace Go.Proofs.YtkckncggiicciaaDoor
open Go.RowKit
set_option maxRecDepth 100000
theorem wpList_load_midH {P : Program} {ops : Array Oper} {rest : List Oper} {op : Oper} {a : Act} {w : World} {Q : Exit → Act → World → Prop} (hw : Region.wanted op (yielded ops a.tmps) = true) (ty : TypeId) (x : Operand) (ho : op.op = .load ty x)
    (b o : Nat) (hx : a.eval x = .pointer (some ⟨b, o, none⟩)) (cs : List Value) (d : TypeDesc) (hc : w.rangeAt b o cs)
    (hu : P.underlying ty = some d) (hd : d.isRow = true) (hi : (P.info? ty).map (·.size) = some cs.length)
    (h : wpList P ops Q rest (a.put op.dst (.agg cs.toArray)) w) : wpList P ops Q (op :: rest) a w :=
  wpList_step fun K hK => by
    rw [if_pos hw]
    exact Go.wp_load_mid ty x ho b o hx cs d hc hu hd hi (hK _ _ h)
theorem right_at {ps : List (ByteArray × Va)} (h : RightP ps) {i j : Nat} (hi : i < ps.length) (hj : j < ps.length) (hij : j + 1 = i) : Op.bytesLess (ps.getD j p0).1.toList (ps.getD i p0).1.toList = true := by
  have hs := List.pairwise_iff_getElem.1 h.sorted j i hj hi (by omega)
  unfold ltK at hs
  rw [List.getD_eq_getElem?_getD, List.getD_eq_getElem?_getD, List.getElem?_eq_getElem hi, List.getElem?_eq_getElem hj]
  exact hs
set_option maxHeartbeats 12800000 in
theorem RPairsOk_any (A : Option Addr) (n c : Nat) (ps : List (ByteArray × Va)) (w : World) (hy : PrRows w w.heap.size A n c ps) (hl : ps.length = n) (hR : RightP ps) :
    Calls Tryd.prog 97 #[.slice A n c] w fun e w' => e = .returned (.bool true) ∧ Below w.heap.size w w' := by
  have hcap : n ≤ c := hy.2.1
  have h32 : n ≤ 32 := by rw [← hl]; exact hR.few
  have HE : Hid (∀ i, i < n → ∃ b off p, A = some ⟨b, off, none⟩ ∧ b < w.heap.size ∧ ps.getD i p0 = p ∧ PairOk p ∧ w.rangeAt b (off + i * 4) (prC p)) := fun i hi => by
    obtain ⟨b, off, p, q1, q2, q3, q4, q5⟩ := pr_row hy hl hi
    exact ⟨b, off, p, q1, q2, q3, hR.each p q4, q5⟩
  have HL : Hid (∀ i j, i < n → j + 1 = i → Op.bytesLess (ps.getD j p0).1.toList (ps.getD i p0).1.toList = true) := fun i j hi hij => right_at hR (by omega) (by omega) hij
  clear hy hl hR
  go_enter Tryd.func97, Tryd.ntmps97
  go_wp2_with fail
  go_loopg [2, 3] n (fun g s2 s3 wr => ∃ i : Nat, i + g = n ∧ s3 = .int .i64 i ∧ Below w.heap.size w wr)
  case atStart => exact ⟨0, by omega, rfl, Below.refl _ _⟩
  case round =>
    obtain ⟨i, hig, rfl, hbr⟩ := hrel
    have Hig := Lib.hid hig
    have hin : i ≤ n := by omega
    clear hig
    by_cases hlt : i < n
    · obtain ⟨b, off, p, rfl, hb, hge, hpk, hrg⟩ := HE.out i hlt
      have HC : Hid (∀ w', Below wr.heap.size wr w' → w'.cell? ⟨b, off + i * 4, none⟩ = some (.string p.1) ∧ w'.cell? ⟨b, off + i * 4 + 1, none⟩ = some (.int .i64 p.2.k) ∧ w'.rangeAt b (off + i * 4 + 1) [.int .i64 p.2.k, .float .f64 p.2.x, .string p.2.s]) := fun w' hb' => by
        have hbw := bstep hbr hb'
        have q := range_below hrg hbw hb
        obtain ⟨q1, q2⟩ := fpair_range q
        exact ⟨q1, q 1 _ rfl, q2⟩
      have hVl : Hid (∀ w', Calls Tryd.prog 25 #[.agg #[.int .i64 p.2.k, .float .f64 p.2.x, .string p.2.s]] w' fun e w'' => e = .returned (.int .i64 0) ∧ Below w'.heap.size w' w'') := fun w' => by
        have := RCheck_any p.2 w' hpk.num (by have := (chk_sz hpk.chk).2; unfold maxLen; omega)
        rw [hpk.chk] at this
        exact this
      have Hpr : Hid (∀ j, j + 1 = i → ∃ key2, (∀ w', Below wr.heap.size wr w' → w'.cell? ⟨b, off + j * 4, none⟩ = some (.string key2)) ∧ Op.bytesLess key2.toList p.1.toList = true) := fun j hj => by
        obtain ⟨b2, off2, p2, he, hb2, hge2, _, hrg2⟩ := HE.out j (by omega)
        injection he with he
        injection he with e1 e2 _
        subst e1 e2
        refine ⟨p2.1, fun w' hb' => (fpair_range (range_below hrg2 (bstep hbr hb') hb)).1, ?_⟩
        have := HL.out i j hlt hj
        rw [hge, hge2] at this
        exact this
      have h1 := hpk.lo
      have h8 := hpk.hi
      have hk := hpk.kind
      obtain ⟨key, ⟨vk, vx, vs⟩⟩ := p
      dsimp only at *
      have g0 : (vk == 0) = false := by simpa using hk
      have i0 : (0 : Int) ≤ (i : Int) := by omega
      have i1 : (i : Int) < (n : Int) := by omega
      clear hrg hge hpk hk HE HL
      rcases Nat.eq_zero_or_pos i with hz | hz
      · have hzd : decide ((i : Int) > 0) = false := by simp; omega
        have hzd2 : decide ((0 : Int) < (i : Int)) = false := by simp; omega
        have hzd3 : decide (0 < i) = false := by simp; omega
        clear Hpr hz
        go_wp2_with fail
        with_reducible refine wp_region_told (by kernel_rfl) (by kernel_rfl) [.val (.slice (some ⟨b, off, none⟩) n c),
      .val (.int .i64 (i : Int)),
      .val (.pointer (some ⟨b, off + i * 4, none⟩)),
      .val (.pointer (some ⟨b, off + i * 4, none⟩)),
      .val (.string key),
      .val (.int .i64 (key.size : Int)),
      .val (.bool false),
      .val (.bool false),
      .val (.slice (some ⟨b, off, none⟩) n c),
      .val (.int .i64 (i : Int)),
      .val (.pointer (some ⟨b, off + i * 4, none⟩)),
      .val (.pointer (some ⟨b, off + i * 4, none⟩)),
      .val (.string key),
      .val (.int .i64 (key.size : Int)),
      .val (.bool false),
      .val (.bool false),
      .val (.bool false),
      .val (.slice (some ⟨b, off, none⟩) n c),
      .val (.int .i64 (i : Int)),
      .val (.pointer (some ⟨b, off + i * 4, none⟩)),
      .val (.pointer (some ⟨b, off + i * 4 + 1, none⟩)),
      .val (.pointer (some ⟨b, off + i * 4 + 1, none⟩)),
      .val (.int .i64 vk),
      .val (.bool false),
      .val (.bool false),
      .val (.bool false),
      .val (.slice (some ⟨b, off, none⟩) n c),
      .val (.int .i64 (i : Int)),
      .val (.pointer (some ⟨b, off + i * 4, none⟩)),
      .val (.pointer (some ⟨b, off + i * 4 + 1, none⟩)),
      .val (.agg #[.int .i64 vk, .float .f64 vx, .string vs]),
      .val (.int .i64 0),
      .val (.bool false),
      .val (.bool false),
      .val (.bool false),
      .val (.int .i64 (i : Int)),
      .val (.bool false),
      .val (.bool false),
      .any,
      .any,
      .any,
      .any,
      .any,
      .any,
      .any,
      .any,
      .any,
      .any,
      .any,
      .any,
      .val (.bool false),
      .val (.bool false)] ?mk0 (fun f => ?hmk0) ?f00 ?h00 ?hput0 ?hstep0 ?hend0
        case hmk0 =>
          simp only [putOps, Act.put, List.setIfInBounds_toArray, List.set_cons_succ, List.set_cons_zero, Nat.zero_add, Nat.reduceAdd]
          rfl
        case f00 => exact fun k => ([u10, u11, u12, u13, u14, u15, u16, u17, u18, u19, u20, u21, u22, u23, u24, u25, u26, u27, u28, u29, u30, u31, u32, u33, u34, u35, u36, u37, u38, u39, u40, u41, u42, u43, u44, u45, u46, u47, u48, u49, u50, u51, u52, u53, u54, u55, u56, u57, u58, u59, u60, u61] : List Value).getD k undef
        case h00 => exact rfl
        case hput0 =>
          repeat (refine ⟨fun f v => rfl, ?_⟩)
          exact trivial
        case hstep0 =>
          refine ⟨fun f w1 hb1 hd => ?_, ?_⟩
          · clear hd
            go_wp2_with fail
            exact ⟨_, by first | rfl | simp only [Act.put, List.setIfInBounds_toArray, List.set_cons_succ, List.set_cons_zero], Below.refl _ _, rfl⟩
          refine ⟨fun f w1 hb1 hd => ?_, ?_⟩
          · clear hd
            go_wp2_with fail
            exact ⟨_, by first | rfl | simp only [Act.put, List.setIfInBounds_toArray, List.set_cons_succ, List.set_cons_zero], Below.refl _ _, rfl⟩
          refine ⟨fun f w1 hb1 hd => ?_, ?_⟩
          · obtain ⟨d0, d1, -⟩ := hd
            have q0 : f 0 = .slice (some ⟨b, off, none⟩) n c := d0
            have q1 : f 1 = .int .i64 (i : Int) := d1
            clear d0 d1
            go_wp2_with fail
            exact ⟨_, by first | rfl | simp only [q0, q1, Act.put, List.setIfInBounds_toArray, List.set_cons_succ, List.set_cons_zero], Below.refl _ _, rfl⟩
          refine ⟨fun f w1 hb1 hd => ?_, ?_⟩
          · obtain ⟨d0, -⟩ := hd
            have q2 : f 2 = .pointer (some ⟨b, off + i * 4, none⟩) := d0
            clear d0
            go_wp2_with fail
            exact ⟨_, by first | rfl | simp only [q2, Act.put, List.setIfInBounds_toArray, List.set_cons_succ, List.set_cons_zero], Below.refl _ _, rfl⟩
          refine ⟨fun f w1 hb1 hd => ?_, ?_⟩
          · obtain ⟨d0, -⟩ := hd
            have q3 : f 3 = .pointer (some ⟨b, off + i * 4, none⟩) := d0
            clear d0
            obtain ⟨y0, y1, y2⟩ := HC.out w1 hb1
            have Y2 := Lib.hid y2
            clear y2
            go_wp2_with fail
            exact ⟨_, by first | rfl | simp only [q3, Act.put, List.setIfInBounds_toArray, List.set_cons_succ, List.set_cons_zero], Below.refl _ _, rfl⟩
          refine ⟨fun f w1 hb1 hd => ?_, ?_⟩
          · obtain ⟨d0, -⟩ := hd
            have q4 : f 4 = .string key := d0
            clear d0
            go_wp2_with fail
            exact ⟨_, by first | rfl | simp only [q4, Act.put, List.setIfInBounds_toArray, List.set_cons_succ, List.set_cons_zero], Below.refl _ _, rfl⟩
          refine ⟨fun f w1 hb1 hd => ?_, ?_⟩
          · obtain ⟨d0, -⟩ := hd
            have q5 : f 5 = .int .i64 (key.size : Int) := d0
            clear d0
            go_wp2_with fail
            refine ⟨_, by first | rfl | simp only [q5, Act.put, List.setIfInBounds_toArray, List.set_cons_succ, List.set_cons_zero], Below.refl _ _, ?_⟩
            exact sp_bool (by first | assumption | (simp <;> omega))
          refine ⟨fun f w1 hb1 hd => ?_, ?_⟩
          · obtain ⟨d0, -⟩ := hd
            have q6 : f 6 = .bool false := d0
            clear d0
            go_wp2_with fail
            exact ⟨_, by first | rfl | simp only [q6, Act.put, List.setIfInBounds_toArray, List.set_cons_succ, List.set_cons_zero], Below.refl _ _, rfl⟩
          refine ⟨fun f w1 hb1 hd => ?_, ?_⟩
          · obtain ⟨d0, -⟩ := hd
            have q7 : f 7 = .bool false := d0
            clear d0
            go_wp2_with fail
            exact ⟨_, by first | rfl | simp only [q7, Act.put, List.setIfInBounds_toArray, List.set_cons_succ, List.set_cons_zero], Below.refl _ _, rfl⟩
          refine ⟨fun f w1 hb1 hd => ?_, ?_⟩
          · obtain ⟨d0, -⟩ := hd
            have q7 : f 7 = .bool false := d0
            clear d0
            go_wp2_with fail
            exact ⟨_, by first | rfl | simp only [q7, Act.put, List.setIfInBounds_toArray, List.set_cons_succ, List.set_cons_zero], Below.refl _ _, rfl⟩
          refine ⟨fun f w1 hb1 hd => ?_, ?_⟩
          · obtain ⟨d0, d1, d2, -⟩ := hd
            have q8 : f 8 = .slice (some ⟨b, off, none⟩) n c := d0
            have q9 : f 9 = .int .i64 (i : Int) := d1
            have q7 : f 7 = .bool false := d2
            clear d0 d1 d2
            go_wp2_with fail
            exact ⟨_, by first | rfl | simp only [q7, q8, q9, Act.put, List.setIfInBounds_toArray, List.set_cons_succ, List.set_cons_zero], Below.refl _ _, rfl⟩
          refine ⟨fun f w1 hb1 hd => ?_, ?_⟩
          · obtain ⟨d0, d1, -⟩ := hd
            have q10 : f 10 = .pointer (some ⟨b, off + i * 4, none⟩) := d0
            have q7 : f 7 = .bool false := d1
            clear d0 d1
            go_wp2_with fail
            exact ⟨_, by first | rfl | simp only [q7, q10, Act.put, List.setIfInBounds_toArray, List.set_cons_succ, List.set_cons_zero], Below.refl _ _, rfl⟩
          refine ⟨fun f w1 hb1 hd => ?_, ?_⟩
          · obtain ⟨d0, d1, -⟩ := hd
            have q11 : f 11 = .pointer (some ⟨b, off + i * 4, none⟩) := d0
            have q7 : f 7 = .bool false := d1
            clear d0 d1
            obtain ⟨y0, y1, y2⟩ := HC.out w1 hb1
            have Y2 := Lib.hid y2
            clear y2
            go_wp2_with fail
            exact ⟨_, by first | rfl | simp only [q7, q11, Act.put, List.setIfInBounds_toArray, List.set_cons_succ, List.set_cons_zero], Below.refl _ _, rfl⟩
          refine ⟨fun f w1 hb1 hd => ?_, ?_⟩
          · obtain ⟨d0, d1, -⟩ := hd
            have q12 : f 12 = .string key := d0
            have q7 : f 7 = .bool false := d1
            clear d0 d1
            go_wp2_with fail
            exact ⟨_, by first | rfl | simp only [q7, q12, Act.put, List.setIfInBounds_toArray, List.set_cons_succ, List.set_cons_zero], Below.refl _ _, rfl⟩
          refine ⟨fun f w1 hb1 hd => ?_, ?_⟩
          · obtain ⟨d0, d1, -⟩ := hd
            have q13 : f 13 = .int .i64 (key.size : Int) := d0
            have q7 : f 7 = .bool false := d1
            clear d0 d1
            go_wp2_with fail
            refine ⟨_, by first | rfl | simp only [q7, q13, Act.put, List.setIfInBounds_toArray, List.set_cons_succ, List.set_cons_zero], Below.refl _ _, ?_⟩
            exact sp_bool (by first | assumption | (simp <;> omega))
          refine ⟨fun f w1 hb1 hd => ?_, ?_⟩
          · obtain ⟨d0, d1, -⟩ := hd
            have q7 : f 7 = .bool false := d0
            have q14 : f 14 = .bool false := d1
            clear d0 d1
            go_wp2_with fail
            exact ⟨_, by first | rfl | simp only [q7, q14, Act.put, List.setIfInBounds_toArray, List.set_cons_succ, List.set_cons_zero], Below.refl _ _, rfl⟩
          refine ⟨fun f w1 hb1 hd => ?_, ?_⟩
          · obtain ⟨d0, d1, -⟩ := hd
            have q15 : f 15 = .bool false := d0
            have q7 : f 7 = .bool false := d1
            clear d0 d1
            go_wp2_with fail
            exact ⟨_, by first | rfl | simp only [q7, q15, Act.put, List.setIfInBounds_toArray, List.set_cons_succ, List.set_cons_zero], Below.refl _ _, rfl⟩
          refine ⟨fun f w1 hb1 hd => ?_, ?_⟩
          · obtain ⟨d0, -⟩ := hd
            have q16 : f 16 = .bool false := d0
            clear d0
            go_wp2_with fail
            exact ⟨_, by first | rfl | simp only [q16, Act.put, List.setIfInBounds_toArray, List.set_cons_succ, List.set_cons_zero], Below.refl _ _, rfl⟩
          refine ⟨fun f w1 hb1 hd => ?_, ?_⟩
          · obtain ⟨d0, -⟩ := hd
            have q16 : f 16 = .bool false := d0
            clear d0
            go_wp2_with fail
            exact ⟨_, by first | rfl | simp only [q16, Act.put, List.setIfInBounds_toArray, List.set_cons_succ, List.set_cons_zero], Below.refl _ _, rfl⟩
          refine ⟨fun f w1 hb1 hd => ?_, ?_⟩
          · obtain ⟨d0, d1, d2, -⟩ := hd
            have q17 : f 17 = .slice (some ⟨b, off, none⟩) n c := d0
            have q18 : f 18 = .int .i64 (i : Int) := d1
            have q16 : f 16 = .bool false := d2
            clear d0 d1 d2
            go_wp2_with fail
            exact ⟨_, by first | rfl | simp only [q16, q17, q18, Act.put, List.setIfInBounds_toArray, List.set_cons_succ, List.set_cons_zero], Below.refl _ _, rfl⟩
          refine ⟨fun f w1 hb1 hd => ?_, ?_⟩
          · obtain ⟨d0, d1, -⟩ := hd
            have q19 : f 19 = .pointer (some ⟨b, off + i * 4, none⟩) := d0
            have q16 : f 16 = .bool false := d1
            clear d0 d1
            go_wp2_with fail
            exact ⟨_, by first | rfl | simp only [q16, q19, Act.put, List.setIfInBounds_toArray, List.set_cons_succ, List.set_cons_zero], Below.refl _ _, rfl⟩
          refine ⟨fun f w1 hb1 hd => ?_, ?_⟩
          · obtain ⟨d0, d1, -⟩ := hd
            have q20 : f 20 = .pointer (some ⟨b, off + i * 4 + 1, none⟩) := d0
            have q16 : f 16 = .bool false := d1
            clear d0 d1
            go_wp2_with fail
            exact ⟨_, by first | rfl | simp only [q16, q20, Act.put, List.setIfInBounds_toArray, List.set_cons_succ, List.set_cons_zero], Below.refl _ _, rfl⟩
          refine ⟨fun f w1 hb1 hd => ?_, ?_⟩
          · obtain ⟨d0, d1, -⟩ := hd
            have q21 : f 21 = .pointer (some ⟨b, off + i * 4 + 1, none⟩) := d0
            have q16 : f 16 = .bool false := d1
            clear d0 d1
            obtain ⟨y0, y1, y2⟩ := HC.out w1 hb1
            have Y2 := Lib.hid y2
            clear y2
            go_wp2_with fail
            exact ⟨_, by first | rfl | simp only [q16, q21, Act.put, List.setIfInBounds_toArray, List.set_cons_succ, List.set_cons_zero], Below.refl _ _, rfl⟩
          refine ⟨fun f w1 hb1 hd => ?_, ?_⟩
          · obtain ⟨d0, d1, -⟩ := hd
            have q22 : f 22 = .int .i64 vk := d0
            have q16 : f 16 = .bool false := d1
            clear d0 d1
            go_wp2_with fail
            exact ⟨_, by first | rfl | simp only [q16, q22, Act.put, List.setIfInBounds_toArray, List.set_cons_succ, List.set_cons_zero], Below.refl _ _, rfl⟩
          refine ⟨fun f w1 hb1 hd => ?_, ?_⟩
          · obtain ⟨d0, d1, -⟩ := hd
            have q16 : f 16 = .bool false := d0
            have q23 : f 23 = .bool false := d1
            clear d0 d1
            go_wp2_with fail
            exact ⟨_, by first | rfl | simp only [q16, q23, Act.put, List.setIfInBounds_toArray, List.set_cons_succ, List.set_cons_zero], Below.refl _ _, rfl⟩
          refine ⟨fun f w1 hb1 hd => ?_, ?_⟩
          · obtain ⟨d0, d1, -⟩ := hd
            have q24 : f 24 = .bool false := d0
            have q16 : f 16 = .bool false := d1
            clear d0 d1
            go_wp2_with fail
            exact ⟨_, by first | rfl | simp only [q16, q24, Act.put, List.setIfInBounds_toArray, List.set_cons_succ, List.set_cons_zero], Below.refl _ _, rfl⟩
          refine ⟨fun f w1 hb1 hd => ?_, ?_⟩
          · obtain ⟨d0, -⟩ := hd
            have q25 : f 25 = .bool false := d0
            clear d0
            go_wp2_with fail
            exact ⟨_, by first | rfl | simp only [q25, Act.put, List.setIfInBounds_toArray, List.set_cons_succ, List.set_cons_zero], Below.refl _ _, rfl⟩
          refine ⟨fun f w1 hb1 hd => ?_, ?_⟩
          · obtain ⟨d0, -⟩ := hd
            have q25 : f 25 = .bool false := d0
            clear d0
            go_wp2_with fail
            exact ⟨_, by first | rfl | simp only [q25, Act.put, List.setIfInBounds_toArray, List.set_cons_succ, List.set_cons_zero], Below.refl _ _, rfl⟩
          refine ⟨fun f w1 hb1 hd => ?_, ?_⟩
          · obtain ⟨d0, d1, d2, -⟩ := hd
            have q26 : f 26 = .slice (some ⟨b, off, none⟩) n c := d0
            have q27 : f 27 = .int .i64 (i : Int) := d1
            have q25 : f 25 = .bool false := d2
            clear d0 d1 d2
            go_wp2_with fail
            exact ⟨_, by first | rfl | simp only [q25, q26, q27, Act.put, List.setIfInBounds_toArray, List.set_cons_succ, List.set_cons_zero], Below.refl _ _, rfl⟩
          refine ⟨fun f w1 hb1 hd => ?_, ?_⟩
          · obtain ⟨d0, d1, -⟩ := hd
            have q28 : f 28 = .pointer (some ⟨b, off + i * 4, none⟩) := d0
            have q25 : f 25 = .bool false := d1
            clear d0 d1
            go_wp2_with fail
            exact ⟨_, by first | rfl | simp only [q25, q28, Act.put, List.setIfInBounds_toArray, List.set_cons_succ, List.set_cons_zero], Below.refl _ _, rfl⟩
          refine ⟨fun f w1 hb1 hd => ?_, ?_⟩
          · obtain ⟨d0, d1, -⟩ := hd
            have q29 : f 29 = .pointer (some ⟨b, off + i * 4 + 1, none⟩) := d0
            have q25 : f 25 = .bool false := d1
            clear d0 d1
            obtain ⟨y0, y1, y2⟩ := HC.out w1 hb1
            have Y2 := Lib.hid y2
            clear y2
            rw [q29, q25]
            go_wp2_with (refine wpList_load_midH rfl 56 (.tmp 39) rfl b (off + i * 4 + 1) rfl [.int .i64 vk, .float .f64 vx, .string vs] _ Y2.out Tryd.underlying56 rfl size3v ?_)
            exact ⟨_, by first | rfl | simp only [q25, q29, Act.put, List.setIfInBounds_toArray, List.set_cons_succ, List.set_cons_zero], Below.refl _ _, rfl⟩
          refine ⟨fun f w1 hb1 hd => ?_, ?_⟩
          · obtain ⟨d0, d1, d2, -⟩ := hd
            have q30 : f 30 = .agg #[.int .i64 vk, .float .f64 vx, .string vs] := d0
            have q25 : f 25 = .bool false := d1
            clear d0 d1 d2
            rw [q30, q25]
            go_wp2_with ((with_reducible refine (hVl.out _).mono ?_); rintro e w2 ⟨rfl, hb2⟩)
            exact ⟨_, by first | rfl | simp only [q25, q30, Act.put, List.setIfInBounds_toArray, List.set_cons_succ, List.set_cons_zero], hb2, rfl⟩
          refine ⟨fun f w1 hb1 hd => ?_, ?_⟩
          · obtain ⟨d0, d1, -⟩ := hd
            have q31 : f 31 = .int .i64 0 := d0
            have q25 : f 25 = .bool false := d1
            clear d0 d1
            go_wp2_with fail
            exact ⟨_, by first | rfl | simp only [q25, q31, Act.put, List.setIfInBounds_toArray, List.set_cons_succ, List.set_cons_zero], Below.refl _ _, rfl⟩
          refine ⟨fun f w1 hb1 hd => ?_, ?_⟩
          · obtain ⟨d0, d1, -⟩ := hd
            have q25 : f 25 = .bool false := d0
            have q32 : f 32 = .bool false := d1
            clear d0 d1
            go_wp2_with fail
            exact ⟨_, by first | rfl | simp only [q25, q32, Act.put, List.setIfInBounds_toArray, List.set_cons_succ, List.set_cons_zero], Below.refl _ _, rfl⟩
          refine ⟨fun f w1 hb1 hd => ?_, ?_⟩
          · obtain ⟨d0, d1, -⟩ := hd
            have q33 : f 33 = .bool false := d0
            have q31 : f 31 = .int .i64 0 := d1
            clear d0 d1
            go_wp2_with fail
            exact ⟨_, by first | rfl | simp only [q31, q33, Act.put, List.setIfInBounds_toArray, List.set_cons_succ, List.set_cons_zero], Below.refl _ _, rfl⟩
          refine ⟨fun f w1 hb1 hd => ?_, ?_⟩
          · obtain ⟨d0, -⟩ := hd
            have q34 : f 34 = .bool false := d0
            clear d0
            go_wp2_with fail
            exact ⟨_, by first | rfl | simp only [q34, Act.put, List.setIfInBounds_toArray, List.set_cons_succ, List.set_cons_zero], Below.refl _ _, rfl⟩
          refine ⟨fun f w1 hb1 hd => ?_, ?_⟩
          · obtain ⟨d0, d1, -⟩ := hd
            have q35 : f 35 = .int .i64 (i : Int) := d0
            have q34 : f 34 = .bool false := d1
            clear d0 d1
            go_wp2_with fail
            refine ⟨_, by first | rfl | simp only [q34, q35, Act.put, List.setIfInBounds_toArray, List.set_cons_succ, List.set_cons_zero], Below.refl _ _, ?_⟩
            exact sp_bool (by first | assumption | (simp <;> omega))
          refine ⟨fun f w1 hb1 hd => ?_, ?_⟩
          · obtain ⟨d0, d1, d2, -⟩ := hd
            have q36 : f 36 = .bool false := d0
            have q34 : f 34 = .bool false := d1
            clear d0 d1 d2
            go_wp2_with fail
            exact ⟨_, by first | rfl | simp only [q34, q36, Act.put, List.setIfInBounds_toArray, List.set_cons_succ, List.set_cons_zero], Below.refl _ _, rfl⟩
          refine ⟨fun f w1 hb1 hd => ?_, ?_⟩
          · obtain ⟨d0, -⟩ := hd
            have q37 : f 37 = .bool false := d0
            clear d0
            go_wp2_with fail
            exact ⟨_, by first | rfl | simp only [q37, Act.put, List.setIfInBounds_toArray, List.set_cons_succ, List.set_cons_zero], Below.refl _ _, trivial⟩
          refine ⟨fun f w1 hb1 hd => ?_, ?_⟩
          · obtain ⟨d0, -⟩ := hd
            have q37 : f 37 = .bool false := d0
            clear d0
            go_wp2_with fail
            exact ⟨_, by first | rfl | simp only [q37, Act.put, List.setIfInBounds_toArray, List.set_cons_succ, List.set_cons_zero], Below.refl _ _, trivial⟩
          refine ⟨fun f w1 hb1 hd => ?_, ?_⟩
          · obtain ⟨d0, d1, -⟩ := hd
            have q37 : f 37 = .bool false := d1
            clear d0 d1
            go_wp2_with fail
            exact ⟨_, by first | rfl | simp only [q37, Act.put, List.setIfInBounds_toArray, List.set_cons_succ, List.set_cons_zero], Below.refl _ _, trivial⟩
          refine ⟨fun f w1 hb1 hd => ?_, ?_⟩
          · obtain ⟨d0, d1, d2, -⟩ := hd
            have q37 : f 37 = .bool false := d2
            clear d0 d1 d2
            go_wp2_with fail
            exact ⟨_, by first | rfl | simp only [q37, Act.put, List.setIfInBounds_toArray, List.set_cons_succ, List.set_cons_zero], Below.refl _ _, trivial⟩
          refine ⟨fun f w1 hb1 hd => ?_, ?_⟩
          · obtain ⟨d0, d1, -⟩ := hd
            have q37 : f 37 = .bool false := d1
            clear d0 d1
            go_wp2_with fail
            exact ⟨_, by first | rfl | simp only [q37, Act.put, List.setIfInBounds_toArray, List.set_cons_succ, List.set_cons_zero], Below.refl _ _, trivial⟩
          refine ⟨fun f w1 hb1 hd => ?_, ?_⟩
          · obtain ⟨d0, d1, -⟩ := hd
            have q37 : f 37 = .bool false := d1
            clear d0 d1
            go_wp2_with fail
            exact ⟨_, by first | rfl | simp only [q37, Act.put, List.setIfInBounds_toArray, List.set_cons_succ, List.set_cons_zero], Below.refl _ _, trivial⟩
          refine ⟨fun f w1 hb1 hd => ?_, ?_⟩
          · obtain ⟨d0, -⟩ := hd
            have q37 : f 37 = .bool false := d0
            clear d0
            go_wp2_with fail
            exact ⟨_, by first | rfl | simp only [q37, Act.put, List.setIfInBounds_toArray, List.set_cons_succ, List.set_cons_zero], Below.refl _ _, trivial⟩
          refine ⟨fun f w1 hb1 hd => ?_, ?_⟩
          · obtain ⟨d0, -⟩ := hd
            have q37 : f 37 = .bool false := d0
            clear d0
            go_wp2_with fail
            exact ⟨_, by first | rfl | simp only [q37, Act.put, List.setIfInBounds_toArray, List.set_cons_succ, List.set_cons_zero], Below.refl _ _, trivial⟩
          refine ⟨fun f w1 hb1 hd => ?_, ?_⟩
          · obtain ⟨d0, d1, d2, -⟩ := hd
            have q37 : f 37 = .bool false := d2
            clear d0 d1 d2
            go_wp2_with fail
            exact ⟨_, by first | rfl | simp only [q37, Act.put, List.setIfInBounds_toArray, List.set_cons_succ, List.set_cons_zero], Below.refl _ _, trivial⟩
          refine ⟨fun f w1 hb1 hd => ?_, ?_⟩
          · obtain ⟨d0, d1, -⟩ := hd
            have q37 : f 37 = .bool false := d1
            clear d0 d1
            go_wp2_with fail
            exact ⟨_, by first | rfl | simp only [q37, Act.put, List.setIfInBounds_toArray, List.set_cons_succ, List.set_cons_zero], Below.refl _ _, trivial⟩
          refine ⟨fun f w1 hb1 hd => ?_, ?_⟩
          · obtain ⟨d0, d1, -⟩ := hd
            have q37 : f 37 = .bool false := d1
            clear d0 d1
            go_wp2_with fail
            exact ⟨_, by first | rfl | simp only [q37, Act.put, List.setIfInBounds_toArray, List.set_cons_succ, List.set_cons_zero], Below.refl _ _, trivial⟩
          refine ⟨fun f w1 hb1 hd => ?_, ?_⟩
          · obtain ⟨d0, d1, d2, -⟩ := hd
            have q37 : f 37 = .bool false := d2
            clear d0 d1 d2
            go_wp2_with fail
            exact ⟨_, by first | rfl | simp only [q37, Act.put, List.setIfInBounds_toArray, List.set_cons_succ, List.set_cons_zero], Below.refl _ _, trivial⟩
          refine ⟨fun f w1 hb1 hd => ?_, ?_⟩
          · obtain ⟨d0, d1, d2, -⟩ := hd
            have q37 : f 37 = .bool false := d0
            have q34 : f 34 = .bool false := d2
            clear d0 d1 d2
            go_wp2_with fail
            exact ⟨_, by first | rfl | simp only [q34, q37, Act.put, List.setIfInBounds_toArray, List.set_cons_succ, List.set_cons_zero], Below.refl _ _, rfl⟩
          refine ⟨fun f w1 hb1 hd => ?_, ?_⟩
          · obtain ⟨d0, d1, -⟩ := hd
            have q34 : f 34 = .bool false := d0
            have q50 : f 50 = .bool false := d1
            clear d0 d1
            go_wp2_with fail
            exact ⟨_, by first | rfl | simp only [q34, q50, Act.put, List.setIfInBounds_toArray, List.set_cons_succ, List.set_cons_zero], Below.refl _ _, rfl⟩
          exact trivial
        case hend0 =>
          intro f w1 hb1 hd
          have q51 : f 51 = .bool false := hd 51 (by decide)
          clear hd
          have hbn := bstep hbr hb1
          rw [q51]
          go_wp2_with fail
          go_roundg (gk - 1)
          case rel => exact ⟨i + 1, by have := Hig.out; omega, by go_num, hbn⟩
          case measure => have := Hig.out; omega
      · obtain ⟨j, hj⟩ : ∃ j, j + 1 = i := ⟨i - 1, by omega⟩
        obtain ⟨key2, HK2, hls⟩ := Hpr.out j hj
        have HK2 := Lib.hid HK2
        have hzd : decide ((i : Int) > 0) = true := by simp; omega
        have hzd2 : decide ((0 : Int) < (i : Int)) = true := by simp; omega
        have hzd3 : decide (0 < i) = true := by simp; omega
        have hsub : (i : Int) - 1 = (j : Int) := by omega
        have j0 : (0 : Int) ≤ (j : Int) := by omega
        have j1 : (j : Int) < (n : Int) := by omega
        clear Hpr hz hj
        go_wp2_with fail
        with_reducible refine wp_region_told (by kernel_rfl) (by kernel_rfl) [.val (.slice (some ⟨b, off, none⟩) n c),
      .val (.int .i64 (i : Int)),
      .val (.pointer (some ⟨b, off + i * 4, none⟩)),
      .val (.pointer (some ⟨b, off + i * 4, none⟩)),
      .val (.string key),
      .val (.int .i64 (key.size : Int)),
      .val (.bool false),
      .val (.bool false),
      .val (.slice (some ⟨b, off, none⟩) n c),
      .val (.int .i64 (i : Int)),
      .val (.pointer (some ⟨b, off + i * 4, none⟩)),
      .val (.pointer (some ⟨b, off + i * 4, none⟩)),
      .val (.string key),
      .val (.int .i64 (key.size : Int)),
      .val (.bool false),
      .val (.bool false),
      .val (.bool false),
      .val (.slice (some ⟨b, off, none⟩) n c),
      .val (.int .i64 (i : Int)),
      .val (.pointer (some ⟨b, off + i * 4, none⟩)),
      .val (.pointer (some ⟨b, off + i * 4 + 1, none⟩)),
      .val (.pointer (some ⟨b, off + i * 4 + 1, none⟩)),
      .val (.int .i64 vk),
      .val (.bool false),
      .val (.bool false),
      .val (.bool false),
      .val (.slice (some ⟨b, off, none⟩) n c),
      .val (.int .i64 (i : Int)),
      .val (.pointer (some ⟨b, off + i * 4, none⟩)),
      .val (.pointer (some ⟨b, off + i * 4 + 1, none⟩)),
      .val (.agg #[.int .i64 vk, .float .f64 vx, .string vs]),
      .val (.int .i64 0),
      .val (.bool false),
      .val (.bool false),
      .val (.bool false),
      .val (.int .i64 (i : Int)),
      .val (.bool true),
      .val (.bool true),
      .val (.slice (some ⟨b, off, none⟩) n c),
      .val (.int .i64 (i : Int)),
      .val (.int .i64 (j : Int)),
      .val (.pointer (some ⟨b, off + j * 4, none⟩)),
      .val (.pointer (some ⟨b, off + j * 4, none⟩)),
      .val (.string key2),
      .val (.slice (some ⟨b, off, none⟩) n c),
      .val (.int .i64 (i : Int)),
      .val (.pointer (some ⟨b, off + i * 4, none⟩)),
      .val (.pointer (some ⟨b, off + i * 4, none⟩)),
      .val (.string key),
      .val (.bool false),
      .val (.bool false),
      .val (.bool false)] ?mk1 (fun f => ?hmk1) ?f01 ?h01 ?hput1 ?hstep1 ?hend1
        case hmk1 =>
          simp only [putOps, Act.put, List.setIfInBounds_toArray, List.set_cons_succ, List.set_cons_zero, Nat.zero_add, Nat.reduceAdd]
          rfl
        case f01 => exact fun k => ([u10, u11, u12, u13, u14, u15, u16, u17, u18, u19, u20, u21, u22, u23, u24, u25, u26, u27, u28, u29, u30, u31, u32, u33, u34, u35, u36, u37, u38, u39, u40, u41, u42, u43, u44, u45, u46, u47, u48, u49, u50, u51, u52, u53, u54, u55, u56, u57, u58, u59, u60, u61] : List Value).getD k undef
        case h01 => exact rfl
        case hput1 =>
          repeat (refine ⟨fun f v => rfl, ?_⟩)
          exact trivial
        case hstep1 =>
          refine ⟨fun f w1 hb1 hd => ?_, ?_⟩
          · clear hd
            go_wp2_with fail
            exact ⟨_, by first | rfl | simp only [Act.put, List.setIfInBounds_toArray, List.set_cons_succ, List.set_cons_zero], Below.refl _ _, rfl⟩
          refine ⟨fun f w1 hb1 hd => ?_, ?_⟩
          · clear hd
            go_wp2_with fail
            exact ⟨_, by first | rfl | simp only [Act.put, List.setIfInBounds_toArray, List.set_cons_succ, List.set_cons_zero], Below.refl _ _, rfl⟩
          refine ⟨fun f w1 hb1 hd => ?_, ?_⟩
          · obtain ⟨d0, d1, -⟩ := hd
            have q0 : f 0 = .slice (some ⟨b, off, none⟩) n c := d0
            have q1 : f 1 = .int .i64 (i : Int) := d1
            clear d0 d1
            go_wp2_with fail
            exact ⟨_, by first | rfl | simp only [q0, q1, Act.put, List.setIfInBounds_toArray, List.set_cons_succ, List.set_cons_zero], Below.refl _ _, rfl⟩
          refine ⟨fun f w1 hb1 hd => ?_, ?_⟩
          · obtain ⟨d0, -⟩ := hd
            have q2 : f 2 = .pointer (some ⟨b, off + i * 4, none⟩) := d0
            clear d0
            go_wp2_with fail
            exact ⟨_, by first | rfl | simp only [q2, Act.put, List.setIfInBounds_toArray, List.set_cons_succ, List.set_cons_zero], Below.refl _ _, rfl⟩
          refine ⟨fun f w1 hb1 hd => ?_, ?_⟩
          · obtain ⟨d0, -⟩ := hd
            have q3 : f 3 = .pointer (some ⟨b, off + i * 4, none⟩) := d0
            clear d0
            obtain ⟨y0, y1, y2⟩ := HC.out w1 hb1
            have Y2 := Lib.hid y2
            clear y2
            go_wp2_with fail
            exact ⟨_, by first | rfl | simp only [q3, Act.put, List.setIfInBounds_toArray, List.set_cons_succ, List.set_cons_zero], Below.refl _ _, rfl⟩
          refine ⟨fun f w1 hb1 hd => ?_, ?_⟩
          · obtain ⟨d0, -⟩ := hd
            have q4 : f 4 = .string key := d0
            clear d0
            go_wp2_with fail
            exact ⟨_, by first | rfl | simp only [q4, Act.put, List.setIfInBounds_toArray, List.set_cons_succ, List.set_cons_zero], Below.refl _ _, rfl⟩
          refine ⟨fun f w1 hb1 hd => ?_, ?_⟩
          · obtain ⟨d0, -⟩ := hd
            have q5 : f 5 = .int .i64 (key.size : Int) := d0
            clear d0
            go_wp2_with fail
            refine ⟨_, by first | rfl | simp only [q5, Act.put, List.setIfInBounds_toArray, List.set_cons_succ, List.set_cons_zero], Below.refl _ _, ?_⟩
            exact sp_bool (by first | assumption | (simp <;> omega))
          refine ⟨fun f w1 hb1 hd => ?_, ?_⟩
          · obtain ⟨d0, -⟩ := hd
            have q6 : f 6 = .bool false := d0
            clear d0
            go_wp2_with fail
            exact ⟨_, by first | rfl | simp only [q6, Act.put, List.setIfInBounds_toArray, List.set_cons_succ, List.set_cons_zero], Below.refl _ _, rfl⟩
          refine ⟨fun f w1 hb1 hd => ?_, ?_⟩
          · obtain ⟨d0, -⟩ := hd
            have q7 : f 7 = .bool false := d0
            clear d0
            go_wp2_with fail
            exact ⟨_, by first | rfl | simp only [q7, Act.put, List.setIfInBounds_toArray, List.set_cons_succ, List.set_cons_zero], Below.refl _ _, rfl⟩
          refine ⟨fun f w1 hb1 hd => ?_, ?_⟩
          · obtain ⟨d0, -⟩ := hd
            have q7 : f 7 = .bool false := d0
            clear d0
            go_wp2_with fail
            exact ⟨_, by first | rfl | simp only [q7, Act.put, List.setIfInBounds_toArray, List.set_cons_succ, List.set_cons_zero], Below.refl _ _, rfl⟩
          refine ⟨fun f w1 hb1 hd => ?_, ?_⟩
          · obtain ⟨d0, d1, d2, -⟩ := hd
            have q8 : f 8 = .slice (some ⟨b, off, none⟩) n c := d0
            have q9 : f 9 = .int .i64 (i : Int) := d1
            have q7 : f 7 = .bool false := d2
            clear d0 d1 d2
            go_wp2_with fail
            exact ⟨_, by first | rfl | simp only [q7, q8, q9, Act.put, List.setIfInBounds_toArray, List.set_cons_succ, List.set_cons_zero], Below.refl _ _, rfl⟩
          refine ⟨fun f w1 hb1 hd => ?_, ?_⟩
          · obtain ⟨d0, d1, -⟩ := hd
            have q10 : f 10 = .pointer (some ⟨b, off + i * 4, none⟩) := d0
            have q7 : f 7 = .bool false := d1
            clear d0 d1
            go_wp2_with fail
            exact ⟨_, by first | rfl | simp only [q7, q10, Act.put, List.setIfInBounds_toArray, List.set_cons_succ, List.set_cons_zero], Below.refl _ _, rfl⟩
          refine ⟨fun f w1 hb1 hd => ?_, ?_⟩
          · obtain ⟨d0, d1, -⟩ := hd
            have q11 : f 11 = .pointer (some ⟨b, off + i * 4, none⟩) := d0
            have q7 : f 7 = .bool false := d1
            clear d0 d1
            obtain ⟨y0, y1, y2⟩ := HC.out w1 hb1
            have Y2 := Lib.hid y2
            clear y2
            go_wp2_with fail
            exact ⟨_, by first | rfl | simp only [q7, q11, Act.put, List.setIfInBounds_toArray, List.set_cons_succ, List.set_cons_zero], Below.refl _ _, rfl⟩
          refine ⟨fun f w1 hb1 hd => ?_, ?_⟩
          · obtain ⟨d0, d1, -⟩ := hd
            have q12 : f 12 = .string key := d0
            have q7 : f 7 = .bool false := d1
            clear d0 d1
            go_wp2_with fail
            exact ⟨_, by first | rfl | simp only [q7, q12, Act.put, List.setIfInBounds_toArray, List.set_cons_succ, List.set_cons_zero], Below.refl _ _, rfl⟩
          refine ⟨fun f w1 hb1 hd => ?_, ?_⟩
          · obtain ⟨d0, d1, -⟩ := hd
            have q13 : f 13 = .int .i64 (key.size : Int) := d0
            have q7 : f 7 = .bool false := d1
            clear d0 d1
            go_wp2_with fail
            refine ⟨_, by first | rfl | simp only [q7, q13, Act.put, List.setIfInBounds_toArray, List.set_cons_succ, List.set_cons_zero], Below.refl _ _, ?_⟩
            exact sp_bool (by first | assumption | (simp <;> omega))
          refine ⟨fun f w1 hb1 hd => ?_, ?_⟩
          · obtain ⟨d0, d1, -⟩ := hd
            have q7 : f 7 = .bool false := d0
            have q14 : f 14 = .bool false := d1
            clear d0 d1
            go_wp2_with fail
            exact ⟨_, by first | rfl | simp only [q7, q14, Act.put, List.setIfInBounds_toArray, List.set_cons_succ, List.set_cons_zero], Below.refl _ _, rfl⟩
          refine ⟨fun f w1 hb1 hd => ?_, ?_⟩
          · obtain ⟨d0, d1, -⟩ := hd
            have q15 : f 15 = .bool false := d0
            have q7 : f 7 = .bool false := d1
            clear d0 d1
            go_wp2_with fail
            exact ⟨_, by first | rfl | simp only [q7, q15, Act.put, List.setIfInBounds_toArray, List.set_cons_succ, List.set_cons_zero], Below.refl _ _, rfl⟩
          refine ⟨fun f w1 hb1 hd => ?_, ?_⟩
          · obtain ⟨d0, -⟩ := hd
            have q16 : f 16 = .bool false := d0
            clear d0
            go_wp2_with fail
            exact ⟨_, by first | rfl | simp only [q16, Act.put, List.setIfInBounds_toArray, List.set_cons_succ, List.set_cons_zero], Below.refl _ _, rfl⟩
          refine ⟨fun f w1 hb1 hd => ?_, ?_⟩
          · obtain ⟨d0, -⟩ := hd
            have q16 : f 16 = .bool false := d0
            clear d0
            go_wp2_with fail
            exact ⟨_, by first | rfl | simp only [q16, Act.put, List.setIfInBounds_toArray, List.set_cons_succ, List.set_cons_zero], Below.refl _ _, rfl⟩
          refine ⟨fun f w1 hb1 hd => ?_, ?_⟩
          · obtain ⟨d0, d1, d2, -⟩ := hd
            have q17 : f 17 = .slice (some ⟨b, off, none⟩) n c := d0
            have q18 : f 18 = .int .i64 (i : Int) := d1
            have q16 : f 16 = .bool false := d2
            clear d0 d1 d2
            go_wp2_with fail
            exact ⟨_, by first | rfl | simp only [q16, q17, q18, Act.put, List.setIfInBounds_toArray, List.set_cons_succ, List.set_cons_zero], Below.refl _ _, rfl⟩
          refine ⟨fun f w1 hb1 hd => ?_, ?_⟩
          · obtain ⟨d0, d1, -⟩ := hd
            have q19 : f 19 = .pointer (some ⟨b, off + i * 4, none⟩) := d0
            have q16 : f 16 = .bool false := d1
            clear d0 d1
            go_wp2_with fail
            exact ⟨_, by first | rfl | simp only [q16, q19, Act.put, List.setIfInBounds_toArray, List.set_cons_succ, List.set_cons_zero], Below.refl _ _, rfl⟩
          refine ⟨fun f w1 hb1 hd => ?_, ?_⟩
          · obtain ⟨d0, d1, -⟩ := hd
            have q20 : f 20 = .pointer (some ⟨b, off + i * 4 + 1, none⟩) := d0
            have q16 : f 16 = .bool false := d1
            clear d0 d1
            go_wp2_with fail
            exact ⟨_, by first | rfl | simp only [q16, q20, Act.put, List.setIfInBounds_toArray, List.set_cons_succ, List.set_cons_zero], Below.refl _ _, rfl⟩
          refine ⟨fun f w1 hb1 hd => ?_, ?_⟩
          · obtain ⟨d0, d1, -⟩ := hd
            have q21 : f 21 = .pointer (some ⟨b, off + i * 4 + 1, none⟩) := d0
            have q16 : f 16 = .bool false := d1
            clear d0 d1
            obtain ⟨y0, y1, y2⟩ := HC.out w1 hb1
            have Y2 := Lib.hid y2
            clear y2
            go_wp2_with fail
            exact ⟨_, by first | rfl | simp only [q16, q21, Act.put, List.setIfInBounds_toArray, List.set_cons_succ, List.set_cons_zero], Below.refl _ _, rfl⟩
          refine ⟨fun f w1 hb1 hd => ?_, ?_⟩
          · obtain ⟨d0, d1, -⟩ := hd
            have q22 : f 22 = .int .i64 vk := d0
            have q16 : f 16 = .bool false := d1
            clear d0 d1
            go_wp2_with fail
            exact ⟨_, by first | rfl | simp only [q16, q22, Act.put, List.setIfInBounds_toArray, List.set_cons_succ, List.set_cons_zero], Below.refl _ _, rfl⟩
          refine ⟨fun f w1 hb1 hd => ?_, ?_⟩
          · obtain ⟨d0, d1, -⟩ := hd
            have q16 : f 16 = .bool false := d0
            have q23 : f 23 = .bool false := d1
            clear d0 d1
            go_wp2_with fail
            exact ⟨_, by first | rfl | simp only [q16, q23, Act.put, List.setIfInBounds_toArray, List.set_cons_succ, List.set_cons_zero], Below.refl _ _, rfl⟩
          refine ⟨fun f w1 hb1 hd => ?_, ?_⟩
          · obtain ⟨d0, d1, -⟩ := hd
            have q24 : f 24 = .bool false := d0
            have q16 : f 16 = .bool false := d1
            clear d0 d1
            go_wp2_with fail
            exact ⟨_, by first | rfl | simp only [q16, q24, Act.put, List.setIfInBounds_toArray, List.set_cons_succ, List.set_cons_zero], Below.refl _ _, rfl⟩
          refine ⟨fun f w1 hb1 hd => ?_, ?_⟩
          · obtain ⟨d0, -⟩ := hd
            have q25 : f 25 = .bool false := d0
            clear d0
            go_wp2_with fail
            exact ⟨_, by first | rfl | simp only [q25, Act.put, List.setIfInBounds_toArray, List.set_cons_succ, List.set_cons_zero], Below.refl _ _, rfl⟩
          refine ⟨fun f w1 hb1 hd => ?_, ?_⟩
          · obtain ⟨d0, -⟩ := hd
            have q25 : f 25 = .bool false := d0
            clear d0
            go_wp2_with fail
            exact ⟨_, by first | rfl | simp only [q25, Act.put, List.setIfInBounds_toArray, List.set_cons_succ, List.set_cons_zero], Below.refl _ _, rfl⟩
          refine ⟨fun f w1 hb1 hd => ?_, ?_⟩
          · obtain ⟨d0, d1, d2, -⟩ := hd
            have q26 : f 26 = .slice (some ⟨b, off, none⟩) n c := d0
            have q27 : f 27 = .int .i64 (i : Int) := d1
            have q25 : f 25 = .bool false := d2
            clear d0 d1 d2
            go_wp2_with fail
            exact ⟨_, by first | rfl | simp only [q25, q26, q27, Act.put, List.setIfInBounds_toArray, List.set_cons_succ, List.set_cons_zero], Below.refl _ _, rfl⟩
          refine ⟨fun f w1 hb1 hd => ?_, ?_⟩
          · obtain ⟨d0, d1, -⟩ := hd
            have q28 : f 28 = .pointer (some ⟨b, off + i * 4, none⟩) := d0
            have q25 : f 25 = .bool false := d1
            clear d0 d1
            go_wp2_with fail
            exact ⟨_, by first | rfl | simp only [q25, q28, Act.put, List.setIfInBounds_toArray, List.set_cons_succ, List.set_cons_zero], Below.refl _ _, rfl⟩
          refine ⟨fun f w1 hb1 hd => ?_, ?_⟩
          · obtain ⟨d0, d1, -⟩ := hd
            have q29 : f 29 = .pointer (some ⟨b, off + i * 4 + 1, none⟩) := d0
            have q25 : f 25 = .bool false := d1
            clear d0 d1
            obtain ⟨y0, y1, y2⟩ := HC.out w1 hb1
            have Y2 := Lib.hid y2
            clear y2
            rw [q29, q25]
            go_wp2_with (refine wpList_load_midH rfl 56 (.tmp 39) rfl b (off + i * 4 + 1) rfl [.int .i64 vk, .float .f64 vx, .string vs] _ Y2.out Tryd.underlying56 rfl size3v ?_)
            exact ⟨_, by first | rfl | simp only [q25, q29, Act.put, List.setIfInBounds_toArray, List.set_cons_succ, List.set_cons_zero], Below.refl _ _, rfl⟩
          refine ⟨fun f w1 hb1 hd => ?_, ?_⟩
          · obtain ⟨d0, d1, d2, -⟩ := hd
            have q30 : f 30 = .agg #[.int .i64 vk, .float .f64 vx, .string vs] := d0
            have q25 : f 25 = .bool false := d1
            clear d0 d1 d2
            rw [q30, q25]
            go_wp2_with ((with_reducible refine (hVl.out _).mono ?_); rintro e w2 ⟨rfl, hb2⟩)
            exact ⟨_, by first | rfl | simp only [q25, q30, Act.put, List.setIfInBounds_toArray, List.set_cons_succ, List.set_cons_zero], hb2, rfl⟩
          refine ⟨fun f w1 hb1 hd => ?_, ?_⟩
          · obtain ⟨d0, d1, -⟩ := hd
            have q31 : f 31 = .int .i64 0 := d0
            have q25 : f 25 = .bool false := d1
            clear d0 d1
            go_wp2_with fail
            exact ⟨_, by first | rfl | simp only [q25, q31, Act.put, List.setIfInBounds_toArray, List.set_cons_succ, List.set_cons_zero], Below.refl _ _, rfl⟩
          refine ⟨fun f w1 hb1 hd => ?_, ?_⟩
          · obtain ⟨d0, d1, -⟩ := hd
            have q25 : f 25 = .bool false := d0
            have q32 : f 32 = .bool false := d1
            clear d0 d1
            go_wp2_with fail
            exact ⟨_, by first | rfl | simp only [q25, q32, Act.put, List.setIfInBounds_toArray, List.set_cons_succ, List.set_cons_zero], Below.refl _ _, rfl⟩
          refine ⟨fun f w1 hb1 hd => ?_, ?_⟩
          · obtain ⟨d0, d1, -⟩ := hd
            have q33 : f 33 = .bool false := d0
            have q31 : f 31 = .int .i64 0 := d1
            clear d0 d1
            go_wp2_with fail
            exact ⟨_, by first | rfl | simp only [q31, q33, Act.put, List.setIfInBounds_toArray, List.set_cons_succ, List.set_cons_zero], Below.refl _ _, rfl⟩
          refine ⟨fun f w1 hb1 hd => ?_, ?_⟩
          · obtain ⟨d0, -⟩ := hd
            have q34 : f 34 = .bool false := d0
            clear d0
            go_wp2_with fail
            exact ⟨_, by first | rfl | simp only [q34, Act.put, List.setIfInBounds_toArray, List.set_cons_succ, List.set_cons_zero], Below.refl _ _, rfl⟩
          refine ⟨fun f w1 hb1 hd => ?_, ?_⟩
          · obtain ⟨d0, d1, -⟩ := hd
            have q35 : f 35 = .int .i64 (i : Int) := d0
            have q34 : f 34 = .bool false := d1
            clear d0 d1
            go_wp2_with fail
            refine ⟨_, by first | rfl | simp only [q34, q35, Act.put, List.setIfInBounds_toArray, List.set_cons_succ, List.set_cons_zero], Below.refl _ _, ?_⟩
            exact sp_bool (by first | assumption | (simp <;> omega))
          refine ⟨fun f w1 hb1 hd => ?_, ?_⟩
          · obtain ⟨d0, d1, d2, -⟩ := hd
            have q36 : f 36 = .bool true := d0
            have q34 : f 34 = .bool false := d1
            clear d0 d1 d2
            go_wp2_with fail
            exact ⟨_, by first | rfl | simp only [q34, q36, Act.put, List.setIfInBounds_toArray, List.set_cons_succ, List.set_cons_zero], Below.refl _ _, rfl⟩
          refine ⟨fun f w1 hb1 hd => ?_, ?_⟩
          · obtain ⟨d0, -⟩ := hd
            have q37 : f 37 = .bool true := d0
            clear d0
            go_wp2_with fail
            exact ⟨_, by first | rfl | simp only [q37, Act.put, List.setIfInBounds_toArray, List.set_cons_succ, List.set_cons_zero], Below.refl _ _, rfl⟩
          refine ⟨fun f w1 hb1 hd => ?_, ?_⟩
          · obtain ⟨d0, -⟩ := hd
            have q37 : f 37 = .bool true := d0
            clear d0
            go_wp2_with fail
            exact ⟨_, by first | rfl | simp only [q37, Act.put, List.setIfInBounds_toArray, List.set_cons_succ, List.set_cons_zero], Below.refl _ _, rfl⟩
          refine ⟨fun f w1 hb1 hd => ?_, ?_⟩
          · obtain ⟨d0, d1, -⟩ := hd
            have q39 : f 39 = .int .i64 (i : Int) := d0
            have q37 : f 37 = .bool true := d1
            clear d0 d1
            go_wp2_with fail
            exact ⟨_, by first | rfl | simp only [q37, q39, Act.put, List.setIfInBounds_toArray, List.set_cons_succ, List.set_cons_zero], Below.refl _ _, rfl⟩
          refine ⟨fun f w1 hb1 hd => ?_, ?_⟩
          · obtain ⟨d0, d1, d2, -⟩ := hd
            have q38 : f 38 = .slice (some ⟨b, off, none⟩) n c := d0
            have q40 : f 40 = .int .i64 (j : Int) := d1
            have q37 : f 37 = .bool true := d2
            clear d0 d1 d2
            go_wp2_with fail
            exact ⟨_, by first | rfl | simp only [q37, q38, q40, Act.put, List.setIfInBounds_toArray, List.set_cons_succ, List.set_cons_zero], Below.refl _ _, rfl⟩
          refine ⟨fun f w1 hb1 hd => ?_, ?_⟩
          · obtain ⟨d0, d1, -⟩ := hd
            have q41 : f 41 = .pointer (some ⟨b, off + j * 4, none⟩) := d0
            have q37 : f 37 = .bool true := d1
            clear d0 d1
            go_wp2_with fail
            exact ⟨_, by first | rfl | simp only [q37, q41, Act.put, List.setIfInBounds_toArray, List.set_cons_succ, List.set_cons_zero], Below.refl _ _, rfl⟩
          refine ⟨fun f w1 hb1 hd => ?_, ?_⟩
          · obtain ⟨d0, d1, -⟩ := hd
            have q42 : f 42 = .pointer (some ⟨b, off + j * 4, none⟩) := d0
            have q37 : f 37 = .bool true := d1
            clear d0 d1
            have y3 := HK2.out w1 hb1
            go_wp2_with fail
            exact ⟨_, by first | rfl | simp only [q37, q42, Act.put, List.setIfInBounds_toArray, List.set_cons_succ, List.set_cons_zero], Below.refl _ _, rfl⟩
          refine ⟨fun f w1 hb1 hd => ?_, ?_⟩
          · obtain ⟨d0, -⟩ := hd
            have q37 : f 37 = .bool true := d0
            clear d0
            go_wp2_with fail
            exact ⟨_, by first | rfl | simp only [q37, Act.put, List.setIfInBounds_toArray, List.set_cons_succ, List.set_cons_zero], Below.refl _ _, rfl⟩
          refine ⟨fun f w1 hb1 hd => ?_, ?_⟩
          · obtain ⟨d0, -⟩ := hd
            have q37 : f 37 = .bool true := d0
            clear d0
            go_wp2_with fail
            exact ⟨_, by first | rfl | simp only [q37, Act.put, List.setIfInBounds_toArray, List.set_cons_succ, List.set_cons_zero], Below.refl _ _, rfl⟩
          refine ⟨fun f w1 hb1 hd => ?_, ?_⟩
          · obtain ⟨d0, d1, d2, -⟩ := hd
            have q44 : f 44 = .slice (some ⟨b, off, none⟩) n c := d0
            have q45 : f 45 = .int .i64 (i : Int) := d1
            have q37 : f 37 = .bool true := d2
            clear d0 d1 d2
            go_wp2_with fail
            exact ⟨_, by first | rfl | simp only [q37, q44, q45, Act.put, List.setIfInBounds_toArray, List.set_cons_succ, List.set_cons_zero], Below.refl _ _, rfl⟩
          refine ⟨fun f w1 hb1 hd => ?_, ?_⟩
          · obtain ⟨d0, d1, -⟩ := hd
            have q46 : f 46 = .pointer (some ⟨b, off + i * 4, none⟩) := d0
            have q37 : f 37 = .bool true := d1
            clear d0 d1
            go_wp2_with fail
            exact ⟨_, by first | rfl | simp only [q37, q46, Act.put, List.setIfInBounds_toArray, List.set_cons_succ, List.set_cons_zero], Below.refl _ _, rfl⟩
          refine ⟨fun f w1 hb1 hd => ?_, ?_⟩
          · obtain ⟨d0, d1, -⟩ := hd
            have q47 : f 47 = .pointer (some ⟨b, off + i * 4, none⟩) := d0
            have q37 : f 37 = .bool true := d1
            clear d0 d1
            obtain ⟨y0, y1, y2⟩ := HC.out w1 hb1
            have Y2 := Lib.hid y2
            clear y2
            go_wp2_with fail
            exact ⟨_, by first | rfl | simp only [q37, q47, Act.put, List.setIfInBounds_toArray, List.set_cons_succ, List.set_cons_zero], Below.refl _ _, rfl⟩
          refine ⟨fun f w1 hb1 hd => ?_, ?_⟩
          · obtain ⟨d0, d1, d2, -⟩ := hd
            have q43 : f 43 = .string key2 := d0
            have q48 : f 48 = .string key := d1
            have q37 : f 37 = .bool true := d2
            clear d0 d1 d2
            go_wp2_with fail
            exact ⟨_, by first | rfl | simp only [q37, q43, q48, Act.put, List.setIfInBounds_toArray, List.set_cons_succ, List.set_cons_zero], Below.refl _ _, rfl⟩
          refine ⟨fun f w1 hb1 hd => ?_, ?_⟩
          · obtain ⟨d0, d1, d2, -⟩ := hd
            have q37 : f 37 = .bool true := d0
            have q49 : f 49 = .bool false := d1
            have q34 : f 34 = .bool false := d2
            clear d0 d1 d2
            go_wp2_with fail
            exact ⟨_, by first | rfl | simp only [q34, q37, q49, Act.put, List.setIfInBounds_toArray, List.set_cons_succ, List.set_cons_zero], Below.refl _ _, rfl⟩
          refine ⟨fun f w1 hb1 hd => ?_, ?_⟩
          · obtain ⟨d0, d1, -⟩ := hd
            have q34 : f 34 = .bool false := d0
            have q50 : f 50 = .bool false := d1
            clear d0 d1
            go_wp2_with fail
            exact ⟨_, by first | rfl | simp only [q34, q50, Act.put, List.setIfInBounds_toArray, List.set_cons_succ, List.set_cons_zero], Below.refl _ _, rfl⟩
          exact trivial
        case hend1 =>
          intro f w1 hb1 hd
          have q51 : f 51 = .bool false := hd 51 (by decide)
          clear hd
          have hbn := bstep hbr hb1
          rw [q51]
          go_wp2_with fail
          go_roundg (gk - 1)
          case rel => exact ⟨i + 1, by have := Hig.out; omega, by go_num, hbn⟩
          case measure => have := Hig.out; omega
    · obtain rfl : i = n := by omega
      go_wp2_with fail
      go_ret
      exact ⟨ret_bool (by simp; omega), hbr⟩
end Go.Proofs.YtkckncggiicciaaDoor
/-
  The walk of ReportPairs.
-/
namespace Go.Proofs.YtkckncggiicciaaDoor
open Go.RowKit
set_option maxRecDepth 100000
theorem linesP_get (ps : List (ByteArray × Va)) (i : Nat) (hi : i < ps.length) : ((linesP ps ps.length).map sV)[i]? = some (.string (lineB (ps.getD i p0))) := by
  unfold linesP
  rw [List.getElem?_map, List.getElem?_map, List.getElem?_range hi]
  rfl
set_option maxHeartbeats 12800000 in
theorem pairs_main (C : Option Addr) (nl cap : Nat) (W : World) (HGr : Hid (Calls Tryd.prog 26 #[.slice C nl cap] W (GrownPost W))) (hT : TzAt W) (hI : ItAt W) (hE : ErrAt W) :
    Calls Tryd.prog 6 #[.slice C nl cap] W fun e w' => e = .returned (.bool true) ∧ Below W.heap.size W w' := by
  rcases Decidable.em (1000 < nl) with hbig | hbig
  · go_enter Tryd.func6, Tryd.ntmps6
    go_wp2_with fail
    go_ret
    exact ⟨rfl, Below.refl _ _⟩
  have HT := Lib.hid hT
  have HI := Lib.hid hI
  have HEr := Lib.hid hE
  have hst := run_store_float
  clear hT hI hE
  go_enter Tryd.func6, Tryd.ntmps6
  go_wp2_with fail
  refine HGr.out.mono ?_
  rintro e wg ⟨⟨A, n, c, B, m, d, ps, rfl, hlen, hown, hR⟩, hb1⟩
  clear HGr hbig
  have Hown := Lib.hid hown
  have HR := Lib.hid hR
  have Hlen := Lib.hid hlen
  have Hb1 := Lib.hid hb1
  clear hown hR hlen hb1
  go_wp2_with fail
  obtain ⟨w2, hw2⟩ : ∃ w2 : World, wg.alloc (.cells #[.slice A n c, .slice B m d] 44) = w2 := ⟨_, rfl⟩
  have Q2 : Hid (w2.heap[wg.heap.size]? = some (.cells #[.slice A n c, .slice B m d] 44 (0, 0))) := by unfold Hid; rw [← hw2]; exact heap_alloc_new wg _
  have Hb2 : Hid (Below wg.heap.size wg w2) := by unfold Hid; rw [← hw2]; exact alloc_below wg _
  have Hz2 : Hid (w2.heap.size = wg.heap.size + 1) := by unfold Hid; rw [← hw2]; simp
  rw [hw2]
  clear hw2
  obtain ⟨A', c', e1, hy1⟩ := ownP_rows Hown.out Hlen.out
  injection e1 with e1 _ e3
  subst e1 e3
  have hbW2 : Below W.heap.size W w2 := Hb1.out.trans (Hb2.out.mono Hb1.out.size)
  have hy2 : PrRows w2 w2.heap.size A n c ps := (Rd.below hy1 Hb2.out (Nat.le_refl _)).mono Hb2.out.size
  have h32 : n ≤ 32 := by rw [← Hlen.out]; exact HR.out.few
  refine (RPairs_any A n c B m d ps w2 hy2 Hlen.out (by omega) (fun p hp => (HR.out.each p hp).ok) (HT.out.below hbW2)).mono ?_
  rintro e w3 ⟨⟨v3, rfl, ho3⟩, hb3⟩
  obtain ⟨A3, c3, rfl, hr3⟩ := ownS_rd ho3 (n := n) (by rw [linesP_len, Hlen.out])
  have hbW3 : Below W.heap.size W w3 := hbW2.trans (hb3.mono hbW2.size)
  have hz3 : wg.heap.size < w3.heap.size := by have := hb3.size; have := Hz2.out; omega
  have hrow3 : w3.heap[wg.heap.size]? = some (.cells #[.slice A n c, .slice B m d] 44 (0, 0)) := (hb3.block _ (by have := Hz2.out; omega)).trans Q2.out
  have hy3 : PrRows w3 w3.heap.size A n c ps := (Rd.below hy2 hb3 (Nat.le_refl _)).mono hb3.size
  have HM : Hid (∀ w', Below w3.heap.size w3 w' → w'.cell? ⟨wg.heap.size, 0, none⟩ = some (.slice A n c)) := fun w' hb => cell_of_row _ _ _ _ _ _ ((hb.block _ hz3).trans hrow3)
  have HA : Hid (∀ i, i < n → ∃ b4 off4 b off p, A3 = some ⟨b4, off4, none⟩ ∧ b4 < w3.heap.size ∧ w3.cell? ⟨b4, off4 + i, none⟩ = some (.string (lineB p)) ∧ A = some ⟨b, off, none⟩ ∧ b < w3.heap.size ∧ w3.rangeAt b (off + i * 4) (prC p) ∧ PairOk p ∧
      (0 < i → ∃ p', w3.cell? ⟨b4, off4 + (i - 1), none⟩ = some (.string (lineB p')) ∧ PairOk p' ∧ ltK p' p)) := fun i hi => by
    obtain ⟨b, off, p, q1, q2, q3, q4, q5⟩ := pr_row hy3 Hlen.out hi
    obtain ⟨_, _, _, hrr⟩ := hr3
    obtain ⟨b4, off4, rfl, hb4', hcell⟩ := hrr (by omega)
    have hil : i < ps.length := by rw [Hlen.out]; exact hi
    refine ⟨b4, off4, b, off, p, rfl, hb4', ?_, q1, q2, q5, HR.out.each p q4, fun h0 => ?_⟩
    · have h := hcell i _ (linesP_get ps i hil)
      rw [q3] at h
      exact h
    · refine ⟨ps.getD (i - 1) p0, hcell (i - 1) _ (linesP_get ps (i - 1) (by omega)), ?_, ?_⟩
      · rw [List.getD, List.getElem?_eq_getElem (show i - 1 < ps.length by omega)]
        exact HR.out.each _ (List.getElem_mem _)
      · have hs := List.pairwise_iff_getElem.1 HR.out.sorted (i - 1) i (by omega) hil (by omega)
        rw [← q3, List.getD, List.getD, List.getElem?_eq_getElem (show i - 1 < ps.length by omega), List.getElem?_eq_getElem hil]
        exact hs
  have HU : Hid (∀ w', Below w3.heap.size w3 w' → Below W.heap.size W w') := fun w' hb => hbW3.trans (hb.mono hbW3.size)
  have hc3 : n ≤ c3 := hr3.2.1
  have hc3m : c3 ≤ maxLen := hr3.2.2.1
  have hcn : n ≤ c := hy3.2.1
  have hcm : c ≤ maxLen := hy3.2.2.1
  unfold maxLen at hc3m hcm
  have z0 := HM.out w3 (Below.refl _ _)
  have Hz3 := Lib.hid hz3
  clear hr3 hy3 hrow3 hz3 hbW3 hb3 ho3 hy2 hbW2 hy1 Hown Hb2 Hz2 Q2 HR Hlen Hb1
  go_wp2_with fail
  go_loopg [5, 6, 7, 8] n (fun g s5 s6 s7 s8 wr => ∃ i : Nat, i + g = n ∧ s5 = .int .i64 (i : Int) ∧ Below w3.heap.size w3 wr)
  case atStart => exact ⟨0, by omega, rfl, Below.refl _ _⟩
  case round =>
    obtain ⟨i, hig, rfl, hb5⟩ := hrel
    have Hig := Lib.hid hig
    have hin : i ≤ n := by omega
    clear hig z0
    by_cases hlt : i < n
    · obtain ⟨b4, off4, b, off, p, rfl, hb4, hc4, rfl, hbb, hrg, hpo, hprev⟩ := HA.out i hlt
      have i0 : (0 : Int) ≤ (i : Int) := by omega
      have i1 : (i : Int) < (n : Int) := by omega
      obtain ⟨LB, hLB⟩ : ∃ LB, lineB p = LB := ⟨_, rfl⟩
      obtain ⟨KB, hKB⟩ : ∃ KB, keyB p = KB := ⟨_, rfl⟩
      obtain ⟨VB, hVB⟩ : ∃ VB, valB p = VB := ⟨_, rfl⟩
      have Hprev := Lib.hid hprev
      have Hpo := Lib.hid hpo
      have hq1 := (hb5.cell (p := ⟨b4, off4 + i, none⟩) hb4).trans hc4
      have HWD : Hid (∀ q : ByteArray × Va, PairOk q → ∀ w', Calls Tryd.prog 24 #[.string (lineB q)] w' fun e w'' => (∃ A7 c7, e = .returned (.slice A7 2 c7) ∧ Rd w'' w''.heap.size 1 A7 2 c7 [.string (keyB q), .string (valB q)]) ∧ Below w'.heap.size w' w'') := fun q hq w' => by
        refine (Words_any (lineB q) w' (lineB_size hq)).mono ?_
        rintro e w'' ⟨⟨v6, rfl, ho6⟩, hb⟩
        rw [lineB_list, pair_words] at ho6
        obtain ⟨A7, c7, rfl, hr7⟩ := ownS_rd ho6 (n := 2) rfl
        exact ⟨⟨A7, c7, rfl, hr7⟩, hb⟩
      have HW0 : Hid (∀ w', Calls Tryd.prog 24 #[.string LB] w' fun e w'' => (∃ A7 c7, e = .returned (.slice A7 2 c7) ∧ Rd w'' w''.heap.size 1 A7 2 c7 [.string KB, .string VB]) ∧ Below w'.heap.size w' w'') := fun w' => by
        rw [← hLB, ← hKB, ← hVB]; exact HWD.out p hpo w'
      have HPa : Hid (∀ w', Below w3.heap.size w3 w' → Calls Tryd.prog 27 #[.string VB] w' fun e w'' => e = .returned (.tuple #[.agg #[.int .i64 p.2.k, .float .f64 p.2.x, .string p.2.s], .int .i64 0]) ∧ Below w'.heap.size w' w'') := fun w' hb => by
        rw [← hVB]; exact valB_parse hpo w' (HT.out.below (HU.out w' hb)) (HEr.out.below (HU.out w' hb))
      have HKV : Hid (∀ w', Calls Tryd.prog 28 #[.agg #[.int .i64 p.2.k, .float .f64 p.2.x, .string p.2.s], .agg #[.int .i64 p.2.k, .float .f64 p.2.x, .string p.2.s]] w' fun e w'' => e = .returned (.bool true) ∧ Below w'.heap.size w' w'') := fun w' => by
        have := keepVa_any p.2 p.2 w' hpo.num hpo.num
        rw [sameVa_me] at this
        exact this
      have hks : KB.size = 1 + 2 * p.1.size := by rw [← hKB]; exact keyB_size p
      have hk8 : p.1.size ≤ 8 := hpo.hi
      have HRG : Hid (∀ w', Below w3.heap.size w3 w' → w'.rangeAt b (off + i * 4) (prC p)) := fun w' hb => range_below hrg hb hbb
      rw [hLB] at hq1 hc4
      have Hc4 := Lib.hid hc4
      have Hlb := Lib.hid hLB
      have hb5' := Lib.hid hb5
      obtain ⟨key, ⟨vk, vx, vs⟩⟩ := p
      unfold prC at HRG
      dsimp only at HRG HPa HKV hks hk8
      have hkc : ∀ h : 0 < KB.size, KB[0] = 107 := by rw [← hKB]; exact fun _ => rfl
      clear hc4 hrg hpo hprev hKB hVB HA hLB
      go_wp2_with fail
      refine (HW0.out _).mono ?_
      rintro e w6 ⟨⟨A7, c7, rfl, hr7⟩, hb6⟩
      obtain ⟨_, h7c, h7m, hr⟩ := hr7
      obtain ⟨b7, off7, rfl, hb7, hcell⟩ := hr (by decide)
      have k0 := hcell 0 _ rfl
      rw [Nat.add_zero] at k0
      have k1 := hcell 1 _ rfl
      have hb36 : Below w3.heap.size w3 w6 := bstep hb5'.out hb6
      have x0 := HRG.out w6 hb36 0 _ rfl
      rw [Nat.add_zero] at x0
      have z0 := HM.out w6 hb36
      have K0 := Lib.hid k0
      have K1 := Lib.hid k1
      have Hb7 := Lib.hid hb7
      unfold maxLen at h7m
      have j0 : (0 : Int) < 2 := by omega
      have hw1 : IntKind.i64.wrap (2 * (key.size : Int)) = 2 * (key.size : Int) := IntWalk.i64_in _ (by omega)
      have hw2 : IntKind.i64.wrap (1 + 2 * (key.size : Int)) = 1 + 2 * (key.size : Int) := IntWalk.i64_in _ (by omega)
      have hks2 : (KB.size : Int) = 1 + 2 * (key.size : Int) := by omega
      have hk0 : 0 < KB.size := by omega
      have hk1 : (0 : Int) < 1 + 2 * (key.size : Int) := by omega
      have hkc0 := hkc hk0
      clear hcell hr hb6 hq1 hb7 HW0 hkc
      go_wp2_with fail
      go_quiet (fail)
      obtain ⟨wq, hwq⟩ : ∃ wn : World, World.drewN w6 nq = wn := ⟨_, rfl⟩
      have hbq : Below w6.heap.size w6 wq := by rw [← hwq]; exact below_drewN (Below.refl _ _) nq
      rw [hwq]
      have k1q : wq.cell? ⟨b7, off7 + 1, none⟩ = some (.string VB) := (hbq.cell (p := ⟨b7, off7 + 1, none⟩) Hb7.out).trans K1.out
      clear hwq k0 k1 x0 z0 hw1 hw2 hks2 hk0 hk1 hkc0
      have hb3q : Below w3.heap.size w3 wq := bstep hb36 hbq
      go_wp2_with fail
      refine (HPa.out _ hb3q).mono ?_
      rintro e w8 ⟨rfl, hb8⟩
      go_wp2_with fail
      have hb9 : Below wq.heap.size wq (w8.alloc (.cells #[.int .i64 vk, .float .f64 vx, .string vs] 56)) := hb8.alloc hb8.size _
      have hr9 : (w8.alloc (.cells #[.int .i64 vk, .float .f64 vx, .string vs] 56)).heap[w8.heap.size]? = some (.cells #[.int .i64 vk, .float .f64 vx, .string vs] 56 (0, 0)) := heap_alloc_new w8 _
      have hz9 : (w8.alloc (.cells #[.int .i64 vk, .float .f64 vx, .string vs] 56)).heap.size = w8.heap.size + 1 := by simp
      obtain ⟨w9, hw9⟩ : ∃ wn : World, w8.alloc (.cells #[.int .i64 vk, .float .f64 vx, .string vs] 56) = wn := ⟨_, rfl⟩
      rw [hw9] at hb9 hr9 hz9 ⊢
      have hb69 : Below w6.heap.size w6 w9 := bstep hbq hb9
      have hb39 : Hid (Below w3.heap.size w3 w9) := bstep hb36 hb69
      obtain ⟨j, hj⟩ : ∃ j, i - 1 = j := ⟨_, rfl⟩
      have HX0 : Hid (∀ w', Below w9.heap.size w9 w' → w'.heap[w8.heap.size]? = some (.cells #[.int .i64 vk, .float .f64 vx, .string vs] 56 (0, 0)) ∧ w'.cell? ⟨wg.heap.size, 0, none⟩ = some (.slice (some ⟨b, off, none⟩) n c) ∧ w'.rangeAt b (off + i * 4 + 1) [.int .i64 vk, .float .f64 vx, .string vs] ∧ w'.cell? ⟨b7, off7, none⟩ = some (.string KB) ∧ w'.cell? ⟨b4, off4 + i, none⟩ = some (.string LB)) := fun w' h => by
        have hb' := bstep hb39.out h
        refine ⟨(h.block _ (by omega)).trans hr9, HM.out w' hb', fun k u hk => ?_, ((bstep hb69 h).cell (p := ⟨b7, off7, none⟩) Hb7.out).trans K0.out, (hb'.cell (p := ⟨b4, off4 + i, none⟩) hb4).trans Hc4.out⟩
        have hk3 : k < 3 := (List.getElem?_eq_some_iff.1 hk).1
        rw [Nat.add_assoc, Nat.add_comm 1 k]
        refine HRG.out w' hb' (k + 1) u ?_
        rw [← hk]
        match k, hk3 with
        | 0, _ | 1, _ | 2, _ => rfl
      clear hw9 hb9 hr9 hz9 hb69 hb8 hb3q k1q hb36 hbq HRG K0 K1 Hb7 HPa
      rcases Decidable.em (0 < i) with hpos | hpos
      case' inr =>
        have hgt : ¬ (0 : Int) < (i : Int) := by omega
        have HX : Hid (∀ w', Below w9.heap.size w9 w' → w'.heap[w8.heap.size]? = some (.cells #[.int .i64 vk, .float .f64 vx, .string vs] 56 (0, 0)) ∧ w'.cell? ⟨wg.heap.size, 0, none⟩ = some (.slice (some ⟨b, off, none⟩) n c) ∧ w'.rangeAt b (off + i * 4 + 1) [.int .i64 vk, .float .f64 vx, .string vs] ∧ w'.cell? ⟨b7, off7, none⟩ = some (.string KB) ∧ w'.cell? ⟨b4, off4 + i, none⟩ = some (.string LB) ∧ True) := fun w' h => by
          obtain ⟨h1, h2, h3, h4, h5⟩ := HX0.out w' h
          exact ⟨h1, h2, h3, h4, h5, trivial⟩
        clear HX0 hj hpos Hprev HWD
        with_reducible refine wp_region_toldq (by kernel_rfl) (by kernel_rfl) [.val (.int .i64 0),
      .val (.bool false),
      .val (.bool false),
      .val (.agg #[.int .i64 vk, .float .f64 vx, .string vs]),
      .val (.pointer (some ⟨wg.heap.size, 0, none⟩)),
      .val (.slice (some ⟨b, off, none⟩) n c),
      .val (.int .i64 (i : Int)),
      .val (.pointer (some ⟨b, off + i * 4, none⟩)),
      .val (.pointer (some ⟨b, off + i * 4 + 1, none⟩)),
      .val (.agg #[.int .i64 vk, .float .f64 vx, .string vs]),
      .val (.bool true),
      .val (.bool false),
      .val (.bool false),
      .val (.bool false),
      .val (.int .i64 (i : Int)),
      .val (.bool false),
      .val (.bool false),
      .any,
      .any,
      .any,
      .any,
      .any,
      .any,
      .any,
      .any,
      .any,
      .any,
      .any,
      .any,
      .any,
      .any,
      .val (.bool false),
      .val (.bool false),
      .any,
      .any,
      .any,
      .any,
      .any,
      .any,
      .any,
      .any,
      .any,
      .any,
      .val (.bool false),
      .val (.bool false)] ?mkA (fun f => ?hmkA) ?f0A ?h0A ?hputA ?hstepA ?hendA
        case hmkA =>
          simp only [putOps, Act.put, List.setIfInBounds_toArray, List.set_cons_succ, List.set_cons_zero, Nat.zero_add, Nat.reduceAdd]
          rfl
        case f0A => exact fun k => ([u66, u67, u68, u69, u70, u71, u72, u73, u74, u75, u76, u77, u78, u79, u80, u81, u82, u83, u84, u85, u86, u87, u88, u89, u90, u91, u92, u93, u94, u95, u96, u97, u98, u99, u100, u101, u102, u103, u104, u105, u106, u107, u108, u109, u110] : List Value).getD k undef
        case h0A => exact rfl
        case hputA =>
          repeat (refine ⟨fun f v => rfl, ?_⟩)
          exact trivial
        case hstepA =>
          refine ⟨fun f w1 hb1 hd => ?_, ?_⟩
          · clear hd
            go_wp2_with fail
            exact ⟨_, by first | rfl | simp only [Act.put, List.setIfInBounds_toArray, List.set_cons_succ, List.set_cons_zero], Below.refl _ _, rfl⟩
          refine ⟨fun f w1 hb1 hd => ?_, ?_⟩
          · obtain ⟨d0, -⟩ := hd
            have q0 : f 0 = .int .i64 0 := d0
            clear d0
            go_wp2_with fail
            refine ⟨_, by first | rfl | simp only [q0, Act.put, List.setIfInBounds_toArray, List.set_cons_succ, List.set_cons_zero], Below.refl _ _, ?_⟩
            exact sq_bool (by first | assumption | (simp <;> omega))
          refine ⟨fun f w1 hb1 hd => ?_, ?_⟩
          · obtain ⟨d0, -⟩ := hd
            have q1 : f 1 = .bool false := d0
            clear d0
            go_wp2_with fail
            exact ⟨_, by first | rfl | simp only [q1, Act.put, List.setIfInBounds_toArray, List.set_cons_succ, List.set_cons_zero], Below.refl _ _, rfl⟩
          refine ⟨fun f w1 hb1 hd => ?_, ?_⟩
          · obtain ⟨d0, -⟩ := hd
            have q2 : f 2 = .bool false := d0
            clear d0
            obtain ⟨y0, y1, y2, y3, y4, y5⟩ := HX.out w1 hb1
            have Y0 := Lib.hid y0
            have Y2 := Lib.hid y2
            clear y0 y2
            rw [q2]
            go_wp2_with (refine wpList_load_rowG rfl 56 (.tmp 7) rfl w8.heap.size rfl 56 #[.int .i64 vk, .float .f64 vx, .string vs] (0, 0) _ Y0.out Tryd.underlying56 rfl size3v ?_)
            exact ⟨_, by first | rfl | simp only [q2, Act.put, List.setIfInBounds_toArray, List.set_cons_succ, List.set_cons_zero], Below.refl _ _, rfl⟩
          refine ⟨fun f w1 hb1 hd => ?_, ?_⟩
          · obtain ⟨d0, -⟩ := hd
            have q2 : f 2 = .bool false := d0
            clear d0
            go_wp2_with fail
            exact ⟨_, by first | rfl | simp only [q2, Act.put, List.setIfInBounds_toArray, List.set_cons_succ, List.set_cons_zero], Below.refl _ _, rfl⟩
          refine ⟨fun f w1 hb1 hd => ?_, ?_⟩
          · obtain ⟨d0, d1, -⟩ := hd
            have q4 : f 4 = .pointer (some ⟨wg.heap.size, 0, none⟩) := d0
            have q2 : f 2 = .bool false := d1
            clear d0 d1
            obtain ⟨y0, y1, y2, y3, y4, y5⟩ := HX.out w1 hb1
            have Y0 := Lib.hid y0
            have Y2 := Lib.hid y2
            clear y0 y2
            go_wp2_with fail
            exact ⟨_, by first | rfl | simp only [q2, q4, Act.put, List.setIfInBounds_toArray, List.set_cons_succ, List.set_cons_zero], Below.refl _ _, rfl⟩
          refine ⟨fun f w1 hb1 hd => ?_, ?_⟩
          · obtain ⟨d0, -⟩ := hd
            have q2 : f 2 = .bool false := d0
            clear d0
            go_wp2_with fail
            exact ⟨_, by first | rfl | simp only [q2, Act.put, List.setIfInBounds_toArray, List.set_cons_succ, List.set_cons_zero], Below.refl _ _, rfl⟩
          refine ⟨fun f w1 hb1 hd => ?_, ?_⟩
          · obtain ⟨d0, d1, d2, -⟩ := hd
            have q5 : f 5 = .slice (some ⟨b, off, none⟩) n c := d0
            have q6 : f 6 = .int .i64 (i : Int) := d1
            have q2 : f 2 = .bool false := d2
            clear d0 d1 d2
            go_wp2_with fail
            exact ⟨_, by first | rfl | simp only [q2, q5, q6, Act.put, List.setIfInBounds_toArray, List.set_cons_succ, List.set_cons_zero], Below.refl _ _, rfl⟩
          refine ⟨fun f w1 hb1 hd => ?_, ?_⟩
          · obtain ⟨d0, d1, -⟩ := hd
            have q7 : f 7 = .pointer (some ⟨b, off + i * 4, none⟩) := d0
            have q2 : f 2 = .bool false := d1
            clear d0 d1
            go_wp2_with fail
            exact ⟨_, by first | rfl | simp only [q2, q7, Act.put, List.setIfInBounds_toArray, List.set_cons_succ, List.set_cons_zero], Below.refl _ _, rfl⟩
          refine ⟨fun f w1 hb1 hd => ?_, ?_⟩
          · obtain ⟨d0, d1, -⟩ := hd
            have q8 : f 8 = .pointer (some ⟨b, off + i * 4 + 1, none⟩) := d0
            have q2 : f 2 = .bool false := d1
            clear d0 d1
            obtain ⟨y0, y1, y2, y3, y4, y5⟩ := HX.out w1 hb1
            have Y0 := Lib.hid y0
            have Y2 := Lib.hid y2
            clear y0 y2
            rw [q8, q2]
            go_wp2_with (refine wpList_load_midH rfl 56 (.tmp 74) rfl b (off + i * 4 + 1) rfl [.int .i64 vk, .float .f64 vx, .string vs] _ Y2.out Tryd.underlying56 rfl size3v ?_)
            exact ⟨_, by first | rfl | simp only [q2, q8, Act.put, List.setIfInBounds_toArray, List.set_cons_succ, List.set_cons_zero], Below.refl _ _, rfl⟩
          refine ⟨fun f w1 hb1 hd => ?_, ?_⟩
          · obtain ⟨d0, d1, d2, d3, -⟩ := hd
            have q3 : f 3 = .agg #[.int .i64 vk, .float .f64 vx, .string vs] := d0
            have q9 : f 9 = .agg #[.int .i64 vk, .float .f64 vx, .string vs] := d1
            have q2 : f 2 = .bool false := d2
            clear d0 d1 d2 d3
            rw [q3, q9, q2]
            go_wp2_with ((with_reducible refine (HKV.out _).mono ?_); rintro e w2 ⟨rfl, hb2⟩)
            exact ⟨_, by first | rfl | simp only [q2, q3, q9, Act.put, List.setIfInBounds_toArray, List.set_cons_succ, List.set_cons_zero], hb2, rfl⟩
          refine ⟨fun f w1 hb1 hd => ?_, ?_⟩
          · obtain ⟨d0, d1, -⟩ := hd
            have q10 : f 10 = .bool true := d0
            have q2 : f 2 = .bool false := d1
            clear d0 d1
            go_wp2_with fail
            exact ⟨_, by first | rfl | simp only [q2, q10, Act.put, List.setIfInBounds_toArray, List.set_cons_succ, List.set_cons_zero], Below.refl _ _, rfl⟩
          refine ⟨fun f w1 hb1 hd => ?_, ?_⟩
          · obtain ⟨d0, d1, -⟩ := hd
            have q2 : f 2 = .bool false := d0
            have q11 : f 11 = .bool false := d1
            clear d0 d1
            go_wp2_with fail
            exact ⟨_, by first | rfl | simp only [q2, q11, Act.put, List.setIfInBounds_toArray, List.set_cons_succ, List.set_cons_zero], Below.refl _ _, rfl⟩
          refine ⟨fun f w1 hb1 hd => ?_, ?_⟩
          · obtain ⟨d0, d1, -⟩ := hd
            have q12 : f 12 = .bool false := d0
            have q10 : f 10 = .bool true := d1
            clear d0 d1
            go_wp2_with fail
            exact ⟨_, by first | rfl | simp only [q10, q12, Act.put, List.setIfInBounds_toArray, List.set_cons_succ, List.set_cons_zero], Below.refl _ _, rfl⟩
          refine ⟨fun f w1 hb1 hd => ?_, ?_⟩
          · obtain ⟨d0, -⟩ := hd
            have q13 : f 13 = .bool false := d0
            clear d0
            go_wp2_with fail
            exact ⟨_, by first | rfl | simp only [q13, Act.put, List.setIfInBounds_toArray, List.set_cons_succ, List.set_cons_zero], Below.refl _ _, rfl⟩
          refine ⟨fun f w1 hb1 hd => ?_, ?_⟩
          · obtain ⟨d0, d1, -⟩ := hd
            have q14 : f 14 = .int .i64 (i : Int) := d0
            have q13 : f 13 = .bool false := d1
            clear d0 d1
            go_wp2_with fail
            refine ⟨_, by first | rfl | simp only [q13, q14, Act.put, List.setIfInBounds_toArray, List.set_cons_succ, List.set_cons_zero], Below.refl _ _, ?_⟩
            exact sq_bool (by first | assumption | (simp <;> omega))
          refine ⟨fun f w1 hb1 hd => ?_, ?_⟩
          · obtain ⟨d0, d1, d2, -⟩ := hd
            have q15 : f 15 = .bool false := d0
            have q13 : f 13 = .bool false := d1
            clear d0 d1 d2
            go_wp2_with fail
            exact ⟨_, by first | rfl | simp only [q13, q15, Act.put, List.setIfInBounds_toArray, List.set_cons_succ, List.set_cons_zero], Below.refl _ _, rfl⟩
          refine ⟨fun f w1 hb1 hd => ?_, ?_⟩
          · obtain ⟨d0, -⟩ := hd
            have q16 : f 16 = .bool false := d0
            clear d0
            go_wp2_with fail
            exact ⟨_, by first | rfl | simp only [q16, Act.put, List.setIfInBounds_toArray, List.set_cons_succ, List.set_cons_zero], Below.refl _ _, trivial⟩
          refine ⟨fun f w1 hb1 hd => ?_, ?_⟩
          · obtain ⟨d0, d1, -⟩ := hd
            have q16 : f 16 = .bool false := d1
            clear d0 d1
            go_wp2_with fail
            exact ⟨_, by first | rfl | simp only [q16, Act.put, List.setIfInBounds_toArray, List.set_cons_succ, List.set_cons_zero], Below.refl _ _, trivial⟩
          refine ⟨fun f w1 hb1 hd => ?_, ?_⟩
          · obtain ⟨d0, d1, -⟩ := hd
            have q16 : f 16 = .bool false := d1
            clear d0 d1
            go_wp2_with fail
            exact ⟨_, by first | rfl | simp only [q16, Act.put, List.setIfInBounds_toArray, List.set_cons_succ, List.set_cons_zero], Below.refl _ _, trivial⟩
          refine ⟨fun f w1 hb1 hd => ?_, ?_⟩
          · obtain ⟨d0, d1, -⟩ := hd
            have q16 : f 16 = .bool false := d1
            clear d0 d1
            go_wp2_with fail
            exact ⟨_, by first | rfl | simp only [q16, Act.put, List.setIfInBounds_toArray, List.set_cons_succ, List.set_cons_zero], Below.refl _ _, trivial⟩
          refine ⟨fun f w1 hb1 hd => ?_, ?_⟩
          · obtain ⟨d0, -⟩ := hd
            have q16 : f 16 = .bool false := d0
            clear d0
            go_wp2_with fail
            exact ⟨_, by first | rfl | simp only [q16, Act.put, List.setIfInBounds_toArray, List.set_cons_succ, List.set_cons_zero], Below.refl _ _, trivial⟩
          refine ⟨fun f w1 hb1 hd => ?_, ?_⟩
          · obtain ⟨d0, -⟩ := hd
            have q16 : f 16 = .bool false := d0
            clear d0
            go_wp2_with fail
            exact ⟨_, by first | rfl | simp only [q16, Act.put, List.setIfInBounds_toArray, List.set_cons_succ, List.set_cons_zero], Below.refl _ _, trivial⟩
          refine ⟨fun f w1 hb1 hd => ?_, ?_⟩
          · obtain ⟨d0, d1, -⟩ := hd
            have q16 : f 16 = .bool false := d1
            clear d0 d1
            go_wp2_with fail
            exact ⟨_, by first | rfl | simp only [q16, Act.put, List.setIfInBounds_toArray, List.set_cons_succ, List.set_cons_zero], Below.refl _ _, trivial⟩
          refine ⟨fun f w1 hb1 hd => ?_, ?_⟩
          · obtain ⟨d0, d1, d2, -⟩ := hd
            have q16 : f 16 = .bool false := d2
            clear d0 d1 d2
            go_wp2_with fail
            exact ⟨_, by first | rfl | simp only [q16, Act.put, List.setIfInBounds_toArray, List.set_cons_succ, List.set_cons_zero], Below.refl _ _, trivial⟩
          refine ⟨fun f w1 hb1 hd => ?_, ?_⟩
          · obtain ⟨d0, d1, -⟩ := hd
            have q16 : f 16 = .bool false := d1
            clear d0 d1
            go_wp2_with fail
            exact ⟨_, by first | rfl | simp only [q16, Act.put, List.setIfInBounds_toArray, List.set_cons_succ, List.set_cons_zero], Below.refl _ _, trivial⟩
          refine ⟨fun f w1 hb1 hd => ?_, ?_⟩
          · obtain ⟨d0, d1, d2, -⟩ := hd
            have q16 : f 16 = .bool false := d1
            clear d0 d1 d2
            go_wp2_with fail
            exact ⟨_, by first | rfl | simp only [q16, Act.put, List.setIfInBounds_toArray, List.set_cons_succ, List.set_cons_zero], Below.refl _ _, trivial⟩
          refine ⟨fun f w1 hb1 hd => ?_, ?_⟩
          · obtain ⟨d0, d1, -⟩ := hd
            have q16 : f 16 = .bool false := d1
            clear d0 d1
            go_wp2_with fail
            exact ⟨_, by first | rfl | simp only [q16, Act.put, List.setIfInBounds_toArray, List.set_cons_succ, List.set_cons_zero], Below.refl _ _, trivial⟩
          refine ⟨fun f w1 hb1 hd => ?_, ?_⟩
          · obtain ⟨d0, d1, -⟩ := hd
            have q16 : f 16 = .bool false := d1
            clear d0 d1
            go_wp2_with fail
            exact ⟨_, by first | rfl | simp only [q16, Act.put, List.setIfInBounds_toArray, List.set_cons_succ, List.set_cons_zero], Below.refl _ _, trivial⟩
          refine ⟨fun f w1 hb1 hd => ?_, ?_⟩
          · obtain ⟨d0, d1, -⟩ := hd
            have q16 : f 16 = .bool false := d1
            clear d0 d1
            go_wp2_with fail
            exact ⟨_, by first | rfl | simp only [q16, Act.put, List.setIfInBounds_toArray, List.set_cons_succ, List.set_cons_zero], Below.refl _ _, trivial⟩
          refine ⟨fun f w1 hb1 hd => ?_, ?_⟩
          · obtain ⟨d0, d1, d2, -⟩ := hd
            have q16 : f 16 = .bool false := d2
            clear d0 d1 d2
            go_wp2_with fail
            exact ⟨_, by first | rfl | simp only [q16, Act.put, List.setIfInBounds_toArray, List.set_cons_succ, List.set_cons_zero], Below.refl _ _, trivial⟩
          refine ⟨fun f w1 hb1 hd => ?_, ?_⟩
          · obtain ⟨d0, d1, d2, -⟩ := hd
            have q16 : f 16 = .bool false := d0
            have q13 : f 13 = .bool false := d2
            clear d0 d1 d2
            go_wp2_with fail
            exact ⟨_, by first | rfl | simp only [q13, q16, Act.put, List.setIfInBounds_toArray, List.set_cons_succ, List.set_cons_zero], Below.refl _ _, rfl⟩
          refine ⟨fun f w1 hb1 hd => ?_, ?_⟩
          · obtain ⟨d0, d1, d2, -⟩ := hd
            have q31 : f 31 = .bool false := d0
            have q13 : f 13 = .bool false := d2
            clear d0 d1 d2
            go_wp2_with fail
            exact ⟨_, by first | rfl | simp only [q13, q31, Act.put, List.setIfInBounds_toArray, List.set_cons_succ, List.set_cons_zero], Below.refl _ _, rfl⟩
          refine ⟨fun f w1 hb1 hd => ?_, ?_⟩
          · obtain ⟨d0, -⟩ := hd
            have q32 : f 32 = .bool false := d0
            clear d0
            go_wp2_with fail
            exact ⟨_, by first | rfl | simp only [q32, Act.put, List.setIfInBounds_toArray, List.set_cons_succ, List.set_cons_zero], Below.refl _ _, trivial⟩
          refine ⟨fun f w1 hb1 hd => ?_, ?_⟩
          · obtain ⟨d0, -⟩ := hd
            have q32 : f 32 = .bool false := d0
            clear d0
            go_wp2_with fail
            exact ⟨_, by first | rfl | simp only [q32, Act.put, List.setIfInBounds_toArray, List.set_cons_succ, List.set_cons_zero], Below.refl _ _, trivial⟩
          refine ⟨fun f w1 hb1 hd => ?_, ?_⟩
          · obtain ⟨d0, d1, d2, -⟩ := hd
            have q32 : f 32 = .bool false := d2
            clear d0 d1 d2
            go_wp2_with fail
            exact ⟨_, by first | rfl | simp only [q32, Act.put, List.setIfInBounds_toArray, List.set_cons_succ, List.set_cons_zero], Below.refl _ _, trivial⟩
          refine ⟨fun f w1 hb1 hd => ?_, ?_⟩
          · obtain ⟨d0, d1, -⟩ := hd
            have q32 : f 32 = .bool false := d1
            clear d0 d1
            go_wp2_with fail
            exact ⟨_, by first | rfl | simp only [q32, Act.put, List.setIfInBounds_toArray, List.set_cons_succ, List.set_cons_zero], Below.refl _ _, trivial⟩
          refine ⟨fun f w1 hb1 hd => ?_, ?_⟩
          · obtain ⟨d0, -⟩ := hd
            have q32 : f 32 = .bool false := d0
            clear d0
            go_wp2_with fail
            exact ⟨_, by first | rfl | simp only [q32, Act.put, List.setIfInBounds_toArray, List.set_cons_succ, List.set_cons_zero], Below.refl _ _, trivial⟩
          refine ⟨fun f w1 hb1 hd => ?_, ?_⟩
          · obtain ⟨d0, -⟩ := hd
            have q32 : f 32 = .bool false := d0
            clear d0
            go_wp2_with fail
            exact ⟨_, by first | rfl | simp only [q32, Act.put, List.setIfInBounds_toArray, List.set_cons_succ, List.set_cons_zero], Below.refl _ _, trivial⟩
          refine ⟨fun f w1 hb1 hd => ?_, ?_⟩
          · obtain ⟨d0, d1, -⟩ := hd
            have q32 : f 32 = .bool false := d1
            clear d0 d1
            go_wp2_with fail
            exact ⟨_, by first | rfl | simp only [q32, Act.put, List.setIfInBounds_toArray, List.set_cons_succ, List.set_cons_zero], Below.refl _ _, trivial⟩
          refine ⟨fun f w1 hb1 hd => ?_, ?_⟩
          · obtain ⟨d0, d1, d2, -⟩ := hd
            have q32 : f 32 = .bool false := d2
            clear d0 d1 d2
            go_wp2_with fail
            exact ⟨_, by first | rfl | simp only [q32, Act.put, List.setIfInBounds_toArray, List.set_cons_succ, List.set_cons_zero], Below.refl _ _, trivial⟩
          refine ⟨fun f w1 hb1 hd => ?_, ?_⟩
          · obtain ⟨d0, d1, -⟩ := hd
            have q32 : f 32 = .bool false := d1
            clear d0 d1
            go_wp2_with fail
            exact ⟨_, by first | rfl | simp only [q32, Act.put, List.setIfInBounds_toArray, List.set_cons_succ, List.set_cons_zero], Below.refl _ _, trivial⟩
          refine ⟨fun f w1 hb1 hd => ?_, ?_⟩
          · obtain ⟨d0, d1, d2, -⟩ := hd
            have q32 : f 32 = .bool false := d2
            clear d0 d1 d2
            go_wp2_with fail
            exact ⟨_, by first | rfl | simp only [q32, Act.put, List.setIfInBounds_toArray, List.set_cons_succ, List.set_cons_zero], Below.refl _ _, trivial⟩
          refine ⟨fun f w1 hb1 hd => ?_, ?_⟩
          · obtain ⟨d0, d1, d2, -⟩ := hd
            have q32 : f 32 = .bool false := d0
            have q13 : f 13 = .bool false := d2
            clear d0 d1 d2
            go_wp2_with fail
            exact ⟨_, by first | rfl | simp only [q13, q32, Act.put, List.setIfInBounds_toArray, List.set_cons_succ, List.set_cons_zero], Below.refl _ _, rfl⟩
          refine ⟨fun f w1 hb1 hd => ?_, ?_⟩
          · obtain ⟨d0, d1, -⟩ := hd
            have q13 : f 13 = .bool false := d0
            have q43 : f 43 = .bool false := d1
            clear d0 d1
            go_wp2_with fail
            exact ⟨_, by first | rfl | simp only [q13, q43, Act.put, List.setIfInBounds_toArray, List.set_cons_succ, List.set_cons_zero], Below.refl _ _, rfl⟩
          exact trivial
        case hendA =>
          intro f w1 hb1 hd
          have q44 : f 44 = .bool false := hd 44 (by decide)
          clear hd
          have hbn := bstep hb39.out hb1
          rw [q44]
          go_wp2_with fail
          go_roundg (gk - 1)
          case rel => exact ⟨i + 1, by have := Hig.out; omega, by go_num, hbn⟩
          case measure => have := Hig.out; omega
      · obtain ⟨p', hc4', hpo', hlt'⟩ := Hprev.out hpos
        rw [hj] at hc4'
        have hgt : (0 : Int) < (i : Int) := by omega
        have hji : (i : Int) - 1 = (j : Int) := by omega
        have hwj : IntKind.i64.wrap ((i : Int) - 1) = (j : Int) := by rw [IntWalk.i64_in _ (by omega)]; exact hji
        have j1 : (0 : Int) ≤ (j : Int) := by omega
        have j2 : (j : Int) < (n : Int) := by omega
        have hks' := keyB_size p'
        have HKs : Hid ((keyB p').size = KB.size → (Op.bytesLess LB.toList (lineB p').toList || LB.toList == (lineB p').toList) = false) := fun e => by
          rw [← Hlb.out]
          exact line_up hlt' (show p'.1.size = key.size by omega)
        have HW1' : Hid (∀ w', Calls Tryd.prog 24 #[.string (lineB p')] w' fun e w'' => (∃ A7 c7, e = .returned (.slice A7 2 c7) ∧ Rd w'' w''.heap.size 1 A7 2 c7 [.string (keyB p'), .string (valB p')]) ∧ Below w'.heap.size w' w'') := HWD.out p' hpo'
        obtain ⟨KP, hKP⟩ : ∃ KP, keyB p' = KP := ⟨_, rfl⟩
        obtain ⟨LP, hLP⟩ : ∃ LP, lineB p' = LP := ⟨_, rfl⟩
        obtain ⟨VP, hVP⟩ : ∃ VP, valB p' = VP := ⟨_, rfl⟩
        rw [hKP] at hks' HKs
        rw [hLP] at HKs hc4'
        have HW1 : Hid (∀ w', Calls Tryd.prog 24 #[.string LP] w' fun e w'' => (∃ A7 c7, e = .returned (.slice A7 2 c7) ∧ Rd w'' w''.heap.size 1 A7 2 c7 [.string KP, .string VP]) ∧ Below w'.heap.size w' w'') := by rw [← hLP, ← hKP, ← hVP]; exact HW1'.out
        have HX : Hid (∀ w', Below w9.heap.size w9 w' → w'.heap[w8.heap.size]? = some (.cells #[.int .i64 vk, .float .f64 vx, .string vs] 56 (0, 0)) ∧ w'.cell? ⟨wg.heap.size, 0, none⟩ = some (.slice (some ⟨b, off, none⟩) n c) ∧ w'.rangeAt b (off + i * 4 + 1) [.int .i64 vk, .float .f64 vx, .string vs] ∧ w'.cell? ⟨b7, off7, none⟩ = some (.string KB) ∧ w'.cell? ⟨b4, off4 + i, none⟩ = some (.string LB) ∧ w'.cell? ⟨b4, off4 + j, none⟩ = some (.string LP)) := fun w' h => by
          obtain ⟨h1, h2, h3, h4, h5⟩ := HX0.out w' h
          exact ⟨h1, h2, h3, h4, h5, ((bstep hb39.out h).cell (p := ⟨b4, off4 + j, none⟩) hb4).trans hc4'⟩
        have hk8' : p'.1.size ≤ 8 := hpo'.hi
        clear HX0 hj hpos Hprev HWD hKP hLP hVP hc4' hlt' HW1' hpo'
        rcases Decidable.em (KP.size = KB.size) with hsz | hsz
        · have HLn : Hid ((Op.bytesLess LB.toList LP.toList || LB.toList == LP.toList) = false) := HKs.out hsz
          have hkq : (KB.size : Int) = (KP.size : Int) := by omega
          clear HKs hsz hks' hk8' hks
          with_reducible refine wp_region_toldq (by kernel_rfl) (by kernel_rfl) [.val (.int .i64 0),
      .val (.bool false),
      .val (.bool false),
      .val (.agg #[.int .i64 vk, .float .f64 vx, .string vs]),
      .val (.pointer (some ⟨wg.heap.size, 0, none⟩)),
      .val (.slice (some ⟨b, off, none⟩) n c),
      .val (.int .i64 (i : Int)),
      .val (.pointer (some ⟨b, off + i * 4, none⟩)),
      .val (.pointer (some ⟨b, off + i * 4 + 1, none⟩)),
      .val (.agg #[.int .i64 vk, .float .f64 vx, .string vs]),
      .val (.bool true),
      .val (.bool false),
      .val (.bool false),
      .val (.bool false),
      .val (.int .i64 (i : Int)),
      .val (.bool true),
      .val (.bool true),
      .val (.slice (some ⟨b7, off7, none⟩) 2 c7),
      .val (.pointer (some ⟨b7, off7, none⟩)),
      .val (.string KB),
      .val (.int .i64 (KB.size : Int)),
      .val (.slice (some ⟨b4, off4, none⟩) n c3),
      .val (.int .i64 (i : Int)),
      .val (.int .i64 (j : Int)),
      .val (.pointer (some ⟨b4, off4 + j, none⟩)),
      .val (.string LP),
      .rd (2) ([.string KP, .string VP]),
      .ptr (.string KP),
      .val (.string KP),
      .val (.int .i64 (KP.size : Int)),
      .val (.bool true),
      .val (.bool true),
      .val (.bool true),
      .val (.slice (some ⟨b4, off4, none⟩) n c3),
      .val (.int .i64 (i : Int)),
      .val (.pointer (some ⟨b4, off4 + i, none⟩)),
      .val (.string LB),
      .val (.slice (some ⟨b4, off4, none⟩) n c3),
      .val (.int .i64 (i : Int)),
      .val (.int .i64 (j : Int)),
      .val (.pointer (some ⟨b4, off4 + j, none⟩)),
      .val (.string LP),
      .val (.bool false),
      .val (.bool false),
      .val (.bool false)] ?mkC (fun f => ?hmkC) ?f0C ?h0C ?hputC ?hstepC ?hendC
          case hmkC =>
            simp only [putOps, Act.put, List.setIfInBounds_toArray, List.set_cons_succ, List.set_cons_zero, Nat.zero_add, Nat.reduceAdd]
            rfl
          case f0C => exact fun k => ([u66, u67, u68, u69, u70, u71, u72, u73, u74, u75, u76, u77, u78, u79, u80, u81, u82, u83, u84, u85, u86, u87, u88, u89, u90, u91, u92, u93, u94, u95, u96, u97, u98, u99, u100, u101, u102, u103, u104, u105, u106, u107, u108, u109, u110] : List Value).getD k undef
          case h0C => exact rfl
          case hputC =>
            repeat (refine ⟨fun f v => rfl, ?_⟩)
            exact trivial
          case hstepC =>
            refine ⟨fun f w1 hb1 hd => ?_, ?_⟩
            · clear hd
              go_wp2_with fail
              exact ⟨_, by first | rfl | simp only [Act.put, List.setIfInBounds_toArray, List.set_cons_succ, List.set_cons_zero], Below.refl _ _, rfl⟩
            refine ⟨fun f w1 hb1 hd => ?_, ?_⟩
            · obtain ⟨d0, -⟩ := hd
              have q0 : f 0 = .int .i64 0 := d0
              clear d0
              go_wp2_with fail
              refine ⟨_, by first | rfl | simp only [q0, Act.put, List.setIfInBounds_toArray, List.set_cons_succ, List.set_cons_zero], Below.refl _ _, ?_⟩
              exact sq_bool (by first | assumption | (simp <;> omega))
            refine ⟨fun f w1 hb1 hd => ?_, ?_⟩
            · obtain ⟨d0, -⟩ := hd
              have q1 : f 1 = .bool false := d0
              clear d0
              go_wp2_with fail
              exact ⟨_, by first | rfl | simp only [q1, Act.put, List.setIfInBounds_toArray, List.set_cons_succ, List.set_cons_zero], Below.refl _ _, rfl⟩
            refine ⟨fun f w1 hb1 hd => ?_, ?_⟩
            · obtain ⟨d0, -⟩ := hd
              have q2 : f 2 = .bool false := d0
              clear d0
              obtain ⟨y0, y1, y2, y3, y4, y5⟩ := HX.out w1 hb1
              have Y0 := Lib.hid y0
              have Y2 := Lib.hid y2
              clear y0 y2
              rw [q2]
              go_wp2_with (refine wpList_load_rowG rfl 56 (.tmp 7) rfl w8.heap.size rfl 56 #[.int .i64 vk, .float .f64 vx, .string vs] (0, 0) _ Y0.out Tryd.underlying56 rfl size3v ?_)
              exact ⟨_, by first | rfl | simp only [q2, Act.put, List.setIfInBounds_toArray, List.set_cons_succ, List.set_cons_zero], Below.refl _ _, rfl⟩
            refine ⟨fun f w1 hb1 hd => ?_, ?_⟩
            · obtain ⟨d0, -⟩ := hd
              have q2 : f 2 = .bool false := d0
              clear d0
              go_wp2_with fail
              exact ⟨_, by first | rfl | simp only [q2, Act.put, List.setIfInBounds_toArray, List.set_cons_succ, List.set_cons_zero], Below.refl _ _, rfl⟩
            refine ⟨fun f w1 hb1 hd => ?_, ?_⟩
            · obtain ⟨d0, d1, -⟩ := hd
              have q4 : f 4 = .pointer (some ⟨wg.heap.size, 0, none⟩) := d0
              have q2 : f 2 = .bool false := d1
              clear d0 d1
              obtain ⟨y0, y1, y2, y3, y4, y5⟩ := HX.out w1 hb1
              have Y0 := Lib.hid y0
              have Y2 := Lib.hid y2
              clear y0 y2
              go_wp2_with fail
              exact ⟨_, by first | rfl | simp only [q2, q4, Act.put, List.setIfInBounds_toArray, List.set_cons_succ, List.set_cons_zero], Below.refl _ _, rfl⟩
            refine ⟨fun f w1 hb1 hd => ?_, ?_⟩
            · obtain ⟨d0, -⟩ := hd
              have q2 : f 2 = .bool false := d0
              clear d0
              go_wp2_with fail
              exact ⟨_, by first | rfl | simp only [q2, Act.put, List.setIfInBounds_toArray, List.set_cons_succ, List.set_cons_zero], Below.refl _ _, rfl⟩
            refine ⟨fun f w1 hb1 hd => ?_, ?_⟩
            · obtain ⟨d0, d1, d2, -⟩ := hd
              have q5 : f 5 = .slice (some ⟨b, off, none⟩) n c := d0
              have q6 : f 6 = .int .i64 (i : Int) := d1
              have q2 : f 2 = .bool false := d2
              clear d0 d1 d2
              go_wp2_with fail
              exact ⟨_, by first | rfl | simp only [q2, q5, q6, Act.put, List.setIfInBounds_toArray, List.set_cons_succ, List.set_cons_zero], Below.refl _ _, rfl⟩
            refine ⟨fun f w1 hb1 hd => ?_, ?_⟩
            · obtain ⟨d0, d1, -⟩ := hd
              have q7 : f 7 = .pointer (some ⟨b, off + i * 4, none⟩) := d0
              have q2 : f 2 = .bool false := d1
              clear d0 d1
              go_wp2_with fail
              exact ⟨_, by first | rfl | simp only [q2, q7, Act.put, List.setIfInBounds_toArray, List.set_cons_succ, List.set_cons_zero], Below.refl _ _, rfl⟩
            refine ⟨fun f w1 hb1 hd => ?_, ?_⟩
            · obtain ⟨d0, d1, -⟩ := hd
              have q8 : f 8 = .pointer (some ⟨b, off + i * 4 + 1, none⟩) := d0
              have q2 : f 2 = .bool false := d1
              clear d0 d1
              obtain ⟨y0, y1, y2, y3, y4, y5⟩ := HX.out w1 hb1
              have Y0 := Lib.hid y0
              have Y2 := Lib.hid y2
              clear y0 y2
              rw [q8, q2]
              go_wp2_with (refine wpList_load_midH rfl 56 (.tmp 74) rfl b (off + i * 4 + 1) rfl [.int .i64 vk, .float .f64 vx, .string vs] _ Y2.out Tryd.underlying56 rfl size3v ?_)
              exact ⟨_, by first | rfl | simp only [q2, q8, Act.put, List.setIfInBounds_toArray, List.set_cons_succ, List.set_cons_zero], Below.refl _ _, rfl⟩
            refine ⟨fun f w1 hb1 hd => ?_, ?_⟩
            · obtain ⟨d0, d1, d2, d3, -⟩ := hd
              have q3 : f 3 = .agg #[.int .i64 vk, .float .f64 vx, .string vs] := d0
              have q9 : f 9 = .agg #[.int .i64 vk, .float .f64 vx, .string vs] := d1
              have q2 : f 2 = .bool false := d2
              clear d0 d1 d2 d3
              rw [q3, q9, q2]
              go_wp2_with ((with_reducible refine (HKV.out _).mono ?_); rintro e w2 ⟨rfl, hb2⟩)
              exact ⟨_, by first | rfl | simp only [q2, q3, q9, Act.put, List.setIfInBounds_toArray, List.set_cons_succ, List.set_cons_zero], hb2, rfl⟩
            refine ⟨fun f w1 hb1 hd => ?_, ?_⟩
            · obtain ⟨d0, d1, -⟩ := hd
              have q10 : f 10 = .bool true := d0
              have q2 : f 2 = .bool false := d1
              clear d0 d1
              go_wp2_with fail
              exact ⟨_, by first | rfl | simp only [q2, q10, Act.put, List.setIfInBounds_toArray, List.set_cons_succ, List.set_cons_zero], Below.refl _ _, rfl⟩
            refine ⟨fun f w1 hb1 hd => ?_, ?_⟩
            · obtain ⟨d0, d1, -⟩ := hd
              have q2 : f 2 = .bool false := d0
              have q11 : f 11 = .bool false := d1
              clear d0 d1
              go_wp2_with fail
              exact ⟨_, by first | rfl | simp only [q2, q11, Act.put, List.setIfInBounds_toArray, List.set_cons_succ, List.set_cons_zero], Below.refl _ _, rfl⟩
            refine ⟨fun f w1 hb1 hd => ?_, ?_⟩
            · obtain ⟨d0, d1, -⟩ := hd
              have q12 : f 12 = .bool false := d0
              have q10 : f 10 = .bool true := d1
              clear d0 d1
              go_wp2_with fail
              exact ⟨_, by first | rfl | simp only [q10, q12, Act.put, List.setIfInBounds_toArray, List.set_cons_succ, List.set_cons_zero], Below.refl _ _, rfl⟩
            refine ⟨fun f w1 hb1 hd => ?_, ?_⟩
            · obtain ⟨d0, -⟩ := hd
              have q13 : f 13 = .bool false := d0
              clear d0
              go_wp2_with fail
              exact ⟨_, by first | rfl | simp only [q13, Act.put, List.setIfInBounds_toArray, List.set_cons_succ, List.set_cons_zero], Below.refl _ _, rfl⟩
            refine ⟨fun f w1 hb1 hd => ?_, ?_⟩
            · obtain ⟨d0, d1, -⟩ := hd
              have q14 : f 14 = .int .i64 (i : Int) := d0
              have q13 : f 13 = .bool false := d1
              clear d0 d1
              go_wp2_with fail
              refine ⟨_, by first | rfl | simp only [q13, q14, Act.put, List.setIfInBounds_toArray, List.set_cons_succ, List.set_cons_zero], Below.refl _ _, ?_⟩
              exact sq_bool (by first | assumption | (simp <;> omega))
            refine ⟨fun f w1 hb1 hd => ?_, ?_⟩
            · obtain ⟨d0, d1, d2, -⟩ := hd
              have q15 : f 15 = .bool true := d0
              have q13 : f 13 = .bool false := d1
              clear d0 d1 d2
              go_wp2_with fail
              exact ⟨_, by first | rfl | simp only [q13, q15, Act.put, List.setIfInBounds_toArray, List.set_cons_succ, List.set_cons_zero], Below.refl _ _, rfl⟩
            refine ⟨fun f w1 hb1 hd => ?_, ?_⟩
            · obtain ⟨d0, -⟩ := hd
              have q16 : f 16 = .bool true := d0
              clear d0
              go_wp2_with fail
              exact ⟨_, by first | rfl | simp only [q16, Act.put, List.setIfInBounds_toArray, List.set_cons_succ, List.set_cons_zero], Below.refl _ _, rfl⟩
            refine ⟨fun f w1 hb1 hd => ?_, ?_⟩
            · obtain ⟨d0, d1, -⟩ := hd
              have q17 : f 17 = .slice (some ⟨b7, off7, none⟩) 2 c7 := d0
              have q16 : f 16 = .bool true := d1
              clear d0 d1
              go_wp2_with fail
              exact ⟨_, by first | rfl | simp only [q16, q17, Act.put, List.setIfInBounds_toArray, List.set_cons_succ, List.set_cons_zero], Below.refl _ _, rfl⟩
            refine ⟨fun f w1 hb1 hd => ?_, ?_⟩
            · obtain ⟨d0, d1, -⟩ := hd
              have q18 : f 18 = .pointer (some ⟨b7, off7, none⟩) := d0
              have q16 : f 16 = .bool true := d1
              clear d0 d1
              obtain ⟨y0, y1, y2, y3, y4, y5⟩ := HX.out w1 hb1
              have Y0 := Lib.hid y0
              have Y2 := Lib.hid y2
              clear y0 y2
              go_wp2_with fail
              exact ⟨_, by first | rfl | simp only [q16, q18, Act.put, List.setIfInBounds_toArray, List.set_cons_succ, List.set_cons_zero], Below.refl _ _, rfl⟩
            refine ⟨fun f w1 hb1 hd => ?_, ?_⟩
            · obtain ⟨d0, d1, -⟩ := hd
              have q19 : f 19 = .string KB := d0
              have q16 : f 16 = .bool true := d1
              clear d0 d1
              go_wp2_with fail
              exact ⟨_, by first | rfl | simp only [q16, q19, Act.put, List.setIfInBounds_toArray, List.set_cons_succ, List.set_cons_zero], Below.refl _ _, rfl⟩
            refine ⟨fun f w1 hb1 hd => ?_, ?_⟩
            · obtain ⟨d0, -⟩ := hd
              have q16 : f 16 = .bool true := d0
              clear d0
              go_wp2_with fail
              exact ⟨_, by first | rfl | simp only [q16, Act.put, List.setIfInBounds_toArray, List.set_cons_succ, List.set_cons_zero], Below.refl _ _, rfl⟩
            refine ⟨fun f w1 hb1 hd => ?_, ?_⟩
            · obtain ⟨d0, -⟩ := hd
              have q16 : f 16 = .bool true := d0
              clear d0
              go_wp2_with fail
              exact ⟨_, by first | rfl | simp only [q16, Act.put, List.setIfInBounds_toArray, List.set_cons_succ, List.set_cons_zero], Below.refl _ _, rfl⟩
            refine ⟨fun f w1 hb1 hd => ?_, ?_⟩
            · obtain ⟨d0, d1, -⟩ := hd
              have q22 : f 22 = .int .i64 (i : Int) := d0
              have q16 : f 16 = .bool true := d1
              clear d0 d1
              go_wp2_with fail
              exact ⟨_, by first | rfl | simp only [q16, q22, Act.put, List.setIfInBounds_toArray, List.set_cons_succ, List.set_cons_zero], Below.refl _ _, rfl⟩
            refine ⟨fun f w1 hb1 hd => ?_, ?_⟩
            · obtain ⟨d0, d1, d2, -⟩ := hd
              have q21 : f 21 = .slice (some ⟨b4, off4, none⟩) n c3 := d0
              have q23 : f 23 = .int .i64 (j : Int) := d1
              have q16 : f 16 = .bool true := d2
              clear d0 d1 d2
              go_wp2_with fail
              exact ⟨_, by first | rfl | simp only [q16, q21, q23, Act.put, List.setIfInBounds_toArray, List.set_cons_succ, List.set_cons_zero], Below.refl _ _, rfl⟩
            refine ⟨fun f w1 hb1 hd => ?_, ?_⟩
            · obtain ⟨d0, d1, -⟩ := hd
              have q24 : f 24 = .pointer (some ⟨b4, off4 + j, none⟩) := d0
              have q16 : f 16 = .bool true := d1
              clear d0 d1
              obtain ⟨y0, y1, y2, y3, y4, y5⟩ := HX.out w1 hb1
              have Y0 := Lib.hid y0
              have Y2 := Lib.hid y2
              clear y0 y2
              go_wp2_with fail
              exact ⟨_, by first | rfl | simp only [q16, q24, Act.put, List.setIfInBounds_toArray, List.set_cons_succ, List.set_cons_zero], Below.refl _ _, rfl⟩
            refine ⟨fun f w1 hb1 hd => ?_, ?_⟩
            · obtain ⟨d0, d1, d2, -⟩ := hd
              have q25 : f 25 = .string LP := d0
              have q16 : f 16 = .bool true := d1
              clear d0 d1 d2
              rw [q25, q16]
              go_wp2_with ((with_reducible refine (HW1.out _).mono ?_); rintro e w2 ⟨⟨A9, c9, rfl, hr9⟩, hb2⟩)
              exact ⟨_, by first | rfl | simp only [q16, q25, Act.put, List.setIfInBounds_toArray, List.set_cons_succ, List.set_cons_zero], hb2, A9, c9, rfl, hr9⟩
            refine ⟨fun f w1 hb1 hd => ?_, ?_⟩
            · obtain ⟨d0, d1, -⟩ := hd
              obtain ⟨A26, c26, q26, r26⟩ := d0
              have q16 : f 16 = .bool true := d1
              clear d1
              obtain ⟨_, h26, h26m, hh⟩ := r26
              obtain ⟨b9, o9, rfl, hb9, hcell⟩ := hh (by decide)
              have e9 := hcell 0 _ rfl
              rw [Nat.add_zero] at e9
              have E9 := Lib.hid e9
              have HB9 := Lib.hid hb9
              unfold maxLen at h26m
              clear hh hcell e9 hb9
              rw [q26]
              go_wp2_with fail
              exact ⟨_, by first | rfl | simp only [q16, q26, Act.put, List.setIfInBounds_toArray, List.set_cons_succ, List.set_cons_zero], Below.refl _ _, b9, o9, rfl, HB9.out, E9.out⟩
            refine ⟨fun f w1 hb1 hd => ?_, ?_⟩
            · obtain ⟨d0, d1, -⟩ := hd
              obtain ⟨b27, o27, q27, l27, e27⟩ := d0
              have q16 : f 16 = .bool true := d1
              clear d1
              go_wp2_with fail
              exact ⟨_, by first | rfl | simp only [q16, q27, Act.put, List.setIfInBounds_toArray, List.set_cons_succ, List.set_cons_zero], Below.refl _ _, rfl⟩
            refine ⟨fun f w1 hb1 hd => ?_, ?_⟩
            · obtain ⟨d0, d1, -⟩ := hd
              have q28 : f 28 = .string KP := d0
              have q16 : f 16 = .bool true := d1
              clear d0 d1
              go_wp2_with fail
              exact ⟨_, by first | rfl | simp only [q16, q28, Act.put, List.setIfInBounds_toArray, List.set_cons_succ, List.set_cons_zero], Below.refl _ _, rfl⟩
            refine ⟨fun f w1 hb1 hd => ?_, ?_⟩
            · obtain ⟨d0, d1, d2, -⟩ := hd
              have q20 : f 20 = .int .i64 (KB.size : Int) := d0
              have q29 : f 29 = .int .i64 (KP.size : Int) := d1
              have q16 : f 16 = .bool true := d2
              clear d0 d1 d2
              go_wp2_with fail
              refine ⟨_, by first | rfl | simp only [q16, q20, q29, Act.put, List.setIfInBounds_toArray, List.set_cons_succ, List.set_cons_zero], Below.refl _ _, ?_⟩
              exact sq_bool (by first | assumption | (simp <;> omega))
            refine ⟨fun f w1 hb1 hd => ?_, ?_⟩
            · obtain ⟨d0, d1, d2, -⟩ := hd
              have q16 : f 16 = .bool true := d0
              have q30 : f 30 = .bool true := d1
              have q13 : f 13 = .bool false := d2
              clear d0 d1 d2
              go_wp2_with fail
              exact ⟨_, by first | rfl | simp only [q13, q16, q30, Act.put, List.setIfInBounds_toArray, List.set_cons_succ, List.set_cons_zero], Below.refl _ _, rfl⟩
            refine ⟨fun f w1 hb1 hd => ?_, ?_⟩
            · obtain ⟨d0, d1, d2, -⟩ := hd
              have q31 : f 31 = .bool true := d0
              obtain ⟨A26, c26, q26, r26⟩ := d1
              have q13 : f 13 = .bool false := d2
              clear d0 d2
              go_wp2_with fail
              exact ⟨_, by first | rfl | simp only [q13, q26, q31, Act.put, List.setIfInBounds_toArray, List.set_cons_succ, List.set_cons_zero], Below.refl _ _, rfl⟩
            refine ⟨fun f w1 hb1 hd => ?_, ?_⟩
            · obtain ⟨d0, -⟩ := hd
              have q32 : f 32 = .bool true := d0
              clear d0
              go_wp2_with fail
              exact ⟨_, by first | rfl | simp only [q32, Act.put, List.setIfInBounds_toArray, List.set_cons_succ, List.set_cons_zero], Below.refl _ _, rfl⟩
            refine ⟨fun f w1 hb1 hd => ?_, ?_⟩
            · obtain ⟨d0, -⟩ := hd
              have q32 : f 32 = .bool true := d0
              clear d0
              go_wp2_with fail
              exact ⟨_, by first | rfl | simp only [q32, Act.put, List.setIfInBounds_toArray, List.set_cons_succ, List.set_cons_zero], Below.refl _ _, rfl⟩
            refine ⟨fun f w1 hb1 hd => ?_, ?_⟩
            · obtain ⟨d0, d1, d2, -⟩ := hd
              have q33 : f 33 = .slice (some ⟨b4, off4, none⟩) n c3 := d0
              have q34 : f 34 = .int .i64 (i : Int) := d1
              have q32 : f 32 = .bool true := d2
              clear d0 d1 d2
              go_wp2_with fail
              exact ⟨_, by first | rfl | simp only [q32, q33, q34, Act.put, List.setIfInBounds_toArray, List.set_cons_succ, List.set_cons_zero], Below.refl _ _, rfl⟩
            refine ⟨fun f w1 hb1 hd => ?_, ?_⟩
            · obtain ⟨d0, d1, -⟩ := hd
              have q35 : f 35 = .pointer (some ⟨b4, off4 + i, none⟩) := d0
              have q32 : f 32 = .bool true := d1
              clear d0 d1
              obtain ⟨y0, y1, y2, y3, y4, y5⟩ := HX.out w1 hb1
              have Y0 := Lib.hid y0
              have Y2 := Lib.hid y2
              clear y0 y2
              go_wp2_with fail
              exact ⟨_, by first | rfl | simp only [q32, q35, Act.put, List.setIfInBounds_toArray, List.set_cons_succ, List.set_cons_zero], Below.refl _ _, rfl⟩
            refine ⟨fun f w1 hb1 hd => ?_, ?_⟩
            · obtain ⟨d0, -⟩ := hd
              have q32 : f 32 = .bool true := d0
              clear d0
              go_wp2_with fail
              exact ⟨_, by first | rfl | simp only [q32, Act.put, List.setIfInBounds_toArray, List.set_cons_succ, List.set_cons_zero], Below.refl _ _, rfl⟩
            refine ⟨fun f w1 hb1 hd => ?_, ?_⟩
            · obtain ⟨d0, -⟩ := hd
              have q32 : f 32 = .bool true := d0
              clear d0
              go_wp2_with fail
              exact ⟨_, by first | rfl | simp only [q32, Act.put, List.setIfInBounds_toArray, List.set_cons_succ, List.set_cons_zero], Below.refl _ _, rfl⟩
            refine ⟨fun f w1 hb1 hd => ?_, ?_⟩
            · obtain ⟨d0, d1, -⟩ := hd
              have q38 : f 38 = .int .i64 (i : Int) := d0
              have q32 : f 32 = .bool true := d1
              clear d0 d1
              go_wp2_with fail
              exact ⟨_, by first | rfl | simp only [q32, q38, Act.put, List.setIfInBounds_toArray, List.set_cons_succ, List.set_cons_zero], Below.refl _ _, rfl⟩
            refine ⟨fun f w1 hb1 hd => ?_, ?_⟩
            · obtain ⟨d0, d1, d2, -⟩ := hd
              have q37 : f 37 = .slice (some ⟨b4, off4, none⟩) n c3 := d0
              have q39 : f 39 = .int .i64 (j : Int) := d1
              have q32 : f 32 = .bool true := d2
              clear d0 d1 d2
              go_wp2_with fail
              exact ⟨_, by first | rfl | simp only [q32, q37, q39, Act.put, List.setIfInBounds_toArray, List.set_cons_succ, List.set_cons_zero], Below.refl _ _, rfl⟩
            refine ⟨fun f w1 hb1 hd => ?_, ?_⟩
            · obtain ⟨d0, d1, -⟩ := hd
              have q40 : f 40 = .pointer (some ⟨b4, off4 + j, none⟩) := d0
              have q32 : f 32 = .bool true := d1
              clear d0 d1
              obtain ⟨y0, y1, y2, y3, y4, y5⟩ := HX.out w1 hb1
              have Y0 := Lib.hid y0
              have Y2 := Lib.hid y2
              clear y0 y2
              go_wp2_with fail
              exact ⟨_, by first | rfl | simp only [q32, q40, Act.put, List.setIfInBounds_toArray, List.set_cons_succ, List.set_cons_zero], Below.refl _ _, rfl⟩
            refine ⟨fun f w1 hb1 hd => ?_, ?_⟩
            · obtain ⟨d0, d1, d2, -⟩ := hd
              have q36 : f 36 = .string LB := d0
              have q41 : f 41 = .string LP := d1
              have q32 : f 32 = .bool true := d2
              clear d0 d1 d2
              have hl := HLn.out
              go_wp2_with fail
              refine ⟨_, by first | rfl | simp only [q32, q36, q41, Act.put, List.setIfInBounds_toArray, List.set_cons_succ, List.set_cons_zero], Below.refl _ _, ?_⟩
              exact sq_bool (by first | assumption | (simp <;> omega))
            refine ⟨fun f w1 hb1 hd => ?_, ?_⟩
            · obtain ⟨d0, d1, d2, -⟩ := hd
              have q32 : f 32 = .bool true := d0
              have q42 : f 42 = .bool false := d1
              have q13 : f 13 = .bool false := d2
              clear d0 d1 d2
              go_wp2_with fail
              exact ⟨_, by first | rfl | simp only [q13, q32, q42, Act.put, List.setIfInBounds_toArray, List.set_cons_succ, List.set_cons_zero], Below.refl _ _, rfl⟩
            refine ⟨fun f w1 hb1 hd => ?_, ?_⟩
            · obtain ⟨d0, d1, -⟩ := hd
              have q13 : f 13 = .bool false := d0
              have q43 : f 43 = .bool false := d1
              clear d0 d1
              go_wp2_with fail
              exact ⟨_, by first | rfl | simp only [q13, q43, Act.put, List.setIfInBounds_toArray, List.set_cons_succ, List.set_cons_zero], Below.refl _ _, rfl⟩
            exact trivial
          case hendC =>
            intro f w1 hb1 hd
            have q44 : f 44 = .bool false := hd 44 (by decide)
            clear hd
            have hbn := bstep hb39.out hb1
            rw [q44]
            go_wp2_with fail
            go_roundg (gk - 1)
            case rel => exact ⟨i + 1, by have := Hig.out; omega, by go_num, hbn⟩
            case measure => have := Hig.out; omega
        · have hkq : ¬ (KB.size : Int) = (KP.size : Int) := by omega
          clear HKs hsz hks' hk8' hks
          with_reducible refine wp_region_toldq (by kernel_rfl) (by kernel_rfl) [.val (.int .i64 0),
      .val (.bool false),
      .val (.bool false),
      .val (.agg #[.int .i64 vk, .float .f64 vx, .string vs]),
      .val (.pointer (some ⟨wg.heap.size, 0, none⟩)),
      .val (.slice (some ⟨b, off, none⟩) n c),
      .val (.int .i64 (i : Int)),
      .val (.pointer (some ⟨b, off + i * 4, none⟩)),
      .val (.pointer (some ⟨b, off + i * 4 + 1, none⟩)),
      .val (.agg #[.int .i64 vk, .float .f64 vx, .string vs]),
      .val (.bool true),
      .val (.bool false),
      .val (.bool false),
      .val (.bool false),
      .val (.int .i64 (i : Int)),
      .val (.bool true),
      .val (.bool true),
      .val (.slice (some ⟨b7, off7, none⟩) 2 c7),
      .val (.pointer (some ⟨b7, off7, none⟩)),
      .val (.string KB),
      .val (.int .i64 (KB.size : Int)),
      .val (.slice (some ⟨b4, off4, none⟩) n c3),
      .val (.int .i64 (i : Int)),
      .val (.int .i64 (j : Int)),
      .val (.pointer (some ⟨b4, off4 + j, none⟩)),
      .val (.string LP),
      .rd (2) ([.string KP, .string VP]),
      .ptr (.string KP),
      .val (.string KP),
      .val (.int .i64 (KP.size : Int)),
      .val (.bool false),
      .val (.bool false),
      .val (.bool false),
      .any,
      .any,
      .any,
      .any,
      .any,
      .any,
      .any,
      .any,
      .any,
      .any,
      .val (.bool false),
      .val (.bool false)] ?mkB (fun f => ?hmkB) ?f0B ?h0B ?hputB ?hstepB ?hendB
          case hmkB =>
            simp only [putOps, Act.put, List.setIfInBounds_toArray, List.set_cons_succ, List.set_cons_zero, Nat.zero_add, Nat.reduceAdd]
            rfl
          case f0B => exact fun k => ([u66, u67, u68, u69, u70, u71, u72, u73, u74, u75, u76, u77, u78, u79, u80, u81, u82, u83, u84, u85, u86, u87, u88, u89, u90, u91, u92, u93, u94, u95, u96, u97, u98, u99, u100, u101, u102, u103, u104, u105, u106, u107, u108, u109, u110] : List Value).getD k undef
          case h0B => exact rfl
          case hputB =>
            repeat (refine ⟨fun f v => rfl, ?_⟩)
            exact trivial
          case hstepB =>
            refine ⟨fun f w1 hb1 hd => ?_, ?_⟩
            · clear hd
              go_wp2_with fail
              exact ⟨_, by first | rfl | simp only [Act.put, List.setIfInBounds_toArray, List.set_cons_succ, List.set_cons_zero], Below.refl _ _, rfl⟩
            refine ⟨fun f w1 hb1 hd => ?_, ?_⟩
            · obtain ⟨d0, -⟩ := hd
              have q0 : f 0 = .int .i64 0 := d0
              clear d0
              go_wp2_with fail
              refine ⟨_, by first | rfl | simp only [q0, Act.put, List.setIfInBounds_toArray, List.set_cons_succ, List.set_cons_zero], Below.refl _ _, ?_⟩
              exact sq_bool (by first | assumption | (simp <;> omega))
            refine ⟨fun f w1 hb1 hd => ?_, ?_⟩
            · obtain ⟨d0, -⟩ := hd
              have q1 : f 1 = .bool false := d0
              clear d0
              go_wp2_with fail
              exact ⟨_, by first | rfl | simp only [q1, Act.put, List.setIfInBounds_toArray, List.set_cons_succ, List.set_cons_zero], Below.refl _ _, rfl⟩
            refine ⟨fun f w1 hb1 hd => ?_, ?_⟩
            · obtain ⟨d0, -⟩ := hd
              have q2 : f 2 = .bool false := d0
              clear d0
              obtain ⟨y0, y1, y2, y3, y4, y5⟩ := HX.out w1 hb1
              have Y0 := Lib.hid y0
              have Y2 := Lib.hid y2
              clear y0 y2
              rw [q2]
              go_wp2_with (refine wpList_load_rowG rfl 56 (.tmp 7) rfl w8.heap.size rfl 56 #[.int .i64 vk, .float .f64 vx, .string vs] (0, 0) _ Y0.out Tryd.underlying56 rfl size3v ?_)
              exact ⟨_, by first | rfl | simp only [q2, Act.put, List.setIfInBounds_toArray, List.set_cons_succ, List.set_cons_zero], Below.refl _ _, rfl⟩
            refine ⟨fun f w1 hb1 hd => ?_, ?_⟩
            · obtain ⟨d0, -⟩ := hd
              have q2 : f 2 = .bool false := d0
              clear d0
              go_wp2_with fail
              exact ⟨_, by first | rfl | simp only [q2, Act.put, List.setIfInBounds_toArray, List.set_cons_succ, List.set_cons_zero], Below.refl _ _, rfl⟩
            refine ⟨fun f w1 hb1 hd => ?_, ?_⟩
            · obtain ⟨d0, d1, -⟩ := hd
              have q4 : f 4 = .pointer (some ⟨wg.heap.size, 0, none⟩) := d0
              have q2 : f 2 = .bool false := d1
              clear d0 d1
              obtain ⟨y0, y1, y2, y3, y4, y5⟩ := HX.out w1 hb1
              have Y0 := Lib.hid y0
              have Y2 := Lib.hid y2
              clear y0 y2
              go_wp2_with fail
              exact ⟨_, by first | rfl | simp only [q2, q4, Act.put, List.setIfInBounds_toArray, List.set_cons_succ, List.set_cons_zero], Below.refl _ _, rfl⟩
            refine ⟨fun f w1 hb1 hd => ?_, ?_⟩
            · obtain ⟨d0, -⟩ := hd
              have q2 : f 2 = .bool false := d0
              clear d0
              go_wp2_with fail
              exact ⟨_, by first | rfl | simp only [q2, Act.put, List.setIfInBounds_toArray, List.set_cons_succ, List.set_cons_zero], Below.refl _ _, rfl⟩
            refine ⟨fun f w1 hb1 hd => ?_, ?_⟩
            · obtain ⟨d0, d1, d2, -⟩ := hd
              have q5 : f 5 = .slice (some ⟨b, off, none⟩) n c := d0
              have q6 : f 6 = .int .i64 (i : Int) := d1
              have q2 : f 2 = .bool false := d2
              clear d0 d1 d2
              go_wp2_with fail
              exact ⟨_, by first | rfl | simp only [q2, q5, q6, Act.put, List.setIfInBounds_toArray, List.set_cons_succ, List.set_cons_zero], Below.refl _ _, rfl⟩
            refine ⟨fun f w1 hb1 hd => ?_, ?_⟩
            · obtain ⟨d0, d1, -⟩ := hd
              have q7 : f 7 = .pointer (some ⟨b, off + i * 4, none⟩) := d0
              have q2 : f 2 = .bool false := d1
              clear d0 d1
              go_wp2_with fail
              exact ⟨_, by first | rfl | simp only [q2, q7, Act.put, List.setIfInBounds_toArray, List.set_cons_succ, List.set_cons_zero], Below.refl _ _, rfl⟩
            refine ⟨fun f w1 hb1 hd => ?_, ?_⟩
            · obtain ⟨d0, d1, -⟩ := hd
              have q8 : f 8 = .pointer (some ⟨b, off + i * 4 + 1, none⟩) := d0
              have q2 : f 2 = .bool false := d1
              clear d0 d1
              obtain ⟨y0, y1, y2, y3, y4, y5⟩ := HX.out w1 hb1
              have Y0 := Lib.hid y0
              have Y2 := Lib.hid y2
              clear y0 y2
              rw [q8, q2]
              go_wp2_with (refine wpList_load_midH rfl 56 (.tmp 74) rfl b (off + i * 4 + 1) rfl [.int .i64 vk, .float .f64 vx, .string vs] _ Y2.out Tryd.underlying56 rfl size3v ?_)
              exact ⟨_, by first | rfl | simp only [q2, q8, Act.put, List.setIfInBounds_toArray, List.set_cons_succ, List.set_cons_zero], Below.refl _ _, rfl⟩
            refine ⟨fun f w1 hb1 hd => ?_, ?_⟩
            · obtain ⟨d0, d1, d2, d3, -⟩ := hd
              have q3 : f 3 = .agg #[.int .i64 vk, .float .f64 vx, .string vs] := d0
              have q9 : f 9 = .agg #[.int .i64 vk, .float .f64 vx, .string vs] := d1
              have q2 : f 2 = .bool false := d2
              clear d0 d1 d2 d3
              rw [q3, q9, q2]
              go_wp2_with ((with_reducible refine (HKV.out _).mono ?_); rintro e w2 ⟨rfl, hb2⟩)
              exact ⟨_, by first | rfl | simp only [q2, q3, q9, Act.put, List.setIfInBounds_toArray, List.set_cons_succ, List.set_cons_zero], hb2, rfl⟩
            refine ⟨fun f w1 hb1 hd => ?_, ?_⟩
            · obtain ⟨d0, d1, -⟩ := hd
              have q10 : f 10 = .bool true := d0
              have q2 : f 2 = .bool false := d1
              clear d0 d1
              go_wp2_with fail
              exact ⟨_, by first | rfl | simp only [q2, q10, Act.put, List.setIfInBounds_toArray, List.set_cons_succ, List.set_cons_zero], Below.refl _ _, rfl⟩
            refine ⟨fun f w1 hb1 hd => ?_, ?_⟩
            · obtain ⟨d0, d1, -⟩ := hd
              have q2 : f 2 = .bool false := d0
              have q11 : f 11 = .bool false := d1
              clear d0 d1
              go_wp2_with fail
              exact ⟨_, by first | rfl | simp only [q2, q11, Act.put, List.setIfInBounds_toArray, List.set_cons_succ, List.set_cons_zero], Below.refl _ _, rfl⟩
            refine ⟨fun f w1 hb1 hd => ?_, ?_⟩
            · obtain ⟨d0, d1, -⟩ := hd
              have q12 : f 12 = .bool false := d0
              have q10 : f 10 = .bool true := d1
              clear d0 d1
              go_wp2_with fail
              exact ⟨_, by first | rfl | simp only [q10, q12, Act.put, List.setIfInBounds_toArray, List.set_cons_succ, List.set_cons_zero], Below.refl _ _, rfl⟩
            refine ⟨fun f w1 hb1 hd => ?_, ?_⟩
            · obtain ⟨d0, -⟩ := hd
              have q13 : f 13 = .bool false := d0
              clear d0
              go_wp2_with fail
              exact ⟨_, by first | rfl | simp only [q13, Act.put, List.setIfInBounds_toArray, List.set_cons_succ, List.set_cons_zero], Below.refl _ _, rfl⟩
            refine ⟨fun f w1 hb1 hd => ?_, ?_⟩
            · obtain ⟨d0, d1, -⟩ := hd
              have q14 : f 14 = .int .i64 (i : Int) := d0
              have q13 : f 13 = .bool false := d1
              clear d0 d1
              go_wp2_with fail
              refine ⟨_, by first | rfl | simp only [q13, q14, Act.put, List.setIfInBounds_toArray, List.set_cons_succ, List.set_cons_zero], Below.refl _ _, ?_⟩
              exact sq_bool (by first | assumption | (simp <;> omega))
            refine ⟨fun f w1 hb1 hd => ?_, ?_⟩
            · obtain ⟨d0, d1, d2, -⟩ := hd
              have q15 : f 15 = .bool true := d0
              have q13 : f 13 = .bool false := d1
              clear d0 d1 d2
              go_wp2_with fail
              exact ⟨_, by first | rfl | simp only [q13, q15, Act.put, List.setIfInBounds_toArray, List.set_cons_succ, List.set_cons_zero], Below.refl _ _, rfl⟩
            refine ⟨fun f w1 hb1 hd => ?_, ?_⟩
            · obtain ⟨d0, -⟩ := hd
              have q16 : f 16 = .bool true := d0
              clear d0
              go_wp2_with fail
              exact ⟨_, by first | rfl | simp only [q16, Act.put, List.setIfInBounds_toArray, List.set_cons_succ, List.set_cons_zero], Below.refl _ _, rfl⟩
            refine ⟨fun f w1 hb1 hd => ?_, ?_⟩
            · obtain ⟨d0, d1, -⟩ := hd
              have q17 : f 17 = .slice (some ⟨b7, off7, none⟩) 2 c7 := d0
              have q16 : f 16 = .bool true := d1
              clear d0 d1
              go_wp2_with fail
              exact ⟨_, by first | rfl | simp only [q16, q17, Act.put, List.setIfInBounds_toArray, List.set_cons_succ, List.set_cons_zero], Below.refl _ _, rfl⟩
            refine ⟨fun f w1 hb1 hd => ?_, ?_⟩
            · obtain ⟨d0, d1, -⟩ := hd
              have q18 : f 18 = .pointer (some ⟨b7, off7, none⟩) := d0
              have q16 : f 16 = .bool true := d1
              clear d0 d1
              obtain ⟨y0, y1, y2, y3, y4, y5⟩ := HX.out w1 hb1
              have Y0 := Lib.hid y0
              have Y2 := Lib.hid y2
              clear y0 y2
              go_wp2_with fail
              exact ⟨_, by first | rfl | simp only [q16, q18, Act.put, List.setIfInBounds_toArray, List.set_cons_succ, List.set_cons_zero], Below.refl _ _, rfl⟩
            refine ⟨fun f w1 hb1 hd => ?_, ?_⟩
            · obtain ⟨d0, d1, -⟩ := hd
              have q19 : f 19 = .string KB := d0
              have q16 : f 16 = .bool true := d1
              clear d0 d1
              go_wp2_with fail
              exact ⟨_, by first | rfl | simp only [q16, q19, Act.put, List.setIfInBounds_toArray, List.set_cons_succ, List.set_cons_zero], Below.refl _ _, rfl⟩
            refine ⟨fun f w1 hb1 hd => ?_, ?_⟩
            · obtain ⟨d0, -⟩ := hd
              have q16 : f 16 = .bool true := d0
              clear d0
              go_wp2_with fail
              exact ⟨_, by first | rfl | simp only [q16, Act.put, List.setIfInBounds_toArray, List.set_cons_succ, List.set_cons_zero], Below.refl _ _, rfl⟩
            refine ⟨fun f w1 hb1 hd => ?_, ?_⟩
            · obtain ⟨d0, -⟩ := hd
              have q16 : f 16 = .bool true := d0
              clear d0
              go_wp2_with fail
              exact ⟨_, by first | rfl | simp only [q16, Act.put, List.setIfInBounds_toArray, List.set_cons_succ, List.set_cons_zero], Below.refl _ _, rfl⟩
            refine ⟨fun f w1 hb1 hd => ?_, ?_⟩
            · obtain ⟨d0, d1, -⟩ := hd
              have q22 : f 22 = .int .i64 (i : Int) := d0
              have q16 : f 16 = .bool true := d1
              clear d0 d1
              go_wp2_with fail
              exact ⟨_, by first | rfl | simp only [q16, q22, Act.put, List.setIfInBounds_toArray, List.set_cons_succ, List.set_cons_zero], Below.refl _ _, rfl⟩
            refine ⟨fun f w1 hb1 hd => ?_, ?_⟩
            · obtain ⟨d0, d1, d2, -⟩ := hd
              have q21 : f 21 = .slice (some ⟨b4, off4, none⟩) n c3 := d0
              have q23 : f 23 = .int .i64 (j : Int) := d1
              have q16 : f 16 = .bool true := d2
              clear d0 d1 d2
              go_wp2_with fail
              exact ⟨_, by first | rfl | simp only [q16, q21, q23, Act.put, List.setIfInBounds_toArray, List.set_cons_succ, List.set_cons_zero], Below.refl _ _, rfl⟩
            refine ⟨fun f w1 hb1 hd => ?_, ?_⟩
            · obtain ⟨d0, d1, -⟩ := hd
              have q24 : f 24 = .pointer (some ⟨b4, off4 + j, none⟩) := d0
              have q16 : f 16 = .bool true := d1
              clear d0 d1
              obtain ⟨y0, y1, y2, y3, y4, y5⟩ := HX.out w1 hb1
              have Y0 := Lib.hid y0
              have Y2 := Lib.hid y2
              clear y0 y2
              go_wp2_with fail
              exact ⟨_, by first | rfl | simp only [q16, q24, Act.put, List.setIfInBounds_toArray, List.set_cons_succ, List.set_cons_zero], Below.refl _ _, rfl⟩
            refine ⟨fun f w1 hb1 hd => ?_, ?_⟩
            · obtain ⟨d0, d1, d2, -⟩ := hd
              have q25 : f 25 = .string LP := d0
              have q16 : f 16 = .bool true := d1
              clear d0 d1 d2
              rw [q25, q16]
              go_wp2_with ((with_reducible refine (HW1.out _).mono ?_); rintro e w2 ⟨⟨A9, c9, rfl, hr9⟩, hb2⟩)
              exact ⟨_, by first | rfl | simp only [q16, q25, Act.put, List.setIfInBounds_toArray, List.set_cons_succ, List.set_cons_zero], hb2, A9, c9, rfl, hr9⟩
            refine ⟨fun f w1 hb1 hd => ?_, ?_⟩
            · obtain ⟨d0, d1, -⟩ := hd
              obtain ⟨A26, c26, q26, r26⟩ := d0
              have q16 : f 16 = .bool true := d1
              clear d1
              obtain ⟨_, h26, h26m, hh⟩ := r26
              obtain ⟨b9, o9, rfl, hb9, hcell⟩ := hh (by decide)
              have e9 := hcell 0 _ rfl
              rw [Nat.add_zero] at e9
              have E9 := Lib.hid e9
              have HB9 := Lib.hid hb9
              unfold maxLen at h26m
              clear hh hcell e9 hb9
              rw [q26]
              go_wp2_with fail
              exact ⟨_, by first | rfl | simp only [q16, q26, Act.put, List.setIfInBounds_toArray, List.set_cons_succ, List.set_cons_zero], Below.refl _ _, b9, o9, rfl, HB9.out, E9.out⟩
            refine ⟨fun f w1 hb1 hd => ?_, ?_⟩
            · obtain ⟨d0, d1, -⟩ := hd
              obtain ⟨b27, o27, q27, l27, e27⟩ := d0
              have q16 : f 16 = .bool true := d1
              clear d1
              go_wp2_with fail
              exact ⟨_, by first | rfl | simp only [q16, q27, Act.put, List.setIfInBounds_toArray, List.set_cons_succ, List.set_cons_zero], Below.refl _ _, rfl⟩
            refine ⟨fun f w1 hb1 hd => ?_, ?_⟩
            · obtain ⟨d0, d1, -⟩ := hd
              have q28 : f 28 = .string KP := d0
              have q16 : f 16 = .bool true := d1
              clear d0 d1
              go_wp2_with fail
              exact ⟨_, by first | rfl | simp only [q16, q28, Act.put, List.setIfInBounds_toArray, List.set_cons_succ, List.set_cons_zero], Below.refl _ _, rfl⟩
            refine ⟨fun f w1 hb1 hd => ?_, ?_⟩
            · obtain ⟨d0, d1, d2, -⟩ := hd
              have q20 : f 20 = .int .i64 (KB.size : Int) := d0
              have q29 : f 29 = .int .i64 (KP.size : Int) := d1
              have q16 : f 16 = .bool true := d2
              clear d0 d1 d2
              go_wp2_with fail
              refine ⟨_, by first | rfl | simp only [q16, q20, q29, Act.put, List.setIfInBounds_toArray, List.set_cons_succ, List.set_cons_zero], Below.refl _ _, ?_⟩
              exact sq_bool (by first | assumption | (simp <;> omega))
            refine ⟨fun f w1 hb1 hd => ?_, ?_⟩
            · obtain ⟨d0, d1, d2, -⟩ := hd
              have q16 : f 16 = .bool true := d0
              have q30 : f 30 = .bool false := d1
              have q13 : f 13 = .bool false := d2
              clear d0 d1 d2
              go_wp2_with fail
              exact ⟨_, by first | rfl | simp only [q13, q16, q30, Act.put, List.setIfInBounds_toArray, List.set_cons_succ, List.set_cons_zero], Below.refl _ _, rfl⟩
            refine ⟨fun f w1 hb1 hd => ?_, ?_⟩
            · obtain ⟨d0, d1, d2, -⟩ := hd
              have q31 : f 31 = .bool false := d0
              obtain ⟨A26, c26, q26, r26⟩ := d1
              have q13 : f 13 = .bool false := d2
              clear d0 d2
              go_wp2_with fail
              exact ⟨_, by first | rfl | simp only [q13, q26, q31, Act.put, List.setIfInBounds_toArray, List.set_cons_succ, List.set_cons_zero], Below.refl _ _, rfl⟩
            refine ⟨fun f w1 hb1 hd => ?_, ?_⟩
            · obtain ⟨d0, -⟩ := hd
              have q32 : f 32 = .bool false := d0
              clear d0
              go_wp2_with fail
              exact ⟨_, by first | rfl | simp only [q32, Act.put, List.setIfInBounds_toArray, List.set_cons_succ, List.set_cons_zero], Below.refl _ _, trivial⟩
            refine ⟨fun f w1 hb1 hd => ?_, ?_⟩
            · obtain ⟨d0, -⟩ := hd
              have q32 : f 32 = .bool false := d0
              clear d0
              go_wp2_with fail
              exact ⟨_, by first | rfl | simp only [q32, Act.put, List.setIfInBounds_toArray, List.set_cons_succ, List.set_cons_zero], Below.refl _ _, trivial⟩
            refine ⟨fun f w1 hb1 hd => ?_, ?_⟩
            · obtain ⟨d0, d1, d2, -⟩ := hd
              have q32 : f 32 = .bool false := d2
              clear d0 d1 d2
              go_wp2_with fail
              exact ⟨_, by first | rfl | simp only [q32, Act.put, List.setIfInBounds_toArray, List.set_cons_succ, List.set_cons_zero], Below.refl _ _, trivial⟩
            refine ⟨fun f w1 hb1 hd => ?_, ?_⟩
            · obtain ⟨d0, d1, -⟩ := hd
              have q32 : f 32 = .bool false := d1
              clear d0 d1
              go_wp2_with fail
              exact ⟨_, by first | rfl | simp only [q32, Act.put, List.setIfInBounds_toArray, List.set_cons_succ, List.set_cons_zero], Below.refl _ _, trivial⟩
            refine ⟨fun f w1 hb1 hd => ?_, ?_⟩
            · obtain ⟨d0, -⟩ := hd
              have q32 : f 32 = .bool false := d0
              clear d0
              go_wp2_with fail
              exact ⟨_, by first | rfl | simp only [q32, Act.put, List.setIfInBounds_toArray, List.set_cons_succ, List.set_cons_zero], Below.refl _ _, trivial⟩
            refine ⟨fun f w1 hb1 hd => ?_, ?_⟩
            · obtain ⟨d0, -⟩ := hd
              have q32 : f 32 = .bool false := d0
              clear d0
              go_wp2_with fail
              exact ⟨_, by first | rfl | simp only [q32, Act.put, List.setIfInBounds_toArray, List.set_cons_succ, List.set_cons_zero], Below.refl _ _, trivial⟩
            refine ⟨fun f w1 hb1 hd => ?_, ?_⟩
            · obtain ⟨d0, d1, -⟩ := hd
              have q32 : f 32 = .bool false := d1
              clear d0 d1
              go_wp2_with fail
              exact ⟨_, by first | rfl | simp only [q32, Act.put, List.setIfInBounds_toArray, List.set_cons_succ, List.set_cons_zero], Below.refl _ _, trivial⟩
            refine ⟨fun f w1 hb1 hd => ?_, ?_⟩
            · obtain ⟨d0, d1, d2, -⟩ := hd
              have q32 : f 32 = .bool false := d2
              clear d0 d1 d2
              go_wp2_with fail
              exact ⟨_, by first | rfl | simp only [q32, Act.put, List.setIfInBounds_toArray, List.set_cons_succ, List.set_cons_zero], Below.refl _ _, trivial⟩
            refine ⟨fun f w1 hb1 hd => ?_, ?_⟩
            · obtain ⟨d0, d1, -⟩ := hd
              have q32 : f 32 = .bool false := d1
              clear d0 d1
              go_wp2_with fail
              exact ⟨_, by first | rfl | simp only [q32, Act.put, List.setIfInBounds_toArray, List.set_cons_succ, List.set_cons_zero], Below.refl _ _, trivial⟩
            refine ⟨fun f w1 hb1 hd => ?_, ?_⟩
            · obtain ⟨d0, d1, d2, -⟩ := hd
              have q32 : f 32 = .bool false := d2
              clear d0 d1 d2
              go_wp2_with fail
              exact ⟨_, by first | rfl | simp only [q32, Act.put, List.setIfInBounds_toArray, List.set_cons_succ, List.set_cons_zero], Below.refl _ _, trivial⟩
            refine ⟨fun f w1 hb1 hd => ?_, ?_⟩
            · obtain ⟨d0, d1, d2, -⟩ := hd
              have q32 : f 32 = .bool false := d0
              have q13 : f 13 = .bool false := d2
              clear d0 d1 d2
              go_wp2_with fail
              exact ⟨_, by first | rfl | simp only [q13, q32, Act.put, List.setIfInBounds_toArray, List.set_cons_succ, List.set_cons_zero], Below.refl _ _, rfl⟩
            refine ⟨fun f w1 hb1 hd => ?_, ?_⟩
            · obtain ⟨d0, d1, -⟩ := hd
              have q13 : f 13 = .bool false := d0
              have q43 : f 43 = .bool false := d1
              clear d0 d1
              go_wp2_with fail
              exact ⟨_, by first | rfl | simp only [q13, q43, Act.put, List.setIfInBounds_toArray, List.set_cons_succ, List.set_cons_zero], Below.refl _ _, rfl⟩
            exact trivial
          case hendB =>
            intro f w1 hb1 hd
            have q44 : f 44 = .bool false := hd 44 (by decide)
            clear hd
            have hbn := bstep hb39.out hb1
            rw [q44]
            go_wp2_with fail
            go_roundg (gk - 1)
            case rel => exact ⟨i + 1, by have := Hig.out; omega, by go_num, hbn⟩
            case measure => have := Hig.out; omega
    · obtain rfl : i = n := by omega
      clear HA hlt
      have HWk := Lib.hid (rwakes_any wr (HI.out.below (HU.out wr hb5)))
      go_wp2_with ((with_reducible refine HWk.out.mono ?_); rintro e w9 ⟨rfl, hb9⟩)
      go_ret
      exact ⟨rfl, HU.out _ (bstep hb5 hb9)⟩
end Go.Proofs.YtkckncggiicciaaDoor
/-
  ReportPairs: the walks of Call, TwinMachine, Get, Last.
-/
namespace Go.Proofs.YtkckncggiicciaaDoor
open Go.RowKit
set_option maxRecDepth 100000
/-- A call. -/
structure Cl where
  cl : Int
  sq : Int
  c : Cm
def Cl.cells (x : Cl) : List Value := [.int .i64 x.cl, .int .i64 x.sq, .int .i64 x.c.k, .string x.c.key, .int .i64 x.c.old.k, .float .f64 x.c.old.x, .string x.c.old.s, .int .i64 x.c.val.k, .float .f64 x.c.val.x, .string x.c.val.s]
set_option maxHeartbeats 3200000 in
theorem RCall_any (x : Cl) (w : World) (hc : x.c.Ok) : Calls Tryd.prog 74 #[.agg x.cells.toArray] w (CmdPost x.c w) := by
  have HC : Hid (∀ w', Calls Tryd.prog 96 #[.agg x.c.cells.toArray] w' (CmdPost x.c w')) := fun w' => RCmd_any x.c w' hc
  obtain ⟨cl, sq, ⟨k, key, ⟨ok, ox, os⟩, ⟨vk, vx, vs⟩⟩⟩ := x
  obtain ⟨cc, hcc⟩ : ∃ cc : Cm, cc = ⟨k, key, ⟨ok, ox, os⟩, ⟨vk, vx, vs⟩⟩ := ⟨_, rfl⟩
  have HP : Hid (∀ n w', (n = 0 → cc.Right) → Below w.heap.size w w' → CmdPost cc w (.returned (.int .i64 n)) w') := fun n w' hn hb => ⟨⟨n, rfl, hn⟩, hb⟩
  unfold Cl.cells
  unfold Cm.cells at HC
  dsimp only at *
  rw [← hcc] at HC ⊢
  clear hcc hc
  have hob := one_below w (.cells #[.int .i64 cl, .int .i64 sq, .int .i64 k, .string key, .int .i64 ok, .float .f64 ox, .string os, .int .i64 vk, .float .f64 vx, .string vs] 62)
  have Hob := Lib.hid hob
  obtain ⟨J, hJ⟩ : ∃ J, CmdPost cc w = J := ⟨_, rfl⟩
  rw [hJ] at HP ⊢
  clear hob hJ
  rcases Decidable.em (cl < 1) with h1 | h1
  case' inr => rcases Decidable.em (4 < cl) with h2 | h2
  case' inr.inr => rcases Decidable.em (sq < 1) with h3 | h3
  case' inr.inr.inr => rcases Decidable.em (1099511627776 < sq) with h4 | h4
  case inr.inr.inr.inr =>
    go_enter Tryd.func74, Tryd.ntmps74
    go_wp2_with fail
    refine (HC.out _).mono ?_
    rintro e w2 ⟨⟨n, rfl, hn⟩, hb2⟩
    have Hn := Lib.hid hn
    clear hn
    go_wp2_with fail
    exact HP.out _ _ Hn.out (Hob.out.trans (hb2.mono (by simp)))
  all_goals
    go_enter Tryd.func74, Tryd.ntmps74
    go_wp2_with fail
    exact HP.out _ _ (fun h => by cases h) Hob.out
theorem size2m : (Tryd.prog.info? 44).map (·.size) = some 2 := by kernel_rfl
theorem mach_one (A : Option Addr) (n c : Nat) (B : Option Addr) (k d : Nat) : (#[.slice A n c, .slice B k d] : Array Value).all (·.oneCell') = true := by simp [Value.oneCell']
/-- A machine's copy: both slices its own. -/
def TwinMPost (ps : List (ByteArray × Va)) (ss : List Se) (w : World) (e : Ending) (w' : World) : Prop := (∃ A c B d, e = .returned (.agg #[.slice A ps.length c, .slice B ss.length d]) ∧ OwnP w' w.heap.size (.slice A ps.length c) ps ∧ OwnSe w' w.heap.size (.slice B ss.length d) ss) ∧ Below w.heap.size w w'
set_option maxHeartbeats 6400000 in
theorem TwinMachine_any (A : Option Addr) (n c : Nat) (B : Option Addr) (k d : Nat) (ps : List (ByteArray × Va)) (ss : List Se) (w : World) (hy : PrRows w w.heap.size A n c ps) (hl : ps.length = n) (hz : SeRows w w.heap.size B k d ss) (hsl : ss.length = k) (hn : n ≤ 1000) (hk : k ≤ 1000) :
    Calls Tryd.prog 73 #[.agg #[.slice A n c, .slice B k d]] w (TwinMPost ps ss w) := by
  subst hl hsl
  obtain ⟨W3, hW3⟩ : ∃ W3, (((w.alloc (.cells #[.slice A ps.length c, .slice B ss.length d] 44)).alloc (.cells #[.slice none 0 0, .slice none 0 0] 44)).alloc (.cells #[.slice none 0 0, .slice none 0 0] 44)) = W3 := ⟨_, rfl⟩
  have hb3 : Below w.heap.size w W3 := by rw [← hW3]; exact (two_below _ _ _).alloc (by simp <;> omega) _
  have hz3 : W3.heap.size = w.heap.size + 3 := by rw [← hW3]; simp
  have hr0 : W3.heap[w.heap.size]? = some (.cells #[.slice A ps.length c, .slice B ss.length d] 44 (0, 0)) := by
    rw [← hW3, Below.heap_alloc _ _ _ (by simp <;> omega), Below.heap_alloc _ _ _ (by simp <;> omega)]
    exact heap_alloc_new w _
  have hr1 : W3.heap[w.heap.size + 1]? = some (.cells #[.slice none 0 0, .slice none 0 0] 44 (0, 0)) := by
    rw [← hW3, Below.heap_alloc _ _ _ (by simp)]
    exact heap_alloc2_new w _ _
  have hr2 : W3.heap[w.heap.size + 2]? = some (.cells #[.slice none 0 0, .slice none 0 0] 44 (0, 0)) := by
    have := heap_alloc_new ((w.alloc (.cells #[.slice A ps.length c, .slice B ss.length d] 44)).alloc (.cells #[.slice none 0 0, .slice none 0 0] 44)) (.cells #[.slice none 0 0, .slice none 0 0] 44)
    rw [hW3] at this
    rw [← this]
    congr 2
    simp
  have y0 : W3.cell? ⟨w.heap.size, 0, none⟩ = some (.slice A ps.length c) := cell_of_row _ _ _ _ _ _ hr0
  have y2 : W3.cell? ⟨w.heap.size + 2, 0, none⟩ = some (.slice none 0 0) := cell_of_row _ _ _ _ _ _ hr2
  have Hy : Hid (PrRows W3 W3.heap.size A ps.length c ps) := (Rd.below hy hb3 (Nat.le_refl _)).mono hb3.size
  have Hz : Hid (∀ w', Below w.heap.size w w' → SeRows w' w'.heap.size B ss.length d ss) := fun w' hb => (Rd.below hz hb (Nat.le_refl _)).mono hb.size
  have Hb3 := Lib.hid hb3
  have Hz3 := Lib.hid hz3
  have Hr0 := Lib.hid hr0
  have Hr1 := Lib.hid hr1
  have Hr2 := Lib.hid hr2
  have HW3 := Lib.hid hW3
  clear hW3 hb3 hz3 hr0 hr1 hr2 hy hz
  go_enter Tryd.func73, Tryd.ntmps73
  go_wp2_with (first
    | (at_builtin
       rw [HW3.out]
       refine wpList_appP rfl (.tmp 5) (.tmp 7) rfl W3.heap.size _ [] rfl (World.ownsRow_nil _ _ _ _) W3.heap.size A ps.length c ps rfl rfl Hy.out (by simp; omega) (Nat.le_refl _) ?_
       intro v4 w4 ho4 hg4
       have hb4 : Below W3.heap.size W3 w4 := (Below.refl _ _).grown hg4 (Nat.le_refl _) (by intro k hk; cases hk)
       obtain ⟨A4, c4, rfl, _⟩ := ownP_rows ho4 (n := ps.length) (by simp)
       have r2 : w4.heap[w.heap.size + 2]? = some (.cells #[.slice none 0 0, .slice none 0 0] 44 (0, 0)) := (hb4.block _ (by have := Hz3.out; omega)).trans Hr2.out
       have r0 : w4.heap[w.heap.size]? = some (.cells #[.slice A ps.length c, .slice B ss.length d] 44 (0, 0)) := (hb4.block _ (by have := Hz3.out; omega)).trans Hr0.out
       obtain ⟨W5, hW5⟩ : ∃ W5, w4.setCell ⟨w.heap.size + 2, 0, none⟩ (.slice A4 ps.length c4) = W5 := ⟨_, rfl⟩
       have z2 : w4.cell? ⟨w.heap.size + 2, 0, none⟩ = some (.slice none 0 0) := cell_of_row _ _ _ _ _ _ r2
       have f2 : w4.frozen? ⟨w.heap.size + 2, 0, none⟩ = false := frozen_of_row _ _ _ _ _ r2
       have s2 : W5.heap[w.heap.size + 2]? = some (.cells #[.slice A4 ps.length c4, .slice none 0 0] 44 (0, 0)) := by
         rw [← hW5, heap_setCell_same _ _ _ _ _ _ r2]
         rfl
       have s0 : W5.heap[w.heap.size]? = some (.cells #[.slice A ps.length c, .slice B ss.length d] 44 (0, 0)) := by
         rw [← hW5, Below.heap_setCell _ _ _ _ (by show w.heap.size ≠ w.heap.size + 2; omega)]
         exact r0
       have hb5 : Below w.heap.size w W5 := by
         rw [← hW5]
         exact (Hb3.out.trans (hb4.mono Hb3.out.size)).setCell (by show w.heap.size ≤ w.heap.size + 2; omega) _
       have hz5 : W5.heap.size = w4.heap.size := by rw [← hW5]; simp [World.setCell]
       have t2 : (w4.setCell ⟨w.heap.size + 2, 0, none⟩ (.slice A4 ps.length c4)).cell? ⟨w.heap.size + 2, 1, none⟩ = some (.slice none 0 0) := by rw [hW5]; exact cell_of_row _ _ _ _ _ _ s2
       have t0 : (w4.setCell ⟨w.heap.size + 2, 0, none⟩ (.slice A4 ps.length c4)).cell? ⟨w.heap.size, 1, none⟩ = some (.slice B ss.length d) := by rw [hW5]; exact cell_of_row _ _ _ _ _ _ s0
       have HW5 := Lib.hid hW5
       have S2 := Lib.hid s2
       have Hb5 := Lib.hid hb5
       have Hz5 := Lib.hid hz5
       have Hb4 := Lib.hid hb4
       have Ho4 := Lib.hid ho4
       clear r2 r0 hW5 s2 s0 hb5 hz5 hb4 ho4 hg4 y0 y2)
    | (at_builtin
       rw [HW5.out]
       refine wpList_appSe rfl (.tmp 11) (.tmp 13) rfl W5.heap.size _ [] rfl (World.ownsRow_nil _ _ _ _) W5.heap.size B ss.length d ss rfl rfl (Hz.out _ Hb5.out) (by simp; omega) (Nat.le_refl _) ?_
       intro v6 w6 ho6 hg6
       have hb6 : Below W5.heap.size W5 w6 := (Below.refl _ _).grown hg6 (Nat.le_refl _) (by intro k hk; cases hk)
       obtain ⟨B6, d6, rfl, _⟩ := ownSe_rows ho6 (n := ss.length) (by simp)
       have hL : w.heap.size + 2 < W5.heap.size := by have := Hz5.out; have := Hb4.out.size; have := Hz3.out; omega
       have r2 : w6.heap[w.heap.size + 2]? = some (.cells #[.slice A4 ps.length c4, .slice none 0 0] 44 (0, 0)) := (hb6.block _ hL).trans S2.out
       have z2' : w6.cell? ⟨w.heap.size + 2, 1, none⟩ = some (.slice none 0 0) := cell_of_row _ _ _ _ _ _ r2
       have f2' : w6.frozen? ⟨w.heap.size + 2, 1, none⟩ = false := frozen_of_row _ _ _ _ _ r2
       obtain ⟨W7, hW7⟩ : ∃ W7, w6.setCell ⟨w.heap.size + 2, 1, none⟩ (.slice B6 ss.length d6) = W7 := ⟨_, rfl⟩
       have s2 : W7.heap[w.heap.size + 2]? = some (.cells #[.slice A4 ps.length c4, .slice B6 ss.length d6] 44 (0, 0)) := by
         rw [← hW7, heap_setCell_same _ _ _ _ _ _ r2]
         rfl
       have Hrow7 : Hid ((w6.setCell ⟨w.heap.size + 2, 1, none⟩ (.slice B6 ss.length d6)).heap[w.heap.size + 2]? = some (.cells #[.slice A4 ps.length c4, .slice B6 ss.length d6] 44 (0, 0))) := by rw [hW7]; exact s2
       have hb7 : Below w.heap.size w W7 := by
         rw [← hW7]
         exact (Hb5.out.trans (hb6.mono Hb5.out.size)).setCell (by show w.heap.size ≤ w.heap.size + 2; omega) _
       have Hr7 : Hid (W7.heap[w.heap.size + 1]? = some (.cells #[.slice none 0 0, .slice none 0 0] 44 (0, 0))) := by
         unfold Hid
         rw [← hW7, Below.heap_setCell _ _ _ _ (by show w.heap.size + 1 ≠ w.heap.size + 2; omega), hb6.block _ (by omega), ← HW5.out, Below.heap_setCell _ _ _ _ (by show w.heap.size + 1 ≠ w.heap.size + 2; omega), Hb4.out.block _ (by have := Hz3.out; omega)]
         exact Hr1.out
       have HW7 := Lib.hid hW7
       have Hb7 := Lib.hid hb7
       have Hb6 := Lib.hid hb6
       have Ho6 := Lib.hid ho6
       clear r2 hW7 s2 hb7 hb6 ho6 hg6 t2 t0 z2 f2 hL)
    | (refine wpList_load_row rfl 44 (.tmp 3) rfl (w.heap.size + 2) rfl 44 #[.slice A4 ps.length c4, .slice B6 ss.length d6] (0, 0) _ Hrow7.out Tryd.underlying44 rfl size2m ?_; rw [HW7.out])
    | (refine wpList_store_row rfl 44 (.tmp 2) (.tmp 16) rfl (w.heap.size + 1) #[.slice A4 ps.length c4, .slice B6 ss.length d6] rfl rfl 44 #[.slice none 0 0, .slice none 0 0] Hr7.out size2m rfl (mach_one _ _ _ _ _ _) ?_))
  have hbE : Below w.heap.size w (W7.setRow (w.heap.size + 1) #[.slice A4 ps.length c4, .slice B6 ss.length d6]) := below_setRow Hb7.out (by omega) _
  have o1 : OwnP (W7.setRow (w.heap.size + 1) #[.slice A4 ps.length c4, .slice B6 ss.length d6]) W3.heap.size (.slice A4 ps.length c4) ps := own_keep (show OwnP w4 W3.heap.size (.slice A4 ps.length c4) ps from Ho4.out) (fun g h1 h2 => by
    have a2 := Hz3.out
    rw [setRow_ne _ _ _ _ (by omega), ← HW7.out, Below.heap_setCell _ _ _ _ (by show g ≠ w.heap.size + 2; omega), Hb6.out.block _ (by have := Hz5.out; omega), ← HW5.out]
    exact Below.heap_setCell _ _ _ _ (by show g ≠ w.heap.size + 2; omega))
  have o2 : OwnSe (W7.setRow (w.heap.size + 1) #[.slice A4 ps.length c4, .slice B6 ss.length d6]) W5.heap.size (.slice B6 ss.length d6) ss := own_keep (show OwnSe w6 W5.heap.size (.slice B6 ss.length d6) ss from Ho6.out) (fun g h1 h2 => by
    have a2 := Hz3.out
    have a3 := Hz5.out
    have a4 := Hb4.out.size
    rw [setRow_ne _ _ _ _ (by omega), ← HW7.out]
    exact Below.heap_setCell _ _ _ _ (by show g ≠ w.heap.size + 2; omega))
  refine bodyPost_ret (results_cell_row Tryd.results73 _ _ (w.heap.size + 1) _ #[.slice A4 ps.length c4, .slice B6 ss.length d6] (0, 0) _ rfl (setRow_heap _ _ _ _ _ _ Hr7.out) Tryd.underlying44 rfl size2m) rfl ?_
  exact ⟨⟨A4, c4, B6, d6, rfl, own_base o1 (by have := Hz3.out; omega), own_base o2 (by have := Hz5.out; have := Hb4.out.size; have := Hz3.out; omega)⟩, hbE⟩
end Go.Proofs.YtkckncggiicciaaDoor
/-
  ReportPairs: the walks of Get and set; what joins right values.
-/
namespace Go.Proofs.YtkckncggiicciaaDoor
open Go.RowKit
set_option maxRecDepth 100000
structure VaS (v : Va) : Prop where
  num : v.x < 18446744073709551616
  txt : v.s.size ≤ maxLen
theorem vas_zero : VaS ⟨0, 0, ⟨#[]⟩⟩ := ⟨by decide, by decide⟩
theorem vas_chk {v : Va} (h : chkVa v = 0) (hx : v.x < 18446744073709551616) : VaS v := ⟨hx, by have := (chk_sz h).2; unfold maxLen; omega⟩
theorem join_right (mk : Nat → Nat → Nat) (a b : Va) (hm : ∀ x y, x < 18446744073709551616 → y < 18446744073709551616 → mk x y < 18446744073709551616) (hc : ∀ x y, canon x = x → canon y = y → canon (mk x y) = mk x y) (ha : VaS a) (hb : VaS b) (hb1 : b.k = 1) :
    VaS (joinV mk a b).1 ∧ ((joinV mk a b).2 = 0 → chkVa (joinV mk a b).1 = 0 ∧ (joinV mk a b).1.k ≠ 0) := by
  have hn1 : ∀ c : Va, chkVa c = 0 → c.k = 1 → canon c.x = c.x := fun c h h0 => by
    unfold chkVa at h
    rw [if_neg (by omega), if_pos h0] at h
    have h2 : (canon c.x == c.x && eqS c.s ⟨#[]⟩) = true := by
      cases hh : (canon c.x == c.x && eqS c.s ⟨#[]⟩)
      · rw [hh] at h; simp at h
      · rfl
    rw [Bool.and_eq_true] at h2
    simpa using h2.1
  unfold joinV
  by_cases h1 : chkVa a ≠ 0
  · rw [if_pos h1]
    exact ⟨vas_zero, fun h => absurd h h1⟩
  rw [if_neg h1]
  by_cases h2 : chkVa b ≠ 0
  · rw [if_pos h2]
    exact ⟨vas_zero, fun h => absurd h h2⟩
  rw [if_neg h2]
  have ca : chkVa a = 0 := Decidable.not_not.1 h1
  have cb : chkVa b = 0 := Decidable.not_not.1 h2
  by_cases h3 : a.k = 0
  · rw [if_pos h3]
    exact ⟨hb, fun _ => ⟨cb, by show b.k ≠ 0; omega⟩⟩
  rw [if_neg h3]
  by_cases h4 : a.k ≠ 1 ∨ b.k ≠ 1
  · rw [if_pos h4]
    exact ⟨vas_zero, fun h => by cases h⟩
  rw [if_neg h4]
  have hx := hm a.x b.x ha.num hb.num
  have hcc := hc a.x b.x (hn1 a ca (by omega)) (hn1 b cb hb1)
  refine ⟨⟨hx, Nat.zero_le _⟩, fun _ => ⟨?_, by show (1 : Int) ≠ 0; decide⟩⟩
  unfold chkVa
  dsimp only
  rw [if_neg (by decide), if_pos rfl, hcc]
  unfold eqS
  simp
def GetPost (w : World) (e : Ending) (w' : World) : Prop := (∃ v : Va, e = .returned (.agg #[.int .i64 v.k, .float .f64 v.x, .string v.s]) ∧ VaS v) ∧ Below w.heap.size w w'
set_option maxHeartbeats 6400000 in
theorem Get_any (A : Option Addr) (n c : Nat) (key : ByteArray) (ps : List (ByteArray × Va)) (w : World) (hy : PrRows w w.heap.size A n c ps) (hl : ps.length = n) (hR : RightP ps) :
    Calls Tryd.prog 99 #[.slice A n c, .string key] w (GetPost w) := by
  have hcap : n ≤ c := hy.2.1
  have h32 : n ≤ 32 := by rw [← hl]; exact hR.few
  obtain ⟨W1, hW1⟩ : ∃ W1, w.alloc (.cells #[.int .i64 0, .float .f64 0, .string ⟨#[]⟩] 56) = W1 := ⟨_, rfl⟩
  have hob : Below w.heap.size w W1 := by rw [← hW1]; exact alloc_below w _
  have hz1 : W1.heap.size = w.heap.size + 1 := by rw [← hW1]; simp
  have hrow : W1.heap[w.heap.size]? = some (.cells #[.int .i64 0, .float .f64 0, .string ⟨#[]⟩] 56 (0, 0)) := by rw [← hW1]; exact heap_alloc_new w _
  have HE : Hid (∀ i, i < n → ∃ b off p, A = some ⟨b, off, none⟩ ∧ b < w.heap.size ∧ PairOk p ∧ w.rangeAt b (off + i * 4) (prC p)) := fun i hi => by
    obtain ⟨b, off, p, q1, q2, q3, q4, q5⟩ := pr_row hy hl hi
    exact ⟨b, off, p, q1, q2, hR.each p q4, q5⟩
  have HQ : Hid (∀ (v : Va) w', VaS v → Below w.heap.size w w' → GetPost w (.returned (.agg #[.int .i64 v.k, .float .f64 v.x, .string v.s])) w') := fun v w' hv hb => ⟨⟨v, rfl, hv⟩, hb⟩
  have HR : Hid (∀ w', Below W1.heap.size W1 w' → w'.heap[w.heap.size]? = some (.cells #[.int .i64 0, .float .f64 0, .string ⟨#[]⟩] 56 (0, 0))) := fun w' hb => (hb.block _ (by omega)).trans hrow
  have Hup : Hid (∀ w', Below W1.heap.size W1 w' → Below w.heap.size w w') := fun w' hb => hob.trans (hb.mono (by omega))
  obtain ⟨J, hJ⟩ : ∃ J, GetPost w = J := ⟨_, rfl⟩
  rw [hJ] at HQ ⊢
  have HW1 := Lib.hid hW1
  have hbc : Below W1.heap.size W1 W1 := Below.refl _ _
  clear hW1 hJ hy hl hR hrow hob hz1
  go_enter Tryd.func99, Tryd.ntmps99
  go_wp2_with fail
  rw [HW1.out]
  go_loopg [5] n (fun g s5 wr => ∃ i : Nat, i + g = n ∧ s5 = .int .i64 i ∧ Below W1.heap.size W1 wr)
  case atStart => exact ⟨0, by omega, rfl, hbc⟩
  case round =>
    clear hbc
    obtain ⟨i, hig, rfl, hbr⟩ := hrel
    have Hig := Lib.hid hig
    have hin : i ≤ n := by omega
    clear hig
    by_cases hlt : i < n
    · obtain ⟨b, off, p, rfl, hb, hpk, hrg⟩ := HE.out i hlt
      have hbw := Hup.out _ hbr
      obtain ⟨x0, x1⟩ := fpair_range (range_below hrg hbw hb)
      have X1 := Lib.hid x1
      have Hr := Lib.hid (HR.out _ hbr)
      obtain ⟨k2, ⟨vk, vx, vs⟩⟩ := p
      have Hvs : Hid (VaS ⟨vk, vx, vs⟩) := vas_chk hpk.chk hpk.num
      have i0 : (0 : Int) ≤ (i : Int) := by omega
      have i1 : (i : Int) < (n : Int) := by omega
      dsimp only at x0 X1
      clear x1 hpk hrg HE
      cases he : (k2.toList == key.toList)
      · go_wp2_with fail
        go_roundg (gk - 1)
        case rel => exact ⟨i + 1, by have := Hig.out; omega, by go_num, hbr⟩
        case measure => have := Hig.out; omega
      · go_wp2_with (first
          | (refine Go.wpList_load_mid rfl 56 (.tmp 22) rfl b (off + i * 4 + 1) rfl [.int .i64 vk, .float .f64 vx, .string vs] _ X1.out Tryd.underlying56 rfl size3v ?_)
          | (refine wpList_store_row rfl 56 (.tmp 4) (.tmp 23) rfl w.heap.size #[.int .i64 vk, .float .f64 vx, .string vs] rfl rfl 56 #[.int .i64 0, .float .f64 0, .string ⟨#[]⟩] Hr.out size3 rfl (val_one _ _ _) ?_))
        refine bodyPost_ret (results_cell_row Tryd.results99 _ _ w.heap.size _ #[.int .i64 vk, .float .f64 vx, .string vs] (0, 0) _ rfl (setRow_heap _ _ _ _ _ _ Hr.out) Tryd.underlying56 rfl size3) rfl ?_
        exact HQ.out ⟨vk, vx, vs⟩ _ Hvs.out (below_setRow hbw (Nat.le_refl _) _)
    · obtain rfl : i = n := by omega
      have Hr := Lib.hid (HR.out _ hbr)
      have hbw := Hup.out _ hbr
      clear HE
      go_wp2_with (refine wpList_store_row rfl 56 (.tmp 4) (.tmp 24) rfl w.heap.size #[.int .i64 0, .float .f64 0, .string ⟨#[]⟩] rfl rfl 56 #[.int .i64 0, .float .f64 0, .string ⟨#[]⟩] Hr.out size3 rfl (val_one _ _ _) ?_)
      refine bodyPost_ret (results_cell_row Tryd.results99 _ _ w.heap.size _ #[.int .i64 0, .float .f64 0, .string ⟨#[]⟩] (0, 0) _ rfl (setRow_heap _ _ _ _ _ _ Hr.out) Tryd.underlying56 rfl size3) rfl ?_
      exact HQ.out ⟨0, 0, ⟨#[]⟩⟩ _ vas_zero (below_setRow hbw (Nat.le_refl _) _)
end Go.Proofs.YtkckncggiicciaaDoor
/-
  The walk of ReportLags.
-/
namespace Go.Proofs.YtkckncggiicciaaDoor
open Go.RowKit
set_option maxRecDepth 100000
/-! ### Plain -/
theorem topL_ge (c0 : Int) (cs : List Int) : c0 ≤ topL c0 cs ∧ ∀ c ∈ cs, c ≤ topL c0 cs := by
  rw [← List.reverse_reverse cs]
  induction cs.reverse with
  | nil => exact ⟨Int.le_refl _, fun c h => by simp at h⟩
  | cons x r ih =>
    rw [List.reverse_cons, topL_snoc]
    refine ⟨by have := ih.1; omega, fun c h => ?_⟩
    rw [List.mem_append] at h
    rcases h with h | h
    · have := ih.2 c h; omega
    · simp at h; omega
def minL (M : Int) (l : List Nat) : Int := l.foldl (fun (a : Int) (k : Nat) => min a (k : Int)) M
theorem minL_snoc (M : Int) (l : List Nat) (k : Nat) : minL M (l ++ [k]) = min (minL M l) (k : Int) := by simp [minL]
theorem minL_low_r (M : Int) (h : 0 ≤ M) : ∀ r : List Nat, 0 ≤ minL M r.reverse
  | [] => h
  | x :: r => by
    have := minL_low_r M h r
    rw [List.reverse_cons, minL_snoc]
    omega
theorem minL_mem_r (M : Int) (h : 0 ≤ M) : ∀ r : List Nat, 0 ∈ r → minL M r.reverse = 0
  | [], h0 => by simp at h0
  | x :: r, h0 => by
    have hr := minL_low_r M h r
    rw [List.reverse_cons, minL_snoc]
    rcases List.mem_cons.1 h0 with h1 | h1
    · omega
    · have := minL_mem_r M h r h1
      omega
theorem minL_mem (M : Int) (l : List Nat) (h : 0 ≤ M) (h0 : 0 ∈ l) : minL M l = 0 := by
  have := minL_mem_r M h l.reverse (by simpa using h0)
  rwa [List.reverse_reverse] at this
/-- A replica of a number and a commit, all else nought. -/
def mkR (id commit : Int) : List Value := [.int .i64 id, .int .i64 0, .int .i64 0, .int .i64 0, .int .i64 0, .int .i64 0, .int .i64 0, .int .i64 0, .int .i64 0, .slice none 0 0, .slice none 0 0, .int .i64 commit, .int .i64 0, .int .i64 0, .int .i64 0, .int .i64 0, .int .i64 0, .int .i64 0,
  .int .i64 0, .int .i64 0, .int .i64 0, .int .i64 0, .int .i64 0, .int .i64 0, .int .i64 0, .int .i64 0, .int .i64 0, .int .i64 0, .int .i64 0, .int .i64 0, .int .i64 0, .int .i64 0, .int .i64 0, .int .i64 0, .int .i64 0, .int .i64 0, .int .i64 0, .int .i64 0, .int .i64 0, .slice none 0 0]
theorem mkR_one (id commit : Int) : ∀ v ∈ mkR id commit, v.oneCell' = true := by
  intro v hv
  unfold mkR at hv
  simp only [List.mem_cons, List.not_mem_nil, or_false] at hv
  rcases hv with h | h | h | h | h | h | h | h | h | h | h | h | h | h | h | h | h | h | h | h | h | h | h | h | h | h | h | h | h | h | h | h | h | h | h | h | h | h | h | h <;> rw [h] <;> rfl
theorem mkR_ok (id commit : Int) : RfOk (mkR id commit) id commit := ⟨rfl, mkR_one id commit, rfl, rfl⟩
def idsL (n : Nat) : List Int := (List.range n).map fun (i : Nat) => (i : Int) % 7
theorem idsL_at {n i : Nat} (h : i < n) : (idsL n)[i]? = some ((i : Int) % 7) := by
  unfold idsL
  simp [h]
def raftsL (cs : List Int) (n : Nat) : List (List Value) := (List.range n).map fun (i : Nat) => mkR ((i : Int) % 7) (cs.getD i 0)
theorem raftsL_succ (cs : List Int) (n : Nat) : raftsL cs (n + 1) = raftsL cs n ++ [mkR ((n : Int) % 7) (cs.getD n 0)] := by
  unfold raftsL
  rw [List.range_succ, List.map_append]
  rfl
theorem raftsL_len (cs : List Int) (n : Nat) : (raftsL cs n).length = n := by simp [raftsL]
theorem raftsL_at {cs : List Int} {n i : Nat} {x : List Value} (h : (raftsL cs n)[i]? = some x) : i < n ∧ x = mkR ((i : Int) % 7) (cs.getD i 0) := by
  unfold raftsL at h
  rw [List.getElem?_map] at h
  by_cases hi : i < n
  · rw [List.getElem?_range hi] at h
    simp at h
    exact ⟨hi, h.symm⟩
  · rw [List.getElem?_eq_none (by simpa using hi)] at h
    cases h
/-! ### A row of replicas of the call's own -/
def zeroR : Value := .agg (mkR 0 0).toArray
theorem info_raft : (Tryd.prog.info? 33).map (fun i => (i.zero, i.size, i.bytes)) = some (some zeroR, 40, 368) := by kernel_rfl
def OwnR (w : World) (base : Nat) (v : Value) (xss : List (List Value)) : Prop := w.ownsRow base 33 40 v xss.length xss.flatten
theorem ownR_nil (w : World) (base : Nat) : OwnR w base (.slice none 0 0) [] := ⟨rfl, .inl ⟨rfl, rfl⟩⟩
theorem rd_struct (w : World) (x : List Value) (e : TypeId) : Rd (w.alloc (.cells x.toArray e)) (w.heap.size + 1) x.length (some ⟨w.heap.size, 0, none⟩) 1 1 x := by
  refine ⟨by omega, Nat.le_refl _, by decide, fun _ => ⟨w.heap.size, 0, rfl, by omega, fun j y hy => ?_⟩⟩
  rw [Nat.zero_add, cell_of_row _ _ _ _ _ _ (heap_alloc_new w _)]
  simpa using hy
theorem wpList_appR {w : World} {ops : Array Oper} {rest : List Oper} {o : Oper} {a : Act} {Q : Exit → Act → World → Prop} (hgd : o.guard = none) (s x : Operand)
    (ho : o.op = .call { callee := .builtin .append, args := #[s, x], argTypes := #[23, 23] })
    (base : Nat) (v : Value) (xss : List (List Value)) (hs : a.eval s = v) (hown : OwnR w base v xss)
    (B g : Nat) (r : List Value) (hx : a.eval x = .slice (some ⟨g, 0, none⟩) 1 1) (_hl : r.length = 40) (hr : Rd w B 40 (some ⟨g, 0, none⟩) 1 1 r) (h1 : ∀ u ∈ r, u.oneCell' = true)
    (hlim : xss.length ≤ 100000) (hbase : base ≤ w.heap.size)
    (h : ∀ v' w', OwnR w' base v' (xss ++ [r]) → w.grownBy w' v.ownBlock → wpList Tryd.prog ops Q rest (a.put o.dst v') w') : wpList Tryd.prog ops Q (o :: rest) a w := by
  obtain ⟨i0, hi, hz0, hz1, hz2⟩ := info_parts info_raft
  refine wpList_plain hgd fun _ hK => wp_appAt s x _ ho base 33 i0 zeroR 40 368 Tryd.underlying23 hi hz0 hz1 hz2 rfl (by omega) v xss.length xss.flatten hs hown B _ 1 1 r hx hr h1 (by simp only [maxLen]; omega) (by omega) hbase ?_
  intro v' w' q1 q2 _ _
  refine hK _ _ (h v' w' ?_ q2)
  unfold OwnR
  rw [List.length_append, List.flatten_append, List.flatten_singleton]
  exact q1
end Go.Proofs.YtkckncggiicciaaDoor
/-
  ReportPairs: the walk of set.
-/
namespace Go.Proofs.YtkckncggiicciaaDoor
open Go.RowKit
set_option maxRecDepth 100000
theorem pr_one (w : World) (p : ByteArray × Va) : PrRows (w.alloc (.cells (prC p).toArray 66)) (w.heap.size + 1) (some ⟨w.heap.size, 0, none⟩) 1 1 [p] := by
  have := rd_struct w (prC p) 66
  unfold PrRows
  rw [List.map_cons, List.map_nil, List.flatten_cons, List.flatten_nil, List.append_nil]
  exact this
def SetPost (n : Nat) (w : World) (e : Ending) (w' : World) : Prop := (∃ v l, e = .returned v ∧ OwnP w' w.heap.size v l ∧ SortP l ∧ l.length ≤ n + 1) ∧ Below w.heap.size w w'
set_option maxHeartbeats 12800000 in
theorem Set_any (A : Option Addr) (n c : Nat) (key : ByteArray) (v : Va) (ps : List (ByteArray × Va)) (w : World) (hy : PrRows w w.heap.size A n c ps) (hl : ps.length = n) (hR : RightP ps) (hv : v.k ≠ 0 → PairOk (key, v)) :
    Calls Tryd.prog 101 #[.slice A n c, .string key, .agg #[.int .i64 v.k, .float .f64 v.x, .string v.s]] w (SetPost n w) := by
  have hcap : n ≤ c := hy.2.1
  have h32 : n ≤ 32 := by rw [← hl]; exact hR.few
  obtain ⟨k, x, s⟩ := v
  obtain ⟨W1, hW1⟩ : ∃ W1, w.alloc (.cells #[.int .i64 k, .float .f64 x, .string s] 56) = W1 := ⟨_, rfl⟩
  have hob : Below w.heap.size w W1 := by rw [← hW1]; exact alloc_below w _
  have hz1 : W1.heap.size = w.heap.size + 1 := by rw [← hW1]; simp
  have hrow : W1.heap[w.heap.size]? = some (.cells #[.int .i64 k, .float .f64 x, .string s] 56 (0, 0)) := by rw [← hW1]; exact heap_alloc_new w _
  have HE : Hid (∀ i, i < n → ∃ b off p, A = some ⟨b, off, none⟩ ∧ b < w.heap.size ∧ ps[i]? = some p ∧ PairOk p ∧ w.rangeAt b (off + i * 4) (prC p)) := fun i hi => by
    obtain ⟨b, off, p, q1, q2, q3, q4, q5⟩ := pr_row hy hl hi
    have : ps[i]? = some p := by
      rw [List.getD_eq_getElem?_getD, List.getElem?_eq_getElem (by omega)] at q3
      rw [List.getElem?_eq_getElem (by omega)]
      exact congrArg some q3
    exact ⟨b, off, p, q1, q2, this, hR.each p q4, q5⟩
  have Hc : Hid (∀ w', Below W1.heap.size W1 w' → w'.cell? ⟨w.heap.size, 0, none⟩ = some (.int .i64 k) ∧ w'.cell? ⟨w.heap.size, 1, none⟩ = some (.float .f64 x) ∧ w'.cell? ⟨w.heap.size, 2, none⟩ = some (.string s)) := fun w' hb => by
    have q := (hb.block w.heap.size (by omega)).trans hrow
    exact ⟨cell_of_row _ _ _ _ _ _ q, cell_of_row _ _ _ _ _ _ q, cell_of_row _ _ _ _ _ _ q⟩
  have Hup : Hid (∀ w', Below W1.heap.size W1 w' → Below w.heap.size w w') := fun w' hb => hob.trans (hb.mono (by omega))
  have Hso : Hid (ps.Pairwise ltK) := hR.sorted
  have HQ : Hid (∀ u l w', OwnP w' W1.heap.size u l → SortP l → l.length ≤ n + 1 → Below W1.heap.size W1 w' → SetPost n w (.returned u) w') := fun u l w' h1 h2 h3 h4 => ⟨⟨u, l, rfl, own_base h1 (by omega), h2, h3⟩, hob.trans (h4.mono (by omega))⟩
  obtain ⟨J, hJ⟩ : ∃ J, SetPost n w = J := ⟨_, rfl⟩
  rw [hJ] at HQ ⊢
  have HW1 := Lib.hid hW1
  have Hv := Lib.hid hv
  have hbc : Below W1.heap.size W1 W1 := Below.refl _ _
  obtain ⟨y0, y1, y2⟩ := Hc.out _ hbc
  have hkk : (k == 0) = decide (k = 0) := by rw [Bool.eq_iff_iff]; simp
  have Hkk := Lib.hid hkk
  clear hW1 hJ hy hl hR hrow hob hz1 hv hkk
  dsimp only
  -- one more pair
  have HAp : Hid (∀ (w4 : World) (p : ByteArray × Va), PrRows (w4.alloc (.cells (prC p).toArray 66)) (w4.heap.size + 1) (some ⟨w4.heap.size, 0, none⟩) 1 1 [p]) := pr_one
  obtain ⟨dd, hdd⟩ : ∃ dd : Bool, decide (k = 0) = dd := ⟨_, rfl⟩
  have Hdd := Lib.hid hdd
  have hk0 : (k == 0) = dd := by rw [Hkk.out, hdd]
  clear hdd
  go_enter Tryd.func101, Tryd.ntmps101
  go_wp2_with fail
  rw [HW1.out]
  clear y0 y1 y2
  go_loopg [7, 8, 9] n (fun g s7 s8 s9 wr => ∃ (i : Nat) (l : List (ByteArray × Va)) (d : Bool), i + g = n ∧ s9 = .int .i64 i ∧ s8 = .bool d ∧ OwnP wr W1.heap.size s7 l ∧ SetI ps key i l d ∧ (d = false → k ≠ 0) ∧ Below W1.heap.size W1 wr)
  case atStart => exact ⟨0, [], dd, by omega, rfl, rfl, World.ownsRow_nil _ _ _ _, set_start _ _ _, (fun h => by rw [← Hdd.out] at h; simpa using h), hbc⟩
  case round =>
    clear hbc
    obtain ⟨i, l, dn, hig, rfl, rfl, ho, hI, hdn, hbr⟩ := hrel
    have Hig := Lib.hid hig
    have Ho := Lib.hid ho
    have HI := Lib.hid hI
    have Hdn := Lib.hid hdn
    have hin : i ≤ n := by omega
    clear hig ho hI hdn
    by_cases hlt : i < n
    · obtain ⟨b, off, p, rfl, hb, hget, hpk, hrg⟩ := HE.out i hlt
      have HCp : Hid (∀ w', Below W1.heap.size W1 w' → w'.cell? ⟨b, off + i * 4, none⟩ = some (.string p.1) ∧ w'.rangeAt b (off + i * 4) (prC p)) := fun w' hb' => by
        have q := range_below hrg (Hup.out _ hb') hb
        exact ⟨(fpair_range q).1, q⟩
      have Hpk := Lib.hid hpk
      have Hget := Lib.hid hget
      obtain ⟨x0, x1⟩ := HCp.out _ hbr
      have X1 := Lib.hid x1
      obtain ⟨k2, ⟨vk, vx, vs⟩⟩ := p
      have i0 : (0 : Int) ≤ (i : Int) := by omega
      have i1 : (i : Int) < (n : Int) := by omega
      have Hlen : Hid (l.length ≤ 34) := by have := HI.out.len; unfold Hid; omega
      dsimp only at x0
      obtain ⟨y0, y1, y2⟩ := Hc.out _ hbr
      clear x1 hpk hrg hget HE
      cases he : (k2.toList == key.toList)
      · -- another key
        have he2 : (k2.toList != key.toList) = true := by rw [bne, he]; rfl
        have Hne : Hid (k2.toList ≠ key.toList) := by unfold Hid; simpa using he
        cases dn
        · cases hle : (Op.bytesLess key.toList k2.toList || key.toList == k2.toList)
          · have HN : Hid (SetI ps key (i + 1) (l ++ [(k2, ⟨vk, vx, vs⟩)]) false) := set_ne Hso.out Hget.out Hpk.out HI.out (fun _ => hle)
            go_wp2_with (first
              | (refine Go.wpList_load_mid rfl 66 (.tmp 46) rfl b (off + i * 4) rfl [.string k2, .int .i64 vk, .float .f64 vx, .string vs] _ X1.out Tryd.underlying66 rfl size4 ?_)
              | (at_builtin
                 refine wpList_appP rfl (.tmp 43) (.tmp 48) rfl W1.heap.size u7 _ rfl (World.ownsRow.alloc Ho.out _) (wr.heap.size + 1) (some ⟨wr.heap.size, 0, none⟩) 1 1 _ rfl rfl (HAp.out wr (k2, ⟨vk, vx, vs⟩)) (by have := Hlen.out; omega) (by simp; have := hbr.size; omega) ?_
                 intro v4 w4 ho4 hg4
                 have hb4 : Below W1.heap.size W1 w4 := (hbr.alloc hbr.size _).grown hg4 (by simp; have := hbr.size; omega) (fun q hq => (World.ownsRow.lt Ho.out q hq).1)
                 have Ho4 := Lib.hid ho4
                 clear ho4 hg4))
            go_roundg (gk - 1)
            case rel => exact ⟨i + 1, _, false, by have := Hig.out; omega, by go_num, rfl, Ho4.out, HN.out, (fun _ => Hdn.out (by first | rfl | trivial)), hb4⟩
            case measure => have := Hig.out; omega
          · have HN : Hid (SetI ps key (i + 1) ((l ++ [(key, ⟨k, x, s⟩)]) ++ [(k2, ⟨vk, vx, vs⟩)]) true) := set_ins_ne Hso.out Hget.out Hpk.out HI.out (Hv.out (Hdn.out (by first | rfl | trivial))) hle Hne.out
            go_wp2_with (first
              | (at_builtin
                 refine wpList_appP rfl (.tmp 30) (.tmp 34) rfl W1.heap.size u7 _ rfl (World.ownsRow.alloc Ho.out _) (wr.heap.size + 1) (some ⟨wr.heap.size, 0, none⟩) 1 1 _ rfl rfl (HAp.out wr (key, ⟨k, x, s⟩)) (by have := Hlen.out; omega) (by simp; have := hbr.size; omega) ?_
                 intro v3 w3 ho3 hg3
                 have hb3 : Below W1.heap.size W1 w3 := (hbr.alloc hbr.size _).grown hg3 (by simp; have := hbr.size; omega) (fun q hq => (World.ownsRow.lt Ho.out q hq).1)
                 have Ho3 := Lib.hid ho3
                 clear ho3 hg3 y0 y1 y2 x0
                 obtain ⟨x0, x1⟩ := HCp.out _ hb3
                 have X3 := Lib.hid x1
                 clear x1)
              | (refine Go.wpList_load_mid rfl 66 (.tmp 46) rfl b (off + i * 4) rfl [.string k2, .int .i64 vk, .float .f64 vx, .string vs] _ X3.out Tryd.underlying66 rfl size4 ?_)
              | (at_builtin
                 refine wpList_appP rfl (.tmp 43) (.tmp 48) rfl W1.heap.size v3 _ rfl (World.ownsRow.alloc Ho3.out _) (w3.heap.size + 1) (some ⟨w3.heap.size, 0, none⟩) 1 1 _ rfl rfl (HAp.out w3 (k2, ⟨vk, vx, vs⟩)) (by have := Hlen.out; rw [List.length_append]; simp; omega) (by simp; have := hb3.size; omega) ?_
                 intro v4 w4 ho4 hg4
                 have hb4 : Below W1.heap.size W1 w4 := (hb3.alloc hb3.size _).grown hg4 (by simp; have := hb3.size; omega) (fun q hq => (World.ownsRow.lt Ho3.out q hq).1)
                 have Ho4 := Lib.hid ho4
                 clear ho4 hg4))
            go_roundg (gk - 1)
            case rel => exact ⟨i + 1, _, true, by have := Hig.out; omega, by go_num, rfl, Ho4.out, HN.out, (fun h => by cases h), hb4⟩
            case measure => have := Hig.out; omega
        · have HN : Hid (SetI ps key (i + 1) (l ++ [(k2, ⟨vk, vx, vs⟩)]) true) := set_ne Hso.out Hget.out Hpk.out HI.out (fun h => by cases h)
          go_wp2_with (first
            | (refine Go.wpList_load_mid rfl 66 (.tmp 46) rfl b (off + i * 4) rfl [.string k2, .int .i64 vk, .float .f64 vx, .string vs] _ X1.out Tryd.underlying66 rfl size4 ?_)
            | (at_builtin
               refine wpList_appP rfl (.tmp 43) (.tmp 48) rfl W1.heap.size u7 _ rfl (World.ownsRow.alloc Ho.out _) (wr.heap.size + 1) (some ⟨wr.heap.size, 0, none⟩) 1 1 _ rfl rfl (HAp.out wr (k2, ⟨vk, vx, vs⟩)) (by have := Hlen.out; omega) (by simp; have := hbr.size; omega) ?_
               intro v4 w4 ho4 hg4
               have hb4 : Below W1.heap.size W1 w4 := (hbr.alloc hbr.size _).grown hg4 (by simp; have := hbr.size; omega) (fun q hq => (World.ownsRow.lt Ho.out q hq).1)
               have Ho4 := Lib.hid ho4
               clear ho4 hg4))
          go_roundg (gk - 1)
          case rel => exact ⟨i + 1, _, true, by have := Hig.out; omega, by go_num, rfl, Ho4.out, HN.out, (fun h => by cases h), hb4⟩
          case measure => have := Hig.out; omega
      · -- the same key
        have he2 : (k2.toList != key.toList) = false := by rw [bne, he]; rfl
        have hle : (Op.bytesLess key.toList k2.toList || key.toList == k2.toList) = true := by
          have e : k2.toList = key.toList := by simpa using he
          rw [e]
          simp
        cases dn
        · have HN : Hid (SetI ps key (i + 1) (l ++ [(key, ⟨k, x, s⟩)]) true) := set_ins_eq Hso.out Hget.out HI.out (Hv.out (Hdn.out (by first | rfl | trivial))) hle
          go_wp2_with (
            (at_builtin
             refine wpList_appP rfl (.tmp 30) (.tmp 34) rfl W1.heap.size u7 _ rfl (World.ownsRow.alloc Ho.out _) (wr.heap.size + 1) (some ⟨wr.heap.size, 0, none⟩) 1 1 _ rfl rfl (HAp.out wr (key, ⟨k, x, s⟩)) (by have := Hlen.out; omega) (by simp; have := hbr.size; omega) ?_
             intro v3 w3 ho3 hg3
             have hb3 : Below W1.heap.size W1 w3 := (hbr.alloc hbr.size _).grown hg3 (by simp; have := hbr.size; omega) (fun q hq => (World.ownsRow.lt Ho.out q hq).1)
             have Ho3 := Lib.hid ho3
             clear ho3 hg3 y0 y1 y2 x0
             obtain ⟨x0, x1⟩ := HCp.out _ hb3
             clear x1))
          go_roundg (gk - 1)
          case rel => exact ⟨i + 1, _, true, by have := Hig.out; omega, by go_num, rfl, Ho3.out, HN.out, (fun h => by cases h), hb3⟩
          case measure => have := Hig.out; omega
        · have HN : Hid (SetI ps key (i + 1) l true) := set_eq Hget.out HI.out
          go_wp2_with fail
          go_roundg (gk - 1)
          case rel => exact ⟨i + 1, _, true, by have := Hig.out; omega, by go_num, rfl, Ho.out, HN.out, (fun h => by cases h), hbr⟩
          case measure => have := Hig.out; omega
    · obtain rfl : i = n := by omega
      obtain ⟨y0, y1, y2⟩ := Hc.out _ hbr
      have Hlen : Hid (l.length ≤ 34) := by have := HI.out.len; unfold Hid; omega
      clear HE
      cases dn
      · go_wp2_with (
          (at_builtin
           refine wpList_appP rfl (.tmp 52) (.tmp 56) rfl W1.heap.size u7 _ rfl (World.ownsRow.alloc Ho.out _) (wr.heap.size + 1) (some ⟨wr.heap.size, 0, none⟩) 1 1 _ rfl rfl (HAp.out wr (key, ⟨k, x, s⟩)) (by have := Hlen.out; omega) (by simp; have := hbr.size; omega) ?_
           intro v3 w3 ho3 hg3
           have hb3 : Below W1.heap.size W1 w3 := (hbr.alloc hbr.size _).grown hg3 (by simp; have := hbr.size; omega) (fun q hq => (World.ownsRow.lt Ho.out q hq).1)
           have Ho3 := Lib.hid ho3
           clear ho3 hg3))
        exact HQ.out _ _ _ Ho3.out (set_end_put HI.out (Hv.out (Hdn.out (by first | rfl | trivial)))) (by rw [List.length_append]; have := HI.out.len0 rfl; simp; omega) hb3
      · go_wp2_with fail
        exact HQ.out _ _ _ Ho.out (set_end HI.out) HI.out.len hbr
end Go.Proofs.YtkckncggiicciaaDoor
/-
  ReportPairs: the walk of ref05.Machine on a machine whose pairs are right.
-/
namespace Go.Proofs.YtkckncggiicciaaDoor
open Go.RowKit
set_option maxRecDepth 100000
structure Se.Ok (s : Se) : Prop where
  num : s.v.x < 18446744073709551616
  txt : s.v.s.size ≤ maxLen
set_option maxHeartbeats 12800000 in
theorem RMachine_any (A : Option Addr) (n c : Nat) (B : Option Addr) (k d : Nat) (ps : List (ByteArray × Va)) (ss : List Se) (w : World) (hy : PrRows w w.heap.size A n c ps) (hl : ps.length = n) (hR : RightP ps) (hz : SeRows w w.heap.size B k d ss) (hsl : ss.length = k) (hso : ∀ s ∈ ss, s.Ok) :
    Calls Tryd.prog 75 #[.agg #[.slice A n c, .slice B k d]] w (SomeB w) := by
  have hkd : k ≤ d := hz.2.1
  have hdm : d ≤ maxLen := hz.2.2.1
  unfold maxLen at hdm
  have Hkm : Hid (k ≤ 9223372036854775807) := by unfold Hid; omega
  clear hdm
  obtain ⟨W1, hW1⟩ : ∃ W1, w.alloc (.cells #[.slice A n c, .slice B k d] 44) = W1 := ⟨_, rfl⟩
  have hob : Below w.heap.size w W1 := by rw [← hW1]; exact alloc_below w _
  have hz1 : W1.heap.size = w.heap.size + 1 := by rw [← hW1]; simp
  have hrow : W1.heap[w.heap.size]? = some (.cells #[.slice A n c, .slice B k d] 44 (0, 0)) := by rw [← hW1]; exact heap_alloc_new w _
  have HP : Hid (Calls Tryd.prog 97 #[.slice A n c] W1 fun e w' => e = .returned (.bool true) ∧ Below W1.heap.size W1 w') := RPairsOk_any A n c ps W1 ((Rd.below hy hob (Nat.le_refl _)).mono hob.size) hl hR
  have HQ : Hid (∀ b w', Below w.heap.size w w' → SomeB w (.returned (.bool b)) w') := fun b w' hb => ⟨⟨b, rfl⟩, hb⟩
  have Hc : Hid (∀ w', Below W1.heap.size W1 w' → w'.cell? ⟨w.heap.size, 0, none⟩ = some (.slice A n c) ∧ w'.cell? ⟨w.heap.size, 1, none⟩ = some (.slice B k d)) := fun w' hb => by
    have q := (hb.block w.heap.size (by omega)).trans hrow
    exact ⟨cell_of_row _ _ _ _ _ _ q, cell_of_row _ _ _ _ _ _ q⟩
  have HE : Hid (∀ i, i < k → ∃ b off, ∃ s : Se, B = some ⟨b, off, none⟩ ∧ b < w.heap.size ∧ s.Ok ∧ w.rangeAt b (off + i * 6) s.cells) := fun i hi => by
    obtain ⟨b, off, s, q1, q2, q3, q4, q5⟩ := se_row hz hsl hi
    exact ⟨b, off, s, q1, q2, hso s q4, q5⟩
  have Hup : Hid (∀ w', Below W1.heap.size W1 w' → Below w.heap.size w w') := fun w' hb => hob.trans (hb.mono (by omega))
  obtain ⟨J, hJ⟩ : ∃ J, SomeB w = J := ⟨_, rfl⟩
  rw [hJ] at HQ ⊢
  obtain ⟨y0, y1⟩ := Hc.out W1 (Below.refl _ _)
  have HW1 := Lib.hid hW1
  have Hz1 := Lib.hid hz1
  clear hW1 hJ hy hl hR hz hsl hso hrow hob hz1
  go_enter Tryd.func75, Tryd.ntmps75
  go_wp2_with fail
  rw [HW1.out]
  refine HP.out.mono ?_
  rintro e w2 ⟨rfl, hb2⟩
  clear y0 y1
  go_wp2_with fail
  go_loopg [2, 3, 4] k (fun g s2 s3 s4 wr => ∃ i : Nat, i + g = k ∧ s3 = .int .i64 i ∧ Below W1.heap.size W1 wr)
  case atStart => exact ⟨0, by omega, rfl, hb2⟩
  case round =>
    clear hb2
    obtain ⟨i, hig, rfl, hbr⟩ := hrel
    have Hig := Lib.hid hig
    have hin : i ≤ k := by omega
    obtain ⟨y0, y1⟩ := Hc.out _ hbr
    clear hig
    by_cases hlt : i < k
    · obtain ⟨b, off, s, rfl, hb, hsk, hrg⟩ := HE.out i hlt
      have hbw := Hup.out _ hbr
      have Hrg := Lib.hid (range_below hrg hbw hb)
      have HPv : Hid (∀ j, j + 1 = i → ∃ cl2 : Int, ∀ w', Below W1.heap.size W1 w' → w'.cell? ⟨b, off + j * 6, none⟩ = some (.int .i64 cl2)) := fun j hj => by
        obtain ⟨b2, off2, s2, he, hb2, _, hrg2⟩ := HE.out j (by omega)
        injection he with he
        injection he with e1 e2 _
        subst e1 e2
        refine ⟨s2.cl, fun w' hb' => ?_⟩
        have := range_below hrg2 (Hup.out _ hb') hb 0 _ rfl
        rwa [Nat.add_zero] at this
      have HV : Hid (∀ w', Calls Tryd.prog 25 #[.agg #[.int .i64 s.v.k, .float .f64 s.v.x, .string s.v.s]] w' fun e w'' => e = .returned (.int .i64 (chkVa s.v)) ∧ Below w'.heap.size w' w'') := fun w' => RCheck_any s.v w' hsk.num hsk.txt
      have HvV : Hid (chkVa s.v = 0 ∨ chkVa s.v = 8 ∨ chkVa s.v = 2 ∨ chkVa s.v = 15) := chk_vals s.v
      have i0 : (0 : Int) ≤ (i : Int) := by omega
      have i1 : (i : Int) < (k : Int) := by omega
      obtain ⟨cv, hcv⟩ : ∃ cv, chkVa s.v = cv := ⟨_, rfl⟩
      rw [hcv] at HV HvV
      obtain ⟨cl, sq, code, ⟨vk, vx, vs⟩⟩ := s
      dsimp only at *
      clear hcv hrg HE hsk
      go_wp2_with (first
        | (refine Go.wpList_load_mid rfl 83 (.tmp 19) rfl b (off + i * 6) rfl (Se.cells ⟨cl, sq, code, ⟨vk, vx, vs⟩⟩) _ Hrg.out Tryd.underlying83 rfl size6s ?_)
        | (refine wpList_store_local rfl 83 (.tmp 4) _ rfl (Se.cells ⟨cl, sq, code, ⟨vk, vx, vs⟩⟩) rfl rfl size6s rfl (Se.cells_one _) ?_
           intro w5 q5 hb5 hz5
           have Q5 := Lib.hid q5
           clear q5))
      have hbr5 := bstep hbr hb5
      have c0 := cell_regrown (cell_list Q5.out 0 (.int .i64 cl) rfl)
      have c1 := cell_regrown (cell_list Q5.out 1 (.int .i64 sq) rfl)
      have c2 := cell_regrown (cell_list Q5.out 2 (.int .i64 code) rfl)
      have c3 := cell_regrown (cell_list Q5.out 3 (.int .i64 vk) rfl)
      have c4 := cell_regrown (cell_list Q5.out 4 (.float .f64 vx) rfl)
      have c5 := cell_regrown (cell_list Q5.out 5 (.string vs) rfl)
      have m1 := cell_regrown (Hc.out _ hbr5).2
      have hne := HvV.out
      clear HvV Hrg y0 y1
      rcases Decidable.em (cl < 1) with g1 | g1
      case' inr => rcases Decidable.em (4 < cl) with g2 | g2
      case' inr.inr => rcases Decidable.em (sq < 1) with g3 | g3
      case' inr.inr.inr => rcases Decidable.em (1099511627776 < sq) with g4 | g4
      case' inr.inr.inr.inr => rcases Decidable.em (code < 0) with g5 | g5
      case' inr.inr.inr.inr.inr => rcases Decidable.em (16 < code) with g6 | g6
      case' inr.inr.inr.inr.inr.inr => rcases Decidable.em (cv = 0) with g7 | g7
      case' inr.inr.inr.inr.inr.inr.inr => have g7' : (cv != 0) = true := by simpa using g7
      case' inr.inr.inr.inr.inr.inr.inl => rcases Nat.eq_zero_or_pos i with hz0 | hz0
      case' inr.inr.inr.inr.inr.inr.inl.inl =>
        subst g7
        have hzd : decide ((0 : Int) < (i : Int)) = false := by simp; omega
      case' inr.inr.inr.inr.inr.inr.inl.inr =>
        subst g7
        obtain ⟨j, hj⟩ : ∃ j, j + 1 = i := ⟨i - 1, by omega⟩
        obtain ⟨cl2, hp2⟩ := HPv.out j hj
        have p2 := cell_regrown (hp2 _ hbr5)
        have hzd : decide ((0 : Int) < (i : Int)) = true := by simp; omega
        have hsub : (i : Int) - 1 = (j : Int) := by omega
        have j0 : (0 : Int) ≤ (j : Int) := by omega
        have j1 : (j : Int) < (k : Int) := by omega
        have hkm : (k : Int) ≤ 9223372036854775807 := by have := Hkm.out; omega
        have hwr : IntKind.i64.wrap ((i : Int) - 1) = (j : Int) := by rw [hsub]; exact IntWalk.i64_in _ (by omega)
        have hwj : IntKind.i64.wrap (j : Int) = (j : Int) := IntWalk.i64_in _ (by omega)
        clear hp2
        rcases Decidable.em (cl ≤ cl2) with g8 | g8
      all_goals
        with_reducible refine wp_region_quiet_below (by kernel_rfl) (by kernel_rfl) ?_
        repeat (with_reducible refine wpQuiet_step ?_; intro K hK; go_simp; first
          | (with_reducible refine hK _ ?_; clear hK K)
          | (rw [if_neg (by first | decide | (simp [undef]) | (intro h; cases h))]; with_reducible refine hK _ ?_; clear hK K)
          | (apply Exists.intro; with_reducible refine ⟨fun _ => ?_, hK _ ?_⟩; (with_reducible exact Calls.regrown_of (HV.out _)); clear hK K))
        with_reducible refine wpQuiet_nil ?_
        intro w9 hw9
        have hbn : Below W1.heap.size W1 w9 := hbr5.trans (by
          obtain ⟨⟨dq, osq⟩, hw''⟩ := hw9
          rw [hw'']
          exact (below_regrown _ _ _).mono hbr5.size)
        clear hw9
        go_wp2_with fail
        first
          | exact HQ.out _ _ (Hup.out _ hbn)
          | go_roundg (gk - 1)
      all_goals first
        | exact ⟨i + 1, by have := Hig.out; omega, by go_num, hbn⟩
        | (have := Hig.out; omega)
    · obtain rfl : i = k := by omega
      clear HE
      go_wp2_with fail
      exact HQ.out _ _ (Hup.out _ hbr)
end Go.Proofs.YtkckncggiicciaaDoor
/-
  A region that draws its order, whose last operations come in the text's order behind all others: the first ones told operation by operation, the last ones walked.
-/
namespace Go.Proofs.YtkckncggiicciaaDoor
open Go Go.RowKit
/-- From the m-th on each operation waits for the one ahead of it. -/
def forced (l : List Oper) (m : Nat) : Bool := (List.range l.length).all fun j => decide (j ≤ m) || (((l[j]?).map fun o => o.after.toList.any fun e => e.on == j - 1 && Region.binds .any e).getD false)
theorem forced_at {l : List Oper} {m j : Nat} (h : forced l m = true) (hm : m < j) (hj : j < l.length) : ∃ o, l[j]? = some o ∧ ∃ e ∈ o.after, e.on = j - 1 ∧ Region.binds .any e = true := by
  unfold forced at h
  rw [List.all_eq_true] at h
  have := h j (List.mem_range.2 hj)
  rw [Bool.or_eq_true] at this
  rcases this with h1 | h1
  · have : j ≤ m := by simpa using h1
    omega
  · rw [List.getElem?_eq_getElem hj] at h1 ⊢
    simp only [Option.map_some, Option.getD_some, List.any_eq_true, Bool.and_eq_true, beq_iff_eq] at h1
    obtain ⟨e, he, h3, h4⟩ := h1
    exact ⟨_, rfl, e, by simpa using he, h3, h4⟩
theorem drop_head {α : Type} {l : List α} {i : Nat} {a : α} (h : l[i]? = some a) : l.drop i = a :: l.drop (i + 1) := by
  obtain ⟨hi, rfl⟩ := List.getElem?_eq_some_iff.1 h
  exact List.drop_eq_getElem_cons hi
theorem wpOp_of_list {P : Program} {ops : Array Oper} {Q : Exit → Act → World → Prop} {rest : List Oper} {a : Act} {w : World} {i : Nat} {o : Oper} (ho : ops[i]? = some o)
    (h : wpList P ops Q (o :: rest) a w) : wpOp P ops Q i (wpList P ops Q rest) a w := by
  unfold wpOp
  rw [ho]
  unfold wpList at h
  exact h
theorem wp_region_tail {P : Program} {id : Nat} {Q : Exit → Act → World → Prop} {a0 : Act} {w0 : World} {l : List Oper} (m : Nat) (hml : m < l.length) (hm : P.follows .mixedOrders = true) (hlex : lexAll 0 l = true) (hch : chained l m = true) (hfo : forced l m = true)
    (S : List Sp) (mk : (Nat → Value) → Act) (_hmk : ∀ f, putOps a0 (l.take m) f 0 = mk f) (f0 : Nat → Value) (h0 : mk f0 = a0)
    (hput : stepAll (fun i o => ∀ f v, (mk f).put o.dst v = mk (fun j => if j = i then v else f j)) 0 (l.take m))
    (hstep : stepAll (fun i o => ∀ f w, Below w0.heap.size w0 w → depAll (fun j => (S.getD j .any).holds (f j) w) o.after.toList →
      wpList P l.toArray (oneQ (fun a' w' => ∃ v, a' = (mk f).put o.dst v ∧ Below w.heap.size w w' ∧ (S.getD i .any).holds v w') Q) [o] (mk f) w) 0 (l.take m))
    (htail : ∀ f w, Below w0.heap.size w0 w → (∀ i, i < m → (S.getD i .any).holds (f i) w) → wpList P l.toArray Q (l.drop m) (mk f) w) :
    (Code.region id l.toArray true).wp P Q a0 w0 := by
  refine wp_region_any hm ?_
  refine wpAny_inv (fun L a w => L.size = l.length ∧ (∀ i o, l[i]? = some o → L.getD i false = true → ∀ e ∈ o.after, Region.binds .any e = true → L.getD e.on false = true) ∧
      ((L.getD m false = false ∧ ∃ f, a = mk f ∧ Below w0.heap.size w0 w ∧ ∀ i, i < m → L.getD i false = true → (S.getD i .any).holds (f i) w) ∨
       (∃ k, m < k ∧ k ≤ l.length ∧ (∀ i, i < k → L.getD i false = true) ∧ (∀ i, k ≤ i → L.getD i false = false) ∧ wpList P l.toArray Q (l.drop k) a w))) ?_ ?_ l.toArray.size _ _ _ ?_ ?_
  · rintro L a w hr ⟨hsz, hcl, hI⟩
    have hall : ∀ n i, i < n → i < l.length → L.getD i false = true := by
      intro n
      induction n with
      | zero => intro i h; omega
      | succ n ih =>
        intro i hi hl
        cases hc : L.getD i false with
        | true => rfl
        | false =>
          have : i ∈ Region.ready .any l.toArray L := by
            refine mem_ready.2 ⟨?_, l[i], ?_, fun e he hbb => ih e.on ?_ ?_⟩
            · rw [Array.getD_eq_getD_getElem?, Array.getElem?_eq_getElem (by omega)] at hc ⊢
              exact hc
            · rw [List.getElem?_toArray, List.getElem?_eq_getElem hl]
            · have := lexAll_at hlex (List.getElem?_eq_getElem hl) e he hbb; omega
            · have := lexAll_at hlex (List.getElem?_eq_getElem hl) e he hbb; omega
          rw [hr] at this
          cases this
    rcases hI with ⟨h1, _⟩ | ⟨k, h1, h2, h3, h4, h5⟩
    · rw [hall (m + 1) m (by omega) hml] at h1
      cases h1
    · have hk : k = l.length := by
        rcases Nat.lt_or_ge k l.length with h | h
        · have := h4 k (Nat.le_refl _)
          rw [hall (k + 1) k (by omega) h] at this
          cases this
        · omega
      rw [hk, List.drop_eq_nil_of_le (Nat.le_refl _)] at h5
      exact h5
  · rintro L a w i hi ⟨hsz, hcl, hI⟩
    obtain ⟨hnl, o, ho, hd⟩ := mem_ready.1 hi
    have ho' : l[i]? = some o := by rw [List.getElem?_toArray] at ho; exact ho
    have hil : i < l.length := (List.getElem?_eq_some_iff.1 ho').1
    have hnl' : L.getD i false = false := by
      rw [Array.getD_eq_getD_getElem?, Array.getElem?_eq_getElem (by omega)] at hnl ⊢
      exact hnl
    have hsz' : (L.setIfInBounds i true).size = l.length := by rw [Array.size_setIfInBounds]; exact hsz
    have hget : ∀ j, j ≠ i → (L.setIfInBounds i true).getD j false = L.getD j false := fun j hj => by
      rw [Array.getD_eq_getD_getElem?, Array.getElem?_setIfInBounds_ne (Ne.symm hj), ← Array.getD_eq_getD_getElem?]
    have hself : (L.setIfInBounds i true).getD i false = true := by
      rw [Array.getD_eq_getD_getElem?, Array.getElem?_setIfInBounds_self_of_lt (by omega)]
      rfl
    have hcl' : ∀ j o, l[j]? = some o → (L.setIfInBounds i true).getD j false = true → ∀ e ∈ o.after, Region.binds .any e = true → (L.setIfInBounds i true).getD e.on false = true := by
      intro j o2 hj hl e he hb
      by_cases hei : e.on = i
      · rw [hei]; exact hself
      · rw [hget _ hei]
        by_cases hji : j = i
        · subst hji
          rw [ho'] at hj
          injection hj with hj
          subst hj
          exact hd e he hb
        · rw [hget _ hji] at hl
          exact hcl j o2 hj hl e he hb
    -- an operation of the tail waits for all ahead of it
    have hback : ∀ k, k ≤ i → m ≤ i - k → m < i → L.getD m false = true := by
      have : ∀ k j, j + k = i → m ≤ j → j < i → L.getD j false = true := by
        intro k
        induction k with
        | zero => intro j h1 h2 h3; omega
        | succ k ih =>
          intro j h1 h2 h3
          by_cases hj1 : j + 1 = i
          · obtain ⟨o2, q1, e, q2, q3, q4⟩ := forced_at hfo (by omega) hil
            rw [ho'] at q1
            injection q1 with q1
            subst q1
            have := hd e q2 q4
            rw [q3, show i - 1 = j by omega] at this
            exact this
          · obtain ⟨o2, q1, e, q2, q3, q4⟩ := forced_at hfo (j := j + 1) (by omega) (by omega)
            have := hcl (j + 1) o2 q1 (ih (j + 1) (by omega) (by omega) (by omega)) e q2 q4
            rw [q3, show j + 1 - 1 = j by omega] at this
            exact this
      intro k h1 h2 h3
      exact this (i - m) m (by omega) (Nat.le_refl _) h3
    rcases hI with ⟨hmf, f, rfl, hb, ht⟩ | ⟨k, h1, h2, h3, h4, h5⟩
    · rcases Nat.lt_or_ge i m with him | him
      · -- one of the first
        have hti : (l.take m)[i]? = some o := by rw [List.getElem?_take, if_pos him]; exact ho'
        have hp := stepAll_at hput hti
        rw [Nat.zero_add] at hp
        have hst := stepAll_at hstep hti
        rw [Nat.zero_add] at hst
        have := hst f w hb (depAll_of fun e he hbd => by
          have he' : e ∈ o.after := by simpa using he
          have := lexAll_at hlex ho' e he' hbd
          exact ht e.on (by omega) (hd e he' hbd))
        refine wpOp_mono ?_ (wpOp_one ho this)
        rintro a' w' ⟨v, rfl, hbw, hv⟩
        refine ⟨hsz', hcl', .inl ⟨by rw [hget _ (by omega)]; exact hmf, _, hp f v, hb.trans (hbw.mono hb.size), fun j hj hL => ?_⟩⟩
        by_cases hji : j = i
        · rw [if_pos hji, hji]; exact hv
        · rw [if_neg hji]
          rw [hget _ hji] at hL
          exact Sp.below (ht j hj hL) hbw
      · rcases Nat.lt_or_ge m i with hlt | hge
        · rw [hback 0 (by omega) (by omega) hlt] at hmf
          cases hmf
        · obtain rfl : i = m := by omega
          have hallf : ∀ j, j < i → L.getD j false = true := by
            have hdown : ∀ k j, i - j ≤ k → j < i → L.getD j false = true := by
              intro k
              induction k with
              | zero => intro j h1 h2; omega
              | succ k ih =>
                intro j h1 h2
                obtain ⟨k', o2, q1, q2, q3, e, q4, q5, q6⟩ := chained_at hch h2
                rcases Nat.lt_or_ge k' i with hlt | hge2
                · have := hcl k' o2 q3 (ih k' (by omega) hlt) e q4 q6
                  rw [q5] at this
                  exact this
                · obtain rfl : k' = i := by omega
                  rw [ho'] at q3
                  injection q3 with q3
                  subst q3
                  have := hd e q4 q6
                  rw [q5] at this
                  exact this
            exact fun j hj => hdown i j (by omega) hj
          have hnone : ∀ j, i < j → L.getD j false = false := fun j hj => by
            cases hq : L.getD j false with
            | false => rfl
            | true =>
              exfalso
              have : ∀ d j, j = i + 1 + d → L.getD j false = true → False := by
                intro d
                induction d with
                | zero =>
                  intro j hj hq
                  have hjl : j < l.length := by
                    rcases Nat.lt_or_ge j l.length with h | h
                    · exact h
                    · rw [Array.getD_eq_getD_getElem?, Array.getElem?_eq_none (by omega)] at hq; cases hq
                  obtain ⟨o2, q1, e, q2, q3, q4⟩ := forced_at hfo (j := j) (by omega) hjl
                  have := hcl j o2 q1 hq e q2 q4
                  rw [q3, show j - 1 = i by omega, hnl'] at this
                  cases this
                | succ d ih =>
                  intro j hj hq
                  have hjl : j < l.length := by
                    rcases Nat.lt_or_ge j l.length with h | h
                    · exact h
                    · rw [Array.getD_eq_getD_getElem?, Array.getElem?_eq_none (by omega)] at hq; cases hq
                  obtain ⟨o2, q1, e, q2, q3, q4⟩ := forced_at hfo (j := j) (by omega) hjl
                  have := hcl j o2 q1 hq e q2 q4
                  rw [q3] at this
                  exact ih (j - 1) (by omega) this
              exact this (j - (i + 1)) j (by omega) hq
          have htl := htail f w hb (fun j hj => ht j hj (hallf j hj))
          rw [drop_head ho'] at htl
          refine wpOp_mono ?_ (wpOp_of_list ho htl)
          intro a' w' h
          refine ⟨hsz', hcl', .inr ⟨i + 1, by omega, by omega, fun j hj => ?_, fun j hj => ?_, h⟩⟩
          · by_cases hji : j = i
            · rw [hji]; exact hself
            · rw [hget _ hji]; exact hallf j (by omega)
          · rw [hget _ (by omega)]
            exact hnone j (by omega)
    · have hik : i = k := by
        rcases Nat.lt_or_ge i k with h | h
        · rw [h3 i h] at hnl'
          cases hnl'
        · rcases Nat.lt_or_ge k i with h' | h'
          · obtain ⟨o2, q1, e, q2, q3, q4⟩ := forced_at hfo (j := i) (by omega) hil
            rw [ho'] at q1
            injection q1 with q1
            subst q1
            have := hd e q2 q4
            rw [q3, h4 (i - 1) (by omega)] at this
            cases this
          · omega
      subst hik
      rw [drop_head ho'] at h5
      refine wpOp_mono ?_ (wpOp_of_list ho h5)
      intro a' w' h
      refine ⟨hsz', hcl', .inr ⟨i + 1, by omega, by omega, fun j hj => ?_, fun j hj => ?_, h⟩⟩
      · by_cases hji : j = i
        · rw [hji]; exact hself
        · rw [hget _ hji]; exact h3 j (by omega)
      · rw [hget _ (by omega)]
        exact h4 j (by omega)
  · simp
  · have hz : ∀ j, (Array.replicate l.toArray.size false).getD j false = false := fun j => by
      rw [Array.getD_eq_getD_getElem?, Array.getElem?_replicate]
      split <;> rfl
    refine ⟨by simp, fun i o _ hL => ?_, .inl ⟨hz m, f0, h0.symm, ⟨rfl, rfl, rfl, Nat.le_refl _, fun _ _ => rfl⟩, fun i _ hL => ?_⟩⟩
    all_goals
      rw [hz] at hL
      cases hL
end Go.Proofs.YtkckncggiicciaaDoor
/-
  ReportPairs: the walk of Last.
-/
namespace Go.Proofs.YtkckncggiicciaaDoor
open Go.RowKit
set_option maxRecDepth 100000
theorem size4r : (Tryd.prog.info? 81).map (·.size) = some 4 := by kernel_rfl
theorem reply_one (n k : Int) (x : Nat) (s : ByteArray) : (#[.int .i64 n, .int .i64 k, .float .f64 x, .string s] : Array Value).all (·.oneCell') = true := by simp [Value.oneCell']
theorem results_rep {fn : Func} {c t : Nat} (h : fn.results = #[.tmp t, .cell c 81]) (tmps : Array Value) (w : World) (g : Nat) (n k : Int) (x : Nat) (s : ByteArray) (u : Value)
    (hp : tmps.getD c undef = .pointer (some ⟨g, 0, none⟩)) (h5 : tmps.getD t undef = u) (hg : w.heap[g]? = some (.cells #[.int .i64 n, .int .i64 k, .float .f64 x, .string s] 81 (0, 0))) :
    (results fn tmps).run Tryd.prog w = .ok (.tuple #[u, .agg #[.int .i64 n, .int .i64 k, .float .f64 x, .string s]]) w := by
  have hl := run_loadVar_row (P := Tryd.prog) w g 81 81 #[.int .i64 n, .int .i64 k, .float .f64 x, .string s] (0, 0) _ hg Tryd.underlying81 rfl size4r
  have hp' : tmps[c]?.getD undef = .pointer (some ⟨g, 0, none⟩) := by simpa using hp
  have h5' : tmps[t]?.getD undef = u := by simpa using h5
  simp [results, h, hp', h5', asAddr, hl]
def LastPostM (w : World) (e : Ending) (w' : World) : Prop := (∃ (n code : Int) (v : Va), e = .returned (.tuple #[.int .i64 n, .agg #[.int .i64 code, .int .i64 v.k, .float .f64 v.x, .string v.s]]) ∧ VaS v) ∧ Below w.heap.size w w'
set_option maxHeartbeats 6400000 in
theorem LastM_any (A : Option Addr) (n c : Nat) (B : Option Addr) (k d : Nat) (client : Int) (ss : List Se) (w : World) (hz : SeRows w w.heap.size B k d ss) (hsl : ss.length = k) (hso : ∀ s ∈ ss, s.Ok) :
    Calls Tryd.prog 76 #[.agg #[.slice A n c, .slice B k d], .int .i64 client] w (LastPostM w) := by
  have hkd : k ≤ d := hz.2.1
  have hdm : d ≤ maxLen := hz.2.2.1
  unfold maxLen at hdm
  obtain ⟨W2, hW2⟩ : ∃ W2, (w.alloc (.cells #[.slice A n c, .slice B k d] 44)).alloc (.cells #[.int .i64 0, .int .i64 0, .float .f64 0, .string ⟨#[]⟩] 81) = W2 := ⟨_, rfl⟩
  have hob : Below w.heap.size w W2 := by rw [← hW2]; exact two_below _ _ _
  have hz2 : W2.heap.size = w.heap.size + 2 := by rw [← hW2]; simp
  have hr0 : W2.heap[w.heap.size]? = some (.cells #[.slice A n c, .slice B k d] 44 (0, 0)) := by
    rw [← hW2, Below.heap_alloc _ _ _ (by simp)]
    exact heap_alloc_new w _
  have hr1 : W2.heap[w.heap.size + 1]? = some (.cells #[.int .i64 0, .int .i64 0, .float .f64 0, .string ⟨#[]⟩] 81 (0, 0)) := by
    rw [← hW2]
    exact heap_alloc2_new w _ _
  have Hc : Hid (∀ w', Below W2.heap.size W2 w' → w'.cell? ⟨w.heap.size, 1, none⟩ = some (.slice B k d) ∧ w'.heap[w.heap.size + 1]? = some (.cells #[.int .i64 0, .int .i64 0, .float .f64 0, .string ⟨#[]⟩] 81 (0, 0))) := fun w' hb => by
    have q := (hb.block w.heap.size (by omega)).trans hr0
    exact ⟨cell_of_row _ _ _ _ _ _ q, (hb.block _ (by omega)).trans hr1⟩
  have HE : Hid (∀ i, i < k → ∃ b off, ∃ s : Se, B = some ⟨b, off, none⟩ ∧ b < w.heap.size ∧ s.Ok ∧ w.rangeAt b (off + i * 6) s.cells) := fun i hi => by
    obtain ⟨b, off, s, q1, q2, q3, q4, q5⟩ := se_row hz hsl hi
    exact ⟨b, off, s, q1, q2, hso s q4, q5⟩
  have HQ : Hid (∀ (n code : Int) (v : Va) w', VaS v → Below w.heap.size w w' → LastPostM w (.returned (.tuple #[.int .i64 n, .agg #[.int .i64 code, .int .i64 v.k, .float .f64 v.x, .string v.s]])) w') := fun n code v w' hv hb => ⟨⟨n, code, v, rfl, hv⟩, hb⟩
  have Hup : Hid (∀ w', Below W2.heap.size W2 w' → Below w.heap.size w w') := fun w' hb => hob.trans (hb.mono (by omega))
  obtain ⟨J, hJ⟩ : ∃ J, LastPostM w = J := ⟨_, rfl⟩
  rw [hJ] at HQ ⊢
  have HW2 := Lib.hid hW2
  have hbc : Below W2.heap.size W2 W2 := Below.refl _ _
  clear hW2 hJ hz hsl hso hr0 hr1 hob hz2
  go_enter Tryd.func76, Tryd.ntmps76
  go_wp2_with fail
  rw [HW2.out]
  go_loopg [4, 6] k (fun g s4 s6 wr => ∃ i : Nat, i + g = k ∧ s6 = .int .i64 i ∧ Below W2.heap.size W2 wr)
  case atStart => exact ⟨0, by omega, rfl, hbc⟩
  case round =>
    clear hbc
    obtain ⟨i, hig, rfl, hbr⟩ := hrel
    have Hig := Lib.hid hig
    have hin : i ≤ k := by omega
    obtain ⟨y1, yr⟩ := Hc.out _ hbr
    have Yr := Lib.hid yr
    have hbw := Hup.out _ hbr
    clear hig yr
    by_cases hlt : i < k
    · obtain ⟨b, off, s, rfl, hb, hsk, hrg⟩ := HE.out i hlt
      have hrg' := range_below hrg hbw hb
      have x0 := hrg' 0 _ rfl
      rw [Nat.add_zero] at x0
      have x1 := hrg' 1 _ rfl
      have X2 : Hid (wr.rangeAt b (off + i * 6 + 2) [.int .i64 s.code, .int .i64 s.v.k, .float .f64 s.v.x, .string s.v.s]) := fun j v hj => by
        have hj4 : j < 4 := (List.getElem?_eq_some_iff.1 hj).1
        rw [Nat.add_assoc, Nat.add_comm 2 j]
        refine hrg' (j + 2) v ?_
        rw [← hj]
        match j, hj4 with
        | 0, _ | 1, _ | 2, _ | 3, _ => rfl
      have Hv : Hid (VaS s.v) := ⟨hsk.num, hsk.txt⟩
      have HX : Hid (∀ w', Below wr.heap.size wr w' → w'.cell? ⟨w.heap.size, 1, none⟩ = some (.slice (some ⟨b, off, none⟩) k d) ∧ w'.cell? ⟨b, off + i * 6 + 1, none⟩ = some (.int .i64 s.sq) ∧ w'.rangeAt b (off + i * 6 + 2) [.int .i64 s.code, .int .i64 s.v.k, .float .f64 s.v.x, .string s.v.s]) := fun w' hb' => by
        refine ⟨(Hc.out _ (bstep hbr hb')).1, ?_, range_below X2.out hb' (Nat.lt_of_lt_of_le hb hbw.size)⟩
        rw [hb'.cell (p := ⟨b, off + i * 6 + 1, none⟩) (Nat.lt_of_lt_of_le hb hbw.size)]
        exact x1
      have i0 : (0 : Int) ≤ (i : Int) := by omega
      have i1 : (i : Int) < (k : Int) := by omega
      have hcc : (s.cl == client) = decide (s.cl = client) := by rw [Bool.eq_iff_iff]; simp
      obtain ⟨cl, sq, code, ⟨vk, vx, vs⟩⟩ := s
      dsimp only at *
      clear hrg hrg' hsk HE
      rcases Decidable.em (cl = client) with hq | hq
      · rw [decide_eq_true hq] at hcc
        clear hq
        go_wp2_with fail
        with_reducible refine wp_region_tail 13 (by decide) (by kernel_rfl) (by kernel_rfl) (by kernel_rfl) (by kernel_rfl) [.val (.pointer (some ⟨w.heap.size, 1, none⟩)),
      .val (.slice (some ⟨b, off, none⟩) k d),
      .val (.int .i64 (i : Int)),
      .val (.pointer (some ⟨b, off + i * 6, none⟩)),
      .val (.pointer (some ⟨b, off + i * 6 + 1, none⟩)),
      .val (.int .i64 sq),
      .val (.pointer (some ⟨w.heap.size, 1, none⟩)),
      .val (.slice (some ⟨b, off, none⟩) k d),
      .val (.int .i64 (i : Int)),
      .val (.pointer (some ⟨b, off + i * 6, none⟩)),
      .val (.pointer (some ⟨b, off + i * 6 + 2, none⟩)),
      .val (.agg #[.int .i64 code, .int .i64 vk, .float .f64 vx, .string vs]),
      .val (.int .i64 sq)] ?mk (fun f => ?hmk) ?f0 ?h0 ?hput ?hstep ?htail
        case hmk =>
          simp only [List.take_succ_cons, List.take_zero, putOps, Act.put, List.setIfInBounds_toArray, List.set_cons_succ, List.set_cons_zero, Nat.zero_add, Nat.reduceAdd]
          rfl
        case f0 => exact fun k => ([u22, u23, u24, u25, u26, u27, u28, u29, u30, u31, u32, u33, u4] : List Value).getD k undef
        case h0 => exact rfl
        case hput =>
          simp only [List.take_succ_cons, List.take_zero]
          repeat (refine ⟨fun f v => rfl, ?_⟩)
          exact trivial
        case hstep =>
          simp only [List.take_succ_cons, List.take_zero]
          refine ⟨fun f w1 hb1 hd => ?_, ?_⟩
          · clear hd
            go_wp2_with fail
            exact ⟨_, by first | rfl | simp only [Act.put, List.setIfInBounds_toArray, List.set_cons_succ, List.set_cons_zero], Below.refl _ _, rfl⟩
          refine ⟨fun f w1 hb1 hd => ?_, ?_⟩
          · obtain ⟨d0, -⟩ := hd
            have q0 : f 0 = .pointer (some ⟨w.heap.size, 1, none⟩) := d0
            clear d0
            obtain ⟨z0, z1, z2⟩ := HX.out w1 hb1
            have Z2 := Lib.hid z2
            clear z2
            go_wp2_with fail
            exact ⟨_, by first | rfl | simp only [q0, Act.put, List.setIfInBounds_toArray, List.set_cons_succ, List.set_cons_zero], Below.refl _ _, rfl⟩
          refine ⟨fun f w1 hb1 hd => ?_, ?_⟩
          · clear hd
            go_wp2_with fail
            exact ⟨_, by first | rfl | simp only [Act.put, List.setIfInBounds_toArray, List.set_cons_succ, List.set_cons_zero], Below.refl _ _, rfl⟩
          refine ⟨fun f w1 hb1 hd => ?_, ?_⟩
          · obtain ⟨d0, d1, -⟩ := hd
            have q1 : f 1 = .slice (some ⟨b, off, none⟩) k d := d0
            have q2 : f 2 = .int .i64 (i : Int) := d1
            clear d0 d1
            go_wp2_with fail
            exact ⟨_, by first | rfl | simp only [q1, q2, Act.put, List.setIfInBounds_toArray, List.set_cons_succ, List.set_cons_zero], Below.refl _ _, rfl⟩
          refine ⟨fun f w1 hb1 hd => ?_, ?_⟩
          · obtain ⟨d0, -⟩ := hd
            have q3 : f 3 = .pointer (some ⟨b, off + i * 6, none⟩) := d0
            clear d0
            go_wp2_with fail
            exact ⟨_, by first | rfl | simp only [q3, Act.put, List.setIfInBounds_toArray, List.set_cons_succ, List.set_cons_zero], Below.refl _ _, rfl⟩
          refine ⟨fun f w1 hb1 hd => ?_, ?_⟩
          · obtain ⟨d0, -⟩ := hd
            have q4 : f 4 = .pointer (some ⟨b, off + i * 6 + 1, none⟩) := d0
            clear d0
            obtain ⟨z0, z1, z2⟩ := HX.out w1 hb1
            have Z2 := Lib.hid z2
            clear z2
            go_wp2_with fail
            exact ⟨_, by first | rfl | simp only [q4, Act.put, List.setIfInBounds_toArray, List.set_cons_succ, List.set_cons_zero], Below.refl _ _, rfl⟩
          refine ⟨fun f w1 hb1 hd => ?_, ?_⟩
          · clear hd
            go_wp2_with fail
            exact ⟨_, by first | rfl | simp only [Act.put, List.setIfInBounds_toArray, List.set_cons_succ, List.set_cons_zero], Below.refl _ _, rfl⟩
          refine ⟨fun f w1 hb1 hd => ?_, ?_⟩
          · obtain ⟨d0, -⟩ := hd
            have q6 : f 6 = .pointer (some ⟨w.heap.size, 1, none⟩) := d0
            clear d0
            obtain ⟨z0, z1, z2⟩ := HX.out w1 hb1
            have Z2 := Lib.hid z2
            clear z2
            go_wp2_with fail
            exact ⟨_, by first | rfl | simp only [q6, Act.put, List.setIfInBounds_toArray, List.set_cons_succ, List.set_cons_zero], Below.refl _ _, rfl⟩
          refine ⟨fun f w1 hb1 hd => ?_, ?_⟩
          · clear hd
            go_wp2_with fail
            exact ⟨_, by first | rfl | simp only [Act.put, List.setIfInBounds_toArray, List.set_cons_succ, List.set_cons_zero], Below.refl _ _, rfl⟩
          refine ⟨fun f w1 hb1 hd => ?_, ?_⟩
          · obtain ⟨d0, d1, -⟩ := hd
            have q7 : f 7 = .slice (some ⟨b, off, none⟩) k d := d0
            have q8 : f 8 = .int .i64 (i : Int) := d1
            clear d0 d1
            go_wp2_with fail
            exact ⟨_, by first | rfl | simp only [q7, q8, Act.put, List.setIfInBounds_toArray, List.set_cons_succ, List.set_cons_zero], Below.refl _ _, rfl⟩
          refine ⟨fun f w1 hb1 hd => ?_, ?_⟩
          · obtain ⟨d0, -⟩ := hd
            have q9 : f 9 = .pointer (some ⟨b, off + i * 6, none⟩) := d0
            clear d0
            go_wp2_with fail
            exact ⟨_, by first | rfl | simp only [q9, Act.put, List.setIfInBounds_toArray, List.set_cons_succ, List.set_cons_zero], Below.refl _ _, rfl⟩
          refine ⟨fun f w1 hb1 hd => ?_, ?_⟩
          · obtain ⟨d0, -⟩ := hd
            have q10 : f 10 = .pointer (some ⟨b, off + i * 6 + 2, none⟩) := d0
            clear d0
            obtain ⟨z0, z1, z2⟩ := HX.out w1 hb1
            have Z2 := Lib.hid z2
            clear z2
            rw [q10]
            go_wp2_with (refine Go.wpList_load_mid rfl 81 (.tmp 32) rfl b (off + i * 6 + 2) rfl [.int .i64 code, .int .i64 vk, .float .f64 vx, .string vs] _ Z2.out Tryd.underlying81 rfl size4r ?_)
            exact ⟨_, by first | rfl | simp only [q10, Act.put, List.setIfInBounds_toArray, List.set_cons_succ, List.set_cons_zero], Below.refl _ _, rfl⟩
          refine ⟨fun f w1 hb1 hd => ?_, ?_⟩
          · obtain ⟨d0, d1, d2, d3, d4, d5, d6, -⟩ := hd
            have q5 : f 5 = .int .i64 sq := d0
            have q0 : f 0 = .pointer (some ⟨w.heap.size, 1, none⟩) := d1
            have q1 : f 1 = .slice (some ⟨b, off, none⟩) k d := d2
            have q2 : f 2 = .int .i64 (i : Int) := d3
            have q3 : f 3 = .pointer (some ⟨b, off + i * 6, none⟩) := d4
            have q4 : f 4 = .pointer (some ⟨b, off + i * 6 + 1, none⟩) := d5
            clear d0 d1 d2 d3 d4 d5 d6
            go_wp2_with fail
            exact ⟨_, by first | rfl | simp only [q0, q1, q2, q3, q4, q5, Act.put, List.setIfInBounds_toArray, List.set_cons_succ, List.set_cons_zero], Below.refl _ _, rfl⟩
          exact trivial
        case htail =>
          intro f w1 hb1 hd
          simp only [List.drop_succ_cons, List.drop_zero]
          have q11 : f 11 = .agg #[.int .i64 code, .int .i64 vk, .float .f64 vx, .string vs] := hd 11 (by decide)
          have q12 : f 12 = .int .i64 sq := hd 12 (by decide)
          clear hd
          have hbn := bstep hbr hb1
          have hbw2 := Hup.out _ hbn
          have Hr := Lib.hid (Hc.out _ hbn).2
          rw [q11, q12]
          go_wp2_with (refine wpList_store_row rfl 81 (.tmp 5) (.tmp 33) rfl (w.heap.size + 1) #[.int .i64 code, .int .i64 vk, .float .f64 vx, .string vs] rfl rfl 81 #[.int .i64 0, .int .i64 0, .float .f64 0, .string ⟨#[]⟩] Hr.out size4r rfl (reply_one _ _ _ _) ?_)
          refine bodyPost_ret (results_rep Tryd.results76 _ _ (w.heap.size + 1) _ _ _ _ _ rfl rfl (setRow_heap _ _ _ _ _ _ Hr.out)) rfl ?_
          exact HQ.out sq code ⟨vk, vx, vs⟩ _ Hv.out (below_setRow hbw2 (by omega) _)
      · rw [decide_eq_false hq] at hcc
        clear hq
        go_wp2_with fail
        go_roundg (gk - 1)
        case rel => exact ⟨i + 1, by have := Hig.out; omega, by go_num, hbr⟩
        case measure => have := Hig.out; omega
    · obtain rfl : i = k := by omega
      clear HE
      go_wp2_with (refine wpList_store_row rfl 81 (.tmp 5) (.tmp 34) rfl (w.heap.size + 1) #[.int .i64 0, .int .i64 0, .float .f64 0, .string ⟨#[]⟩] rfl rfl 81 #[.int .i64 0, .int .i64 0, .float .f64 0, .string ⟨#[]⟩] Yr.out size4r rfl (reply_one _ _ _ _) ?_)
      refine bodyPost_ret (results_rep Tryd.results76 _ _ (w.heap.size + 1) _ _ _ _ _ rfl rfl (setRow_heap _ _ _ _ _ _ Yr.out)) rfl ?_
      exact HQ.out 0 0 ⟨0, 0, ⟨#[]⟩⟩ _ vas_zero (below_setRow hbw (by omega) _)
end Go.Proofs.YtkckncggiicciaaDoor
