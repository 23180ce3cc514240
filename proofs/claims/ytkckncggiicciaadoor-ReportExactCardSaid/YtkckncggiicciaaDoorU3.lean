/-
  Joined texts, part 3: the lemmas and walks that the row stands on.
-/
import Derived.Test.YtkckncggiicciaaDoorU2
import Derived.Test.YtkckncggiicciaaDoorU1
import Derived.WalkSpells
import Derived.WalkLawsBesides
import Derived.BigQuiet
import Derived.Deep.QuietTactic
import Derived.Deep.LoopGhost
import Derived.Deep.MidRow
/-
  The walk of ref25.Pairs; written by genfpx.py.
-/
namespace Go.Proofs.YtkckncggiicciaaDoor
open Go.RowKit
set_option maxRecDepth 100000
theorem size3v : (Tryd.prog.info? 56).map (·.size) = some 3 := by kernel_rfl
theorem pair_app (key : ByteArray) (v : Va) : (((⟨#[107]⟩ ++ ⟨(hexT key.data.toList).toArray⟩) ++ ⟨#[32]⟩) ++ ⟨(valT v).toArray⟩ : ByteArray) = ⟨(pairL (key, v)).toArray⟩ := by
  refine bytes_ext ?_
  simp only [ByteArray.data_append, Array.toList_append]
  unfold pairL wordsL
  rw [Lib.join_cons]
  simp [Lib.joinTail]
theorem fpair_range {w : World} {b o : Nat} {p : ByteArray × Va} (h : w.rangeAt b o (prC p)) : w.cell? ⟨b, o, none⟩ = some (.string p.1) ∧ w.rangeAt b (o + 1) [.int .i64 p.2.k, .float .f64 p.2.x, .string p.2.s] := by
  refine ⟨h 0 _ rfl, fun j u hj => ?_⟩
  have hj3 : j < 3 := (List.getElem?_eq_some_iff.1 hj).1
  have := h (j + 1) u (by
    rw [← hj]
    match j, hj3 with
    | 0, _ | 1, _ | 2, _ => rfl)
  rw [Nat.add_assoc, Nat.add_comm 1 j]
  exact this
theorem wpList_appSA {w : World} {ops : Array Oper} {rest : List Oper} {o : Oper} {a : Act} {Q : Exit → Act → World → Prop} (hgd : o.guard = none) (s x : Operand)
    (ho : o.op = .call { callee := .builtin .append, args := #[s, x], argTypes := #[34, 34] })
    (base : Nat) (v : Value) (l : List (List UInt8)) (hs : a.eval s = v) (hown : OwnS w base v l)
    (B : Nat) (A : Option Addr) (c : Nat) (l' : List UInt8) (hx : a.eval x = .slice A 1 c) (hr : Rd w B 1 A 1 c [sV l'])
    (hlim : l.length ≤ 100000) (hbase : base ≤ w.heap.size)
    (h : ∀ v' w', OwnS w' base v' (l ++ [l']) → w.grownBy w' v.ownBlock → (v'.ownBlock = v.ownBlock ∨ v'.ownBlock = some w.heap.size) → wpList Tryd.prog ops Q rest (a.put o.dst v') w') : wpList Tryd.prog ops Q (o :: rest) a w := by
  obtain ⟨i0, hi, hz0, hz1, hz2⟩ := info_parts info_str
  refine wpList_plain hgd fun _ hK => wp_appAt s x _ ho base 9 i0 _ 1 16 Tryd.underlying34 hi hz0 hz1 hz2 rfl (by omega) v l.length (l.map sV) hs hown B _ 1 c [sV l'] hx hr (one_one rfl) (by simp only [maxLen]; omega) (by omega) hbase ?_
  intro v' w' h1 h2 _ h4
  refine hK _ _ (h v' w' ?_ h2 h4)
  unfold OwnS
  rw [List.length_append, List.map_append]
  exact h1
set_option maxHeartbeats 12800000 in
theorem RfPairs_any (A : Option Addr) (n c : Nat) (S : Option Addr) (sn sc : Nat) (ps : List (ByteArray × Va)) (w : World) (hy : PrRows w w.heap.size A n c ps) (hl : ps.length = n) (hn : n ≤ 10000) (hok : ∀ p ∈ ps, PrOk p) (hT : TzAt w) :
    Calls Tryd.prog 22 #[.agg #[.slice A n c, .slice S sn sc]] w (RPairsPost ps w) := by
  have hcap : n ≤ c := hy.2.1
  obtain ⟨W1, hW1⟩ : ∃ W1, w.alloc (.cells #[.slice A n c, .slice S sn sc] 44) = W1 := ⟨_, rfl⟩
  have hb1 : Below w.heap.size w W1 := by rw [← hW1]; exact alloc_below w _
  have hz1 : W1.heap.size = w.heap.size + 1 := by rw [← hW1]; simp
  have hrow : W1.heap[w.heap.size]? = some (.cells #[.slice A n c, .slice S sn sc] 44 (0, 0)) := by rw [← hW1]; exact heap_alloc_new w _
  have Hc : Hid (∀ w', Below W1.heap.size W1 w' → w'.cell? ⟨w.heap.size, 0, none⟩ = some (.slice A n c)) := fun w' hb => by
    have q := (hb.block w.heap.size (by omega)).trans hrow
    exact cell_of_row _ _ _ _ _ _ q
  have HP : Hid (∀ w' v, OwnS w' w.heap.size v (linesP ps n) → Below w.heap.size w w' → RPairsPost ps w (.returned v) w') := fun w' v ho hb => by
    unfold RPairsPost
    rw [hl]
    exact ⟨⟨v, rfl, ho⟩, hb⟩
  have HE : Hid (∀ i, i < n → ∃ b off p, A = some ⟨b, off, none⟩ ∧ b < w.heap.size ∧ ps.getD i p0 = p ∧ PrOk p ∧ w.rangeAt b (off + i * 4) (prC p)) := fun i hi => by
    obtain ⟨b, off, p, q1, q2, q3, q4, q5⟩ := pr_row hy hl hi
    exact ⟨b, off, p, q1, q2, q3, hok p q4, q5⟩
  obtain ⟨J, hJ⟩ : ∃ J, RPairsPost ps w = J := ⟨_, rfl⟩
  rw [hJ] at HP ⊢
  have HT := Lib.hid hT
  have HW1 := Lib.hid hW1
  have Hz1 := Lib.hid hz1
  clear hW1 hJ hT hy hl hok hrow hz1
  go_enter Tryd.func22, Tryd.ntmps22
  go_wp2_with fail
  rw [HW1.out]
  go_loopg [3, 4] n (fun g s3 s4 wr => ∃ i : Nat, i + g = n ∧ s4 = .int .i64 i ∧ OwnS wr W1.heap.size s3 (linesP ps i) ∧ Below W1.heap.size W1 wr)
  case atStart => exact ⟨0, by omega, rfl, ownS_nil _ _, Below.refl _ _⟩
  case round =>
    obtain ⟨i, hig, rfl, ho, hbr⟩ := hrel
    have Hig := Lib.hid hig
    have Ho := Lib.hid ho
    have hin : i ≤ n := by omega
    have y0 := Hc.out _ hbr
    clear hig ho
    by_cases hlt : i < n
    · obtain ⟨b, off, p, rfl, hb, hge, hpk, hrg⟩ := HE.out i hlt
      have HC : Hid (∀ w', Below wr.heap.size wr w' → w'.cell? ⟨w.heap.size, 0, none⟩ = some (.slice (some ⟨b, off, none⟩) n c) ∧ w'.cell? ⟨b, off + i * 4, none⟩ = some (.string p.1) ∧ w'.rangeAt b (off + i * 4 + 1) [.int .i64 p.2.k, .float .f64 p.2.x, .string p.2.s]) := fun w' hb' => by
        have hbw := bstep hbr hb'
        exact ⟨Hc.out _ hbw, fpair_range (range_below hrg (hb1.trans (hbw.mono (by have := Hz1.out; omega))) hb)⟩
      have Hls : Hid (linesP ps (i + 1) = linesP ps i ++ [pairL p]) := by
        unfold Hid
        rw [linesP_succ, hge]
      have hpl := pairL_len (p := p) hpk.key
      obtain ⟨key, ⟨vk, vx, vs⟩⟩ := p
      dsimp only at HC
      have hk2 : key.size ≤ 2000 := hpk.key
      have hHx : Hid (∀ w', Calls Tryd.prog 48 #[.string key] w' fun e w'' => e = .returned (.string ⟨(hexT key.data.toList).toArray⟩) ∧ Below w'.heap.size w' w'') := fun w' => RHex_any key w' hk2
      have hVl : Hid (∀ w', Below wr.heap.size wr w' → Calls Tryd.prog 49 #[.agg #[.int .i64 vk, .float .f64 vx, .string vs]] w' fun e w'' => e = .returned (.string ⟨(valT ⟨vk, vx, vs⟩).toArray⟩) ∧ Below w'.heap.size w' w'') := fun w' h =>
        valued_any ⟨vk, vx, vs⟩ w' hpk.num hpk.txt (HT.out.below (hb1.trans ((bstep hbr h).mono (by have := Hz1.out; omega))))
      have Hap : Hid (((⟨#[107]⟩ ++ ⟨(hexT key.data.toList).toArray⟩) ++ ⟨#[32]⟩) ++ ⟨(valT ⟨vk, vx, vs⟩).toArray⟩ = (⟨(pairL (key, ⟨vk, vx, vs⟩)).toArray⟩ : ByteArray)) := pair_app _ _
      have hkz : (⟨(hexT key.data.toList).toArray⟩ : ByteArray).size ≤ 4000 := by
        show (hexT key.data.toList).toArray.size ≤ 4000
        rw [List.size_toArray, hexT_len]
        have : key.data.toList.length = key.size := Array.length_toList
        omega
      have hvz : (⟨(valT ⟨vk, vx, vs⟩).toArray⟩ : ByteArray).size ≤ 100 := by
        show (valT ⟨vk, vx, vs⟩).toArray.size ≤ 100
        rw [List.size_toArray]
        exact valT_len _
      obtain ⟨KB, hKB⟩ : ∃ KB, (⟨(hexT key.data.toList).toArray⟩ : ByteArray) = KB := ⟨_, rfl⟩
      obtain ⟨VB, hVB⟩ : ∃ VB, (⟨(valT ⟨vk, vx, vs⟩).toArray⟩ : ByteArray) = VB := ⟨_, rfl⟩
      obtain ⟨pl, hpl2⟩ : ∃ pl, pairL (key, ⟨vk, vx, vs⟩) = pl := ⟨_, rfl⟩
      rw [hKB] at hHx Hap hkz
      rw [hVB] at hVl Hap hvz
      rw [hpl2] at Hap Hls
      have m1 : ¬ 9223372036854775807 < 1 + KB.size := by omega
      have m2 : ¬ 9223372036854775807 < 1 + KB.size + 1 := by omega
      have m3 : ¬ 9223372036854775807 < 1 + KB.size + 1 + VB.size := by omega
      have i0 : (0 : Int) ≤ (i : Int) := by omega
      have i1 : (i : Int) < (n : Int) := by omega
      have hll : (linesP ps i).length ≤ 100000 := by rw [linesP_len]; omega
      have Hll := Lib.hid hll
      clear hrg hge hpl hpk hKB hVB hpl2 hll HE
      go_wp2_with fail
      with_reducible refine wp_region_app 19 rfl (by kernel_rfl) (by kernel_rfl) (by kernel_rfl) (by kernel_rfl) [.val (u3),
      .val (.pointer (some ⟨w.heap.size, 0, none⟩)),
      .val (.slice (some ⟨b, off, none⟩) n c),
      .val (.int .i64 (i : Int)),
      .val (.pointer (some ⟨b, off + i * 4, none⟩)),
      .val (.pointer (some ⟨b, off + i * 4, none⟩)),
      .val (.string key),
      .val (.string KB),
      .val (.string (⟨#[107]⟩ ++ KB)),
      .val (.string ((⟨#[107]⟩ ++ KB) ++ ⟨#[32]⟩)),
      .val (.pointer (some ⟨w.heap.size, 0, none⟩)),
      .val (.slice (some ⟨b, off, none⟩) n c),
      .val (.int .i64 (i : Int)),
      .val (.pointer (some ⟨b, off + i * 4, none⟩)),
      .val (.pointer (some ⟨b, off + i * 4 + 1, none⟩)),
      .val (.agg #[.int .i64 vk, .float .f64 vx, .string vs]),
      .val (.string VB),
      .val (.string (((⟨#[107]⟩ ++ KB) ++ ⟨#[32]⟩) ++ VB)),
      .rd (1) ([.string (((⟨#[107]⟩ ++ KB) ++ ⟨#[32]⟩) ++ VB)])] (fun v w => OwnS w W1.heap.size v (linesP ps (i + 1)) ∧ Below W1.heap.size W1 w) ?mk (fun f => ?hmk) ?f0 ?h0 ?hput ?hstep ?happ ?hasg ?hend
      case hmk =>
        simp only [putOps, Act.put, List.setIfInBounds_toArray, List.set_cons_succ, List.set_cons_zero, Nat.zero_add, Nat.reduceAdd]
        rfl
      case f0 => exact fun k => ([u12, u13, u14, u15, u16, u17, u18, u19, u20, u21, u22, u23, u24, u25, u26, u27, u28, u29, u30, u31, u3] : List Value).getD k undef
      case h0 => exact rfl
      case hput =>
        repeat (refine ⟨fun f v => rfl, ?_⟩)
        exact trivial
      case hstep =>
        refine ⟨fun _ f w1 hb1 hu hd => ?_, ?_⟩
        · have qu : f 20 = u3 := hu
          clear hu
          clear hd
          go_wp2_with fail
          exact ⟨_, by first | rfl | simp only [qu, Act.put, List.setIfInBounds_toArray, List.set_cons_succ, List.set_cons_zero], Below.refl _ _, rfl⟩
        refine ⟨fun _ f w1 hb1 hu hd => ?_, ?_⟩
        · have qu : f 20 = u3 := hu
          clear hu
          clear hd
          go_wp2_with fail
          exact ⟨_, by first | rfl | simp only [qu, Act.put, List.setIfInBounds_toArray, List.set_cons_succ, List.set_cons_zero], Below.refl _ _, rfl⟩
        refine ⟨fun _ f w1 hb1 hu hd => ?_, ?_⟩
        · have qu : f 20 = u3 := hu
          clear hu
          obtain ⟨d0, -⟩ := hd
          have q1 : f 1 = .pointer (some ⟨w.heap.size, 0, none⟩) := d0
          clear d0
          obtain ⟨y1, y2, y3⟩ := HC.out w1 hb1
          have Y3 := Lib.hid y3
          clear y3
          go_wp2_with fail
          exact ⟨_, by first | rfl | simp only [qu, q1, Act.put, List.setIfInBounds_toArray, List.set_cons_succ, List.set_cons_zero], Below.refl _ _, rfl⟩
        refine ⟨fun _ f w1 hb1 hu hd => ?_, ?_⟩
        · have qu : f 20 = u3 := hu
          clear hu
          clear hd
          go_wp2_with fail
          exact ⟨_, by first | rfl | simp only [qu, Act.put, List.setIfInBounds_toArray, List.set_cons_succ, List.set_cons_zero], Below.refl _ _, rfl⟩
        refine ⟨fun _ f w1 hb1 hu hd => ?_, ?_⟩
        · have qu : f 20 = u3 := hu
          clear hu
          obtain ⟨d0, d1, -⟩ := hd
          have q2 : f 2 = .slice (some ⟨b, off, none⟩) n c := d0
          have q3 : f 3 = .int .i64 (i : Int) := d1
          clear d0 d1
          go_wp2_with fail
          exact ⟨_, by first | rfl | simp only [qu, q2, q3, Act.put, List.setIfInBounds_toArray, List.set_cons_succ, List.set_cons_zero], Below.refl _ _, rfl⟩
        refine ⟨fun _ f w1 hb1 hu hd => ?_, ?_⟩
        · have qu : f 20 = u3 := hu
          clear hu
          obtain ⟨d0, -⟩ := hd
          have q4 : f 4 = .pointer (some ⟨b, off + i * 4, none⟩) := d0
          clear d0
          go_wp2_with fail
          exact ⟨_, by first | rfl | simp only [qu, q4, Act.put, List.setIfInBounds_toArray, List.set_cons_succ, List.set_cons_zero], Below.refl _ _, rfl⟩
        refine ⟨fun _ f w1 hb1 hu hd => ?_, ?_⟩
        · have qu : f 20 = u3 := hu
          clear hu
          obtain ⟨d0, -⟩ := hd
          have q5 : f 5 = .pointer (some ⟨b, off + i * 4, none⟩) := d0
          clear d0
          obtain ⟨y1, y2, y3⟩ := HC.out w1 hb1
          have Y3 := Lib.hid y3
          clear y3
          go_wp2_with fail
          exact ⟨_, by first | rfl | simp only [qu, q5, Act.put, List.setIfInBounds_toArray, List.set_cons_succ, List.set_cons_zero], Below.refl _ _, rfl⟩
        refine ⟨fun _ f w1 hb1 hu hd => ?_, ?_⟩
        · have qu : f 20 = u3 := hu
          clear hu
          obtain ⟨d0, -⟩ := hd
          have q6 : f 6 = .string key := d0
          clear d0
          go_wp2_with (with_reducible refine (hHx.out _).mono ?_; rintro e w2 ⟨rfl, hb2⟩)
          exact ⟨_, by first | rfl | simp only [qu, q6, Act.put, List.setIfInBounds_toArray, List.set_cons_succ, List.set_cons_zero], hb2, rfl⟩
        refine ⟨fun _ f w1 hb1 hu hd => ?_, ?_⟩
        · have qu : f 20 = u3 := hu
          clear hu
          obtain ⟨d0, -⟩ := hd
          have q7 : f 7 = .string KB := d0
          clear d0
          go_wp2_with fail
          exact ⟨_, by first | rfl | simp only [qu, q7, Act.put, List.setIfInBounds_toArray, List.set_cons_succ, List.set_cons_zero], Below.refl _ _, rfl⟩
        refine ⟨fun _ f w1 hb1 hu hd => ?_, ?_⟩
        · have qu : f 20 = u3 := hu
          clear hu
          obtain ⟨d0, -⟩ := hd
          have q8 : f 8 = .string (⟨#[107]⟩ ++ KB) := d0
          clear d0
          go_wp2_with fail
          exact ⟨_, by first | rfl | simp only [qu, q8, Act.put, List.setIfInBounds_toArray, List.set_cons_succ, List.set_cons_zero], Below.refl _ _, rfl⟩
        refine ⟨fun _ f w1 hb1 hu hd => ?_, ?_⟩
        · have qu : f 20 = u3 := hu
          clear hu
          clear hd
          go_wp2_with fail
          exact ⟨_, by first | rfl | simp only [qu, Act.put, List.setIfInBounds_toArray, List.set_cons_succ, List.set_cons_zero], Below.refl _ _, rfl⟩
        refine ⟨fun _ f w1 hb1 hu hd => ?_, ?_⟩
        · have qu : f 20 = u3 := hu
          clear hu
          obtain ⟨d0, -⟩ := hd
          have q10 : f 10 = .pointer (some ⟨w.heap.size, 0, none⟩) := d0
          clear d0
          obtain ⟨y1, y2, y3⟩ := HC.out w1 hb1
          have Y3 := Lib.hid y3
          clear y3
          go_wp2_with fail
          exact ⟨_, by first | rfl | simp only [qu, q10, Act.put, List.setIfInBounds_toArray, List.set_cons_succ, List.set_cons_zero], Below.refl _ _, rfl⟩
        refine ⟨fun _ f w1 hb1 hu hd => ?_, ?_⟩
        · have qu : f 20 = u3 := hu
          clear hu
          clear hd
          go_wp2_with fail
          exact ⟨_, by first | rfl | simp only [qu, Act.put, List.setIfInBounds_toArray, List.set_cons_succ, List.set_cons_zero], Below.refl _ _, rfl⟩
        refine ⟨fun _ f w1 hb1 hu hd => ?_, ?_⟩
        · have qu : f 20 = u3 := hu
          clear hu
          obtain ⟨d0, d1, -⟩ := hd
          have q11 : f 11 = .slice (some ⟨b, off, none⟩) n c := d0
          have q12 : f 12 = .int .i64 (i : Int) := d1
          clear d0 d1
          go_wp2_with fail
          exact ⟨_, by first | rfl | simp only [qu, q11, q12, Act.put, List.setIfInBounds_toArray, List.set_cons_succ, List.set_cons_zero], Below.refl _ _, rfl⟩
        refine ⟨fun _ f w1 hb1 hu hd => ?_, ?_⟩
        · have qu : f 20 = u3 := hu
          clear hu
          obtain ⟨d0, -⟩ := hd
          have q13 : f 13 = .pointer (some ⟨b, off + i * 4, none⟩) := d0
          clear d0
          go_wp2_with fail
          exact ⟨_, by first | rfl | simp only [qu, q13, Act.put, List.setIfInBounds_toArray, List.set_cons_succ, List.set_cons_zero], Below.refl _ _, rfl⟩
        refine ⟨fun _ f w1 hb1 hu hd => ?_, ?_⟩
        · have qu : f 20 = u3 := hu
          clear hu
          obtain ⟨d0, -⟩ := hd
          have q14 : f 14 = .pointer (some ⟨b, off + i * 4 + 1, none⟩) := d0
          clear d0
          obtain ⟨y1, y2, y3⟩ := HC.out w1 hb1
          have Y3 := Lib.hid y3
          clear y3
          rw [q14]
          go_wp2_with (refine Go.wpList_load_mid rfl 56 (.tmp 26) rfl b (off + i * 4 + 1) rfl [.int .i64 vk, .float .f64 vx, .string vs] _ Y3.out Tryd.underlying56 rfl size3v ?_)
          exact ⟨_, by first | rfl | simp only [qu, q14, Act.put, List.setIfInBounds_toArray, List.set_cons_succ, List.set_cons_zero], Below.refl _ _, rfl⟩
        refine ⟨fun _ f w1 hb1 hu hd => ?_, ?_⟩
        · have qu : f 20 = u3 := hu
          clear hu
          obtain ⟨d0, d1, -⟩ := hd
          have q15 : f 15 = .agg #[.int .i64 vk, .float .f64 vx, .string vs] := d0
          have q7 : f 7 = .string KB := d1
          clear d0 d1
          have HV := Lib.hid (hVl.out w1 hb1)
          go_wp2_with (with_reducible refine HV.out.mono ?_; rintro e w2 ⟨rfl, hb2⟩)
          exact ⟨_, by first | rfl | simp only [qu, q7, q15, Act.put, List.setIfInBounds_toArray, List.set_cons_succ, List.set_cons_zero], hb2, rfl⟩
        refine ⟨fun _ f w1 hb1 hu hd => ?_, ?_⟩
        · have qu : f 20 = u3 := hu
          clear hu
          obtain ⟨d0, d1, -⟩ := hd
          have q9 : f 9 = .string ((⟨#[107]⟩ ++ KB) ++ ⟨#[32]⟩) := d0
          have q16 : f 16 = .string VB := d1
          clear d0 d1
          go_wp2_with fail
          exact ⟨_, by first | rfl | simp only [qu, q9, q16, Act.put, List.setIfInBounds_toArray, List.set_cons_succ, List.set_cons_zero], Below.refl _ _, rfl⟩
        refine ⟨fun _ f w1 hb1 hu hd => ?_, ?_⟩
        · have qu : f 20 = u3 := hu
          clear hu
          obtain ⟨d0, -⟩ := hd
          have q17 : f 17 = .string (((⟨#[107]⟩ ++ KB) ++ ⟨#[32]⟩) ++ VB) := d0
          clear d0
          go_wp2_with fail
          exact ⟨_, by first | rfl | simp only [qu, q17, Act.put, List.setIfInBounds_toArray, List.set_cons_succ, List.set_cons_zero], alloc_below _ _, sp_lits w1 [.string (((⟨#[107]⟩ ++ KB) ++ ⟨#[32]⟩) ++ VB)] 9 (by simp)⟩
        refine ⟨fun h => absurd h (by decide), ?_⟩
        refine ⟨fun h => absurd h (by decide), ?_⟩
        exact trivial
      case happ =>
        refine ⟨fun h => absurd h (by decide), ?_⟩
        refine ⟨fun h => absurd h (by decide), ?_⟩
        refine ⟨fun h => absurd h (by decide), ?_⟩
        refine ⟨fun h => absurd h (by decide), ?_⟩
        refine ⟨fun h => absurd h (by decide), ?_⟩
        refine ⟨fun h => absurd h (by decide), ?_⟩
        refine ⟨fun h => absurd h (by decide), ?_⟩
        refine ⟨fun h => absurd h (by decide), ?_⟩
        refine ⟨fun h => absurd h (by decide), ?_⟩
        refine ⟨fun h => absurd h (by decide), ?_⟩
        refine ⟨fun h => absurd h (by decide), ?_⟩
        refine ⟨fun h => absurd h (by decide), ?_⟩
        refine ⟨fun h => absurd h (by decide), ?_⟩
        refine ⟨fun h => absurd h (by decide), ?_⟩
        refine ⟨fun h => absurd h (by decide), ?_⟩
        refine ⟨fun h => absurd h (by decide), ?_⟩
        refine ⟨fun h => absurd h (by decide), ?_⟩
        refine ⟨fun h => absurd h (by decide), ?_⟩
        refine ⟨fun h => absurd h (by decide), ?_⟩
        refine ⟨fun _ f w1 hb1 hu hd => ?_, ?_⟩
        · have qu : f 20 = u3 := hu
          clear hu
          have q0 : f 0 = u3 := hd 0 (by decide)
          obtain ⟨A18, c18, q18, r18⟩ := hd 18 (by decide)
          have hbw := bstep hbr hb1
          have Hbw := Lib.hid hbw
          have Hob : Hid (OwnS w1 W1.heap.size u3 (linesP ps i)) := own_below Ho.out hb1
          have HR : Hid (Rd w1 w1.heap.size 1 A18 1 c18 [sV pl]) := by
            rw [Hap.out] at r18
            exact r18
          clear r18
          rw [q0, q18]
          go_wp2_with (
            (at_builtin
             refine wpList_appSA rfl (.tmp 12) (.tmp 30) rfl W1.heap.size u3 _ rfl Hob.out w1.heap.size A18 c18 _ rfl HR.out Hll.out Hbw.out.size ?_
             intro v4 w4 ho4 hg4 ha4))
          exact ⟨_, by first | rfl | simp only [qu, q0, q18, Act.put, List.setIfInBounds_toArray, List.set_cons_succ, List.set_cons_zero], by rw [Hls.out]; exact ho4, hbw.grown hg4 hbw.size (fun q hq => (World.ownsRow.lt Hob.out q hq).1)⟩
        refine ⟨fun h => absurd h (by decide), ?_⟩
        exact trivial
      case hasg =>
        refine ⟨fun h => absurd h (by decide), ?_⟩
        refine ⟨fun h => absurd h (by decide), ?_⟩
        refine ⟨fun h => absurd h (by decide), ?_⟩
        refine ⟨fun h => absurd h (by decide), ?_⟩
        refine ⟨fun h => absurd h (by decide), ?_⟩
        refine ⟨fun h => absurd h (by decide), ?_⟩
        refine ⟨fun h => absurd h (by decide), ?_⟩
        refine ⟨fun h => absurd h (by decide), ?_⟩
        refine ⟨fun h => absurd h (by decide), ?_⟩
        refine ⟨fun h => absurd h (by decide), ?_⟩
        refine ⟨fun h => absurd h (by decide), ?_⟩
        refine ⟨fun h => absurd h (by decide), ?_⟩
        refine ⟨fun h => absurd h (by decide), ?_⟩
        refine ⟨fun h => absurd h (by decide), ?_⟩
        refine ⟨fun h => absurd h (by decide), ?_⟩
        refine ⟨fun h => absurd h (by decide), ?_⟩
        refine ⟨fun h => absurd h (by decide), ?_⟩
        refine ⟨fun h => absurd h (by decide), ?_⟩
        refine ⟨fun h => absurd h (by decide), ?_⟩
        refine ⟨fun h => absurd h (by decide), ?_⟩
        refine ⟨fun _ f w1 => ?_, ?_⟩
        · go_wp2_with fail
          exact ⟨rfl, rfl⟩
        exact trivial
      case hend =>
        intro f w1 hv he
        have hv1 := hv.1
        have hv2 := hv.2
        have hfe : f 20 = f 19 := he
        obtain ⟨u, hu⟩ : ∃ u, f 19 = u := ⟨_, rfl⟩
        rw [hu] at hv1 hfe
        have Hv1 := Lib.hid hv1
        clear hv hv1 he
        go_wp2_with fail
        go_roundg (gk - 1)
        case rel => exact ⟨i + 1, by have := Hig.out; omega, by go_num, (by rw [hfe]; exact Hv1.out), hv2⟩
        case measure => have := Hig.out; omega
    · obtain rfl : i = n := by omega
      go_wp2_with fail
      exact HP.out _ _ (own_base Ho.out (by have := Hz1.out; omega)) (hb1.trans (hbr.mono (by have := Hz1.out; omega)))
end Go.Proofs.YtkckncggiicciaaDoor
/-
  The walk of ref25.Lags; written by genflags.py.
-/
namespace Go.Proofs.YtkckncggiicciaaDoor
open Go.RowKit
set_option maxRecDepth 100000
theorem line_say (id k : Int) : sayB ⟨#[108, 97, 103]⟩ [id, k] = (⟨(lineL id k).toArray⟩ : ByteArray) := by
  refine bytes_ext ?_
  simp only [sayB, List.foldl_cons, List.foldl_nil, ByteArray.data_append, Array.toList_append]
  unfold lineL wordsL
  rw [Lib.join_cons]
  simp [Lib.joinTail]
/-- The greatest so far: nought ahead of all. -/
def topI (c0 : Int) (l : List Int) : Int := if l = [] then 0 else topL c0 l
set_option maxHeartbeats 12800000 in
theorem RfLags_any (A : Option Addr) (n cap : Nat) (xss : List (List Value)) (ids cs : List Int) (ks : List Nat) (w : World) (hy : Rd w w.heap.size 40 A n cap xss.flatten) (hx : xss.length = n) (hi : ids.length = n) (hc : cs.length = n) (hk : ks.length = n)
    (hok : ∀ (i : Nat) x, xss[i]? = some x → ∃ id c, ids[i]? = some id ∧ cs[i]? = some c ∧ RfOk x id c) (hid : ∀ id ∈ ids, In64 id) (hc64 : ∀ c ∈ cs, In64 c)
    (hks : okC cs = true → ∀ (i : Nat) c, cs[i]? = some c → ∃ k : Nat, ks[i]? = some k ∧ (k : Int) = topL (cs.headD 0) cs - c) (hn : n ≤ 1000) (hI : ItAt w) :
    Calls Tryd.prog 19 #[.slice A n cap] w (LagsPost ids cs ks w) := by
  rcases Nat.eq_zero_or_pos n with h0 | hpos
  · subst h0
    obtain rfl : cs = [] := List.eq_nil_of_length_eq_zero hc
    obtain rfl : ids = [] := List.eq_nil_of_length_eq_zero hi
    obtain rfl : ks = [] := List.eq_nil_of_length_eq_zero hk
    have HP : Hid (∀ w', Below w.heap.size w w' → LagsPost [] [] [] w (.returned (.tuple #[.slice none 0 0, .float .f64 (meanV [])])) w') := fun w' hb => by
      unfold LagsPost
      rw [if_pos (show okC [] = true from rfl)]
      exact ⟨⟨_, rfl, ownS_nil _ _⟩, hb⟩
    have HM : Hid (∀ w, Calls Tryd.prog 45 #[.slice none 0 0] w (Qt w (.float .f64 (meanV [])))) := fun w => RefMean_any none 0 0 0 [] w (Rd.nil _ _ _)
    unfold Qt at HM
    obtain ⟨M, hM⟩ : ∃ M, meanV [] = M := ⟨_, rfl⟩
    obtain ⟨J, hJ⟩ : ∃ J, LagsPost [] [] [] w = J := ⟨_, rfl⟩
    rw [hM] at HM HP
    rw [hJ] at HP ⊢
    clear hy hx hi hc hk hok hid hks hI hc64 hn hM hJ
    go_enter Tryd.func19, Tryd.ntmps19
    go_wp2_with fail
    go_loopg [4, 5] 0 (fun g s4 s5 wr => g = 0 ∧ s5 = .int .i64 0 ∧ s4 = .int .i64 0 ∧ Below w.heap.size w wr)
    case atStart => exact ⟨rfl, rfl, rfl, Below.refl _ _⟩
    case round =>
      obtain ⟨_, rfl, rfl, hbr⟩ := hrel
      go_wp2_with fail
      go_loopg [6, 7, 8] 0 (fun g s6 s7 s8 wr => g = 0 ∧ s8 = .int .i64 0 ∧ s6 = .slice none 0 0 ∧ s7 = .slice none 0 0 ∧ Below w.heap.size w wr)
      case atStart => exact ⟨rfl, rfl, rfl, rfl, hbr⟩
      case round =>
        clear hbr
        obtain ⟨_, rfl, rfl, rfl, hbr⟩ := hrel
        go_wp2_with (refine (HM.out _).mono ?_; rintro e w1 ⟨rfl, k, rfl⟩)
        exact HP.out _ (below_drewN hbr _)
  obtain ⟨c0, hc0⟩ : ∃ c0, cs.headD 0 = c0 := ⟨_, rfl⟩
  have hcs0 : cs[0]? = some c0 := by
    cases cs with
    | nil => simp at hc; omega
    | cons a r => simp at hc0 ⊢; exact hc0
  rw [hc0] at hks
  have Hc0 := Lib.hid (List.mem_of_getElem? hcs0)
  have hl40 : ∀ x ∈ xss, x.length = 40 := fun x hx' => by
    obtain ⟨i, hi', rfl⟩ := List.mem_iff_getElem.1 hx'
    obtain ⟨id, c, _, _, h⟩ := hok i _ (List.getElem?_eq_getElem hi')
    exact h.len
  -- the k-th replica, in a world that came of this
  have HE : Hid (∀ i, i < n → ∃ b off id c, A = some ⟨b, off, none⟩ ∧ b < w.heap.size ∧ In64 id ∧ In64 c ∧ ids[i]? = some id ∧ cs[i]? = some c ∧ w.cell? ⟨b, off + i * 40, none⟩ = some (.int .i64 id) ∧ w.cell? ⟨b, off + i * 40 + 11, none⟩ = some (.int .i64 c)) := fun i hin => by
    obtain ⟨b, off, x, h1, h2, h3, h4, h5⟩ := rd_row hy hl40 hx hin
    obtain ⟨id, c, q1, q2, q3⟩ := hok i x h3
    have h0 := h5 0 _ q3.id
    rw [Nat.add_zero] at h0
    exact ⟨b, off, id, c, h1, h2, hid id (List.mem_of_getElem? q1), hc64 c (List.mem_of_getElem? q2), q1, q2, h0, h5 11 _ q3.commit⟩
  have HNo : Hid (okC cs = false → ∀ w', Below w.heap.size w w' → LagsPost ids cs ks w (.returned (.tuple #[.slice none 0 0, .float .f64 9221120237041090561])) w') := fun h w' hb => by
    unfold LagsPost
    rw [if_neg (by rw [h]; decide), meanV_nil]
    exact ⟨rfl, hb⟩
  have HYes : Hid (okC cs = true → ∀ w' v, OwnS w' w.heap.size v (linesL ids ks) → Below w.heap.size w w' → LagsPost ids cs ks w (.returned (.tuple #[v, .float .f64 (meanV (ks.map fi))])) w') := fun h w' v ho hb => by
    unfold LagsPost
    rw [if_pos h]
    exact ⟨⟨v, rfl, ho⟩, hb⟩
  obtain ⟨J, hJ⟩ : ∃ J, LagsPost ids cs ks w = J := ⟨_, rfl⟩
  rw [hJ] at HNo HYes ⊢
  have HM : Hid (∀ w, Calls Tryd.prog 44 #[] w fun e w' => e = .returned (.float .f64 9221120237041090561) ∧ w = w') := fun w => RefNaN_any w
  obtain ⟨M, hM⟩ : ∃ M, M = 9221120237041090561 := ⟨_, rfl⟩
  rw [← hM] at HM HNo
  have HI := Lib.hid hI
  have Hks := Lib.hid hks
  have Hlk := Lib.hid hk
  have Hli := Lib.hid hi
  have Hlc := Lib.hid hc
  obtain ⟨b, off, id, c, rfl, hb, _, h64, _, hce, _, _⟩ := HE.out 0 hpos
  obtain rfl : c = c0 := by rw [hcs0] at hce; injection hce with hce; exact hce.symm
  have HSay : Hid (∀ s cs A n c w', Rd w' w'.heap.size 1 A n c (cs.map fun x => .int .i64 x) → (∀ c ∈ cs, In64 c) → n ≤ 100 → s.size ≤ 1000000 → Below w.heap.size w w' → Calls Tryd.prog 37 #[.string s, .slice A n c] w' fun e w'' => e = .returned (.string (sayB s cs)) ∧ Below w'.heap.size w' w'') :=
        fun s cs A n c w' h1 h2 h3 h4 hb => say_any s A n c cs w' h1 h2 h3 h4 (HI.out.below hb)
  have hcap : n ≤ cap := hy.2.1
  have Hcs0 := Lib.hid hcs0
  clear hJ hI hks hk hi hc hce hok hid hx hy hl40 hcs0 hc0 hc64 h64 hM
  go_enter Tryd.func19, Tryd.ntmps19
  go_wp2_with fail
  go_loopg [4, 5] n (fun g s4 s5 wr => ∃ i : Nat, i + g = n ∧ s5 = .int .i64 i ∧ s4 = .int .i64 (topI c (cs.take i)) ∧ okC (cs.take i) = true ∧ Below w.heap.size w wr)
  case atStart => exact ⟨0, by omega, rfl, rfl, rfl, Below.refl _ _⟩
  case round =>
    obtain ⟨i, hig, rfl, rfl, hokc, hbr⟩ := hrel
    have Hig := Lib.hid hig
    have Hokc := Lib.hid hokc
    have hin : i ≤ n := by omega
    clear hig hokc
    by_cases hlt : i < n
    · obtain ⟨b', off', id, ci, he, hb', h64i, h64, hide, hce, y0, y11⟩ := HE.out i hlt
      injection he with he
      injection he with e1 e2 _
      subst e1 e2
      have x11 := (hbr.cell (p := ⟨b, off + i * 40 + 11, none⟩) hb).trans y11
      have Htk : Hid (cs.take (i + 1) = cs.take i ++ [ci]) := by
        unfold Hid
        rw [List.take_add_one, hce]
        rfl
      have Hne : Hid (i ≠ 0 → topI c (cs.take i) = topL c (cs.take i)) := fun h => by
        unfold topI
        rw [if_neg]
        intro h'
        have := congrArg List.length h'
        rw [List.length_take, Hlc.out] at this
        simp at this
        omega
      have Htp : Hid (topI c (cs.take (i + 1)) = if i = 0 then ci else max (topI c (cs.take i)) ci) := by
        unfold Hid
        have h1 : topI c (cs.take (i + 1)) = max (topL c (cs.take i)) ci := by
          unfold topI
          rw [Htk.out, if_neg (by simp), topL_snoc]
        rw [h1]
        by_cases h0 : i = 0
        · rw [if_pos h0]
          subst h0
          have := Hcs0.out
          rw [hce] at this
          injection this with this
          subst this
          show max (topL ci []) ci = ci
          unfold topL
          simp
        · rw [if_neg h0, Hne.out h0]
      obtain ⟨tp, htp⟩ : ∃ tp, topI c (cs.take i) = tp := ⟨_, rfl⟩
      rw [htp] at Htp ⊢
      have Hmem : Hid (ci ∈ cs) := List.mem_of_getElem? hce
      have i0 : (0 : Int) ≤ (i : Int) := by omega
      have i1 : (i : Int) < (n : Int) := by omega
      clear htp hide hce y0 y11 Hne
      rcases Decidable.em (-1099511627776 ≤ ci ∧ ci ≤ 1099511627776) with hci | hci
      · have Hok2 : Hid (okC (cs.take (i + 1)) = true) := by
          unfold Hid
          rw [Htk.out]
          exact okC_snoc _ _ Hokc.out hci
        obtain ⟨hlo, hhi⟩ := hci
        rcases Decidable.em (i = 0) with hz | hz
        · have hzi : ((i : Int) == 0) = true := by simp; omega
          have Ht2 : Hid (topI c (cs.take (i + 1)) = ci) := by unfold Hid; rw [Htp.out, if_pos hz]
          clear hz
          go_wp2_with fail
          go_roundg (gk - 1)
          case rel => exact ⟨i + 1, by have := Hig.out; omega, by go_num, by rw [Ht2.out], Hok2.out, hbr⟩
          case measure => have := Hig.out; omega
        · have hzi : ((i : Int) == 0) = false := by simp; omega
          rcases Decidable.em (tp < ci) with hgt | hgt
          · have Ht2 : Hid (topI c (cs.take (i + 1)) = ci) := by unfold Hid; rw [Htp.out, if_neg hz, Int.max_eq_right (by omega)]
            clear hz
            go_wp2_with fail
            go_roundg (gk - 1)
            case rel => exact ⟨i + 1, by have := Hig.out; omega, by go_num, by rw [Ht2.out], Hok2.out, hbr⟩
            case measure => have := Hig.out; omega
          · have Ht2 : Hid (topI c (cs.take (i + 1)) = tp) := by unfold Hid; rw [Htp.out, if_neg hz, Int.max_eq_left (by omega)]
            clear hz
            go_wp2_with fail
            go_roundg (gk - 1)
            case rel => exact ⟨i + 1, by have := Hig.out; omega, by go_num, by rw [Ht2.out], Hok2.out, hbr⟩
            case measure => have := Hig.out; omega
      · have hno : Hid (okC cs = false) := okC_no Hmem.out hci
        rcases Decidable.em (ci < -1099511627776) with hlo | hlo
        case' inr => have hhi : 1099511627776 < ci := by omega
        all_goals
          clear hci
          go_wp2_with (go_at_call 44; refine (HM.out _).mono ?_; rintro e w6 ⟨rfl, rfl⟩)
          exact HNo.out hno.out _ hbr
    · obtain rfl : i = n := by omega
      have hokA : okC cs = true := by
        have := Hokc.out
        rwa [List.take_of_length_le (by rw [Hlc.out]; exact Nat.le_refl _)] at this
      have hall : cs.take i = cs := List.take_of_length_le (by rw [Hlc.out]; exact Nat.le_refl _)
      rw [hall]
      have hti : topI c cs = topL c cs := by
        unfold topI
        rw [if_neg]
        intro h'
        have := congrArg List.length h'
        rw [Hlc.out] at this
        simp at this
        omega
      rw [hti]
      have Hks2 := Lib.hid (Hks.out hokA)
      have HY2 := Lib.hid (HYes.out hokA)
      have Hat : Hid (∀ ci ∈ cs, -1099511627776 ≤ ci ∧ ci ≤ 1099511627776) := fun ci hm => okC_at hokA hm
      have Htb : Hid (topL c cs ∈ cs) := by
        rcases topL_mem c cs with h | h
        · unfold Hid
          rw [h]
          exact Hc0.out
        · exact h
      obtain ⟨T, hT⟩ : ∃ T, topL c cs = T := ⟨_, rfl⟩
      rw [hT] at Hks2 Htb ⊢
      have htb := Hat.out T Htb.out
      obtain ⟨htb1, htb2⟩ := htb
      clear hokA hall hti Hokc Hks HYes HNo hT Hig hin hlt HM
      go_wp2_with fail
      go_loopg [6, 7, 8] i (fun g s6 s7 s8 wr => ∃ j : Nat, j + g = i ∧ s8 = .int .i64 j ∧ OwnS wr w.heap.size s6 (linesL (ids.take j) (ks.take j)) ∧ OwnF wr w.heap.size s7 ((ks.take j).map fi) ∧ Below w.heap.size w wr)
      case atStart => exact ⟨0, by omega, rfl, ownS_nil _ _, ownF_nil _ _, hbr⟩
      case round =>
        clear hbr
        obtain ⟨j, hjg, rfl, ho4, ho5, hbr⟩ := hrel
        have Hjg := Lib.hid hjg
        have hjn : j ≤ i := by omega
        have Ho4 := Lib.hid ho4
        have Ho5 := Lib.hid ho5
        clear hjg ho4 ho5
        by_cases hlt : j < i
        · obtain ⟨b', off', id, ci, he, hb', h64i, h64, hide, hce, y0, y11⟩ := HE.out j hlt
          injection he with he
          injection he with e1 e2 _
          subst e1 e2
          obtain ⟨k, hke, hkv⟩ := Hks2.out j ci hce
          have hci := Hat.out ci (List.mem_of_getElem? hce)
          obtain ⟨hci1, hci2⟩ := hci
          have HC : Hid (∀ w', Below wr.heap.size wr w' → w'.cell? ⟨b, off + j * 40, none⟩ = some (.int .i64 id) ∧ w'.cell? ⟨b, off + j * 40 + 11, none⟩ = some (.int .i64 ci)) := fun w' hb' => by
            have hbw := bstep hbr hb'
            exact ⟨(hbw.cell (p := ⟨b, off + j * 40, none⟩) hb).trans y0, (hbw.cell (p := ⟨b, off + j * 40 + 11, none⟩) hb).trans y11⟩
          have Hti : Hid (ids.take (j + 1) = ids.take j ++ [id]) := by unfold Hid; rw [List.take_add_one, hide]; rfl
          have Htk : Hid (ks.take (j + 1) = ks.take j ++ [k]) := by unfold Hid; rw [List.take_add_one, hke]; rfl
          have Hlen : Hid ((ids.take j).length = (ks.take j).length ∧ (ks.take j).length = j) := by
            have := Hli.out
            have := Hlk.out
            unfold Hid
            rw [List.length_take, List.length_take]
            omega
          have hsub : T - ci = (k : Int) := hkv.symm
          have hfi := fi_eq k
          have hkb : (k : Int) ≤ 2199023255552 := by omega
          have hk0 : (0 : Int) ≤ (k : Int) := by omega
          have h64k : In64 (k : Int) := by unfold In64; omega
          have HLs : Hid (sayB ⟨#[108, 97, 103]⟩ [id, (k : Int)] = (⟨(lineL id (k : Int)).toArray⟩ : ByteArray)) := line_say _ _
          have HS2 : Hid (∀ A c w', Rd w' w'.heap.size 1 A 2 c [.int .i64 id, .int .i64 (k : Int)] → Below wr.heap.size wr w' → Calls Tryd.prog 37 #[.string ⟨#[108, 97, 103]⟩, .slice A 2 c] w' fun e w'' => e = .returned (.string (sayB ⟨#[108, 97, 103]⟩ [id, (k : Int)])) ∧ Below w'.heap.size w' w'') :=
            fun A c w' h1 hb => HSay.out _ [id, (k : Int)] A 2 c w' h1 (by
              intro x hx
              simp at hx
              rcases hx with rfl | rfl
              · exact h64i
              · exact h64k) (by decide) (by decide) (bstep hbr hb)
          obtain ⟨LB, hLB⟩ : ∃ LB, sayB ⟨#[108, 97, 103]⟩ [id, (k : Int)] = LB := ⟨_, rfl⟩
          rw [hLB] at HLs HS2
          have j0 : (0 : Int) ≤ (j : Int) := by omega
          have j1 : (j : Int) < (i : Int) := by omega
          have Hbr := Lib.hid hbr
          obtain ⟨kk, hkk⟩ : ∃ kk : Int, (k : Int) = kk := ⟨_, rfl⟩
          rw [hkk] at hsub HS2 hkb hk0
          have Hkk := Lib.hid hkk
          obtain ⟨fl, hfl⟩ : ∃ fl, (ks.take j).map fi = fl := ⟨_, rfl⟩
          have Ho6 : Hid (OwnF wr w.heap.size u7 fl) := by
            rw [← hfl]
            exact Ho5.out
          have Hfl := Lib.hid hfl
          clear hide hce hke hkv h64k h64i h64 hLB y0 y11 hbr hkk hfi hfl Ho5
          go_wp2_with fail
          with_reducible refine wp_region_app 16 rfl (by kernel_rfl) (by kernel_rfl) (by kernel_rfl) (by kernel_rfl) [.val (u6),
      .val (.slice (some ⟨b, off, none⟩) i cap),
      .val (.int .i64 (j : Int)),
      .val (.pointer (some ⟨b, off + j * 40, none⟩)),
      .val (.pointer (some ⟨b, off + j * 40, none⟩)),
      .val (.int .i64 id),
      .val (.int .i64 T),
      .val (.slice (some ⟨b, off, none⟩) i cap),
      .val (.int .i64 (j : Int)),
      .val (.pointer (some ⟨b, off + j * 40, none⟩)),
      .val (.pointer (some ⟨b, off + j * 40 + 11, none⟩)),
      .val (.int .i64 ci),
      .val (.int .i64 kk),
      .rd (2) ([.int .i64 id, .int .i64 kk]),
      .val (.string LB),
      .rd (1) ([.string LB])] (fun v w2 => OwnS w2 w.heap.size v (linesL (ids.take (j + 1)) (ks.take (j + 1))) ∧ OwnF w2 w.heap.size u7 fl ∧ Below w.heap.size w w2) ?mk (fun f => ?hmk) ?f0 ?h0 ?hput ?hstep ?happ ?hasg ?hend
          case hmk =>
            simp only [putOps, Act.put, List.setIfInBounds_toArray, List.set_cons_succ, List.set_cons_zero, Nat.zero_add, Nat.reduceAdd]
            rfl
          case f0 => exact fun k => ([u52, u53, u54, u55, u56, u57, u58, u59, u60, u61, u62, u63, u64, u65, u66, u67, u68, u6] : List Value).getD k undef
          case h0 => exact rfl
          case hput =>
            repeat (refine ⟨fun f v => rfl, ?_⟩)
            exact trivial
          case hstep =>
            refine ⟨fun _ f w1 hb1 hu hd => ?_, ?_⟩
            · have qu : f 17 = u6 := hu
              clear hu
              clear hd
              go_wp2_with fail
              exact ⟨_, by first | rfl | simp only [qu, Act.put, List.setIfInBounds_toArray, List.set_cons_succ, List.set_cons_zero], Below.refl _ _, rfl⟩
            refine ⟨fun _ f w1 hb1 hu hd => ?_, ?_⟩
            · have qu : f 17 = u6 := hu
              clear hu
              clear hd
              go_wp2_with fail
              exact ⟨_, by first | rfl | simp only [qu, Act.put, List.setIfInBounds_toArray, List.set_cons_succ, List.set_cons_zero], Below.refl _ _, rfl⟩
            refine ⟨fun _ f w1 hb1 hu hd => ?_, ?_⟩
            · have qu : f 17 = u6 := hu
              clear hu
              clear hd
              go_wp2_with fail
              exact ⟨_, by first | rfl | simp only [qu, Act.put, List.setIfInBounds_toArray, List.set_cons_succ, List.set_cons_zero], Below.refl _ _, rfl⟩
            refine ⟨fun _ f w1 hb1 hu hd => ?_, ?_⟩
            · have qu : f 17 = u6 := hu
              clear hu
              obtain ⟨d0, d1, -⟩ := hd
              have q1 : f 1 = .slice (some ⟨b, off, none⟩) i cap := d0
              have q2 : f 2 = .int .i64 (j : Int) := d1
              clear d0 d1
              go_wp2_with fail
              exact ⟨_, by first | rfl | simp only [qu, q1, q2, Act.put, List.setIfInBounds_toArray, List.set_cons_succ, List.set_cons_zero], Below.refl _ _, rfl⟩
            refine ⟨fun _ f w1 hb1 hu hd => ?_, ?_⟩
            · have qu : f 17 = u6 := hu
              clear hu
              obtain ⟨d0, -⟩ := hd
              have q3 : f 3 = .pointer (some ⟨b, off + j * 40, none⟩) := d0
              clear d0
              go_wp2_with fail
              exact ⟨_, by first | rfl | simp only [qu, q3, Act.put, List.setIfInBounds_toArray, List.set_cons_succ, List.set_cons_zero], Below.refl _ _, rfl⟩
            refine ⟨fun _ f w1 hb1 hu hd => ?_, ?_⟩
            · have qu : f 17 = u6 := hu
              clear hu
              obtain ⟨d0, -⟩ := hd
              have q4 : f 4 = .pointer (some ⟨b, off + j * 40, none⟩) := d0
              clear d0
              obtain ⟨y0, y1⟩ := HC.out w1 hb1
              go_wp2_with fail
              exact ⟨_, by first | rfl | simp only [qu, q4, Act.put, List.setIfInBounds_toArray, List.set_cons_succ, List.set_cons_zero], Below.refl _ _, rfl⟩
            refine ⟨fun _ f w1 hb1 hu hd => ?_, ?_⟩
            · have qu : f 17 = u6 := hu
              clear hu
              clear hd
              go_wp2_with fail
              exact ⟨_, by first | rfl | simp only [qu, Act.put, List.setIfInBounds_toArray, List.set_cons_succ, List.set_cons_zero], Below.refl _ _, rfl⟩
            refine ⟨fun _ f w1 hb1 hu hd => ?_, ?_⟩
            · have qu : f 17 = u6 := hu
              clear hu
              clear hd
              go_wp2_with fail
              exact ⟨_, by first | rfl | simp only [qu, Act.put, List.setIfInBounds_toArray, List.set_cons_succ, List.set_cons_zero], Below.refl _ _, rfl⟩
            refine ⟨fun _ f w1 hb1 hu hd => ?_, ?_⟩
            · have qu : f 17 = u6 := hu
              clear hu
              clear hd
              go_wp2_with fail
              exact ⟨_, by first | rfl | simp only [qu, Act.put, List.setIfInBounds_toArray, List.set_cons_succ, List.set_cons_zero], Below.refl _ _, rfl⟩
            refine ⟨fun _ f w1 hb1 hu hd => ?_, ?_⟩
            · have qu : f 17 = u6 := hu
              clear hu
              obtain ⟨d0, d1, -⟩ := hd
              have q7 : f 7 = .slice (some ⟨b, off, none⟩) i cap := d0
              have q8 : f 8 = .int .i64 (j : Int) := d1
              clear d0 d1
              go_wp2_with fail
              exact ⟨_, by first | rfl | simp only [qu, q7, q8, Act.put, List.setIfInBounds_toArray, List.set_cons_succ, List.set_cons_zero], Below.refl _ _, rfl⟩
            refine ⟨fun _ f w1 hb1 hu hd => ?_, ?_⟩
            · have qu : f 17 = u6 := hu
              clear hu
              obtain ⟨d0, -⟩ := hd
              have q9 : f 9 = .pointer (some ⟨b, off + j * 40, none⟩) := d0
              clear d0
              go_wp2_with fail
              exact ⟨_, by first | rfl | simp only [qu, q9, Act.put, List.setIfInBounds_toArray, List.set_cons_succ, List.set_cons_zero], Below.refl _ _, rfl⟩
            refine ⟨fun _ f w1 hb1 hu hd => ?_, ?_⟩
            · have qu : f 17 = u6 := hu
              clear hu
              obtain ⟨d0, -⟩ := hd
              have q10 : f 10 = .pointer (some ⟨b, off + j * 40 + 11, none⟩) := d0
              clear d0
              obtain ⟨y0, y1⟩ := HC.out w1 hb1
              go_wp2_with fail
              exact ⟨_, by first | rfl | simp only [qu, q10, Act.put, List.setIfInBounds_toArray, List.set_cons_succ, List.set_cons_zero], Below.refl _ _, rfl⟩
            refine ⟨fun _ f w1 hb1 hu hd => ?_, ?_⟩
            · have qu : f 17 = u6 := hu
              clear hu
              obtain ⟨d0, d1, -⟩ := hd
              have q6 : f 6 = .int .i64 T := d0
              have q11 : f 11 = .int .i64 ci := d1
              clear d0 d1
              go_wp2_with fail
              exact ⟨_, by first | rfl | simp only [qu, q6, q11, Act.put, List.setIfInBounds_toArray, List.set_cons_succ, List.set_cons_zero], Below.refl _ _, rfl⟩
            refine ⟨fun _ f w1 hb1 hu hd => ?_, ?_⟩
            · have qu : f 17 = u6 := hu
              clear hu
              obtain ⟨d0, d1, -⟩ := hd
              have q5 : f 5 = .int .i64 id := d0
              have q12 : f 12 = .int .i64 kk := d1
              clear d0 d1
              go_wp2_with fail
              exact ⟨_, by first | rfl | simp only [qu, q5, q12, Act.put, List.setIfInBounds_toArray, List.set_cons_succ, List.set_cons_zero], alloc_below _ _, sp_lits w1 [.int .i64 id, .int .i64 kk] 3 (by simp)⟩
            refine ⟨fun _ f w1 hb1 hu hd => ?_, ?_⟩
            · have qu : f 17 = u6 := hu
              clear hu
              obtain ⟨d0, -⟩ := hd
              obtain ⟨A13, c13, q13, r13⟩ := d0
              have HV := Lib.hid (HS2.out A13 c13 w1 r13 hb1)
              rw [q13]
              clear r13
              go_wp2_with (with_reducible refine HV.out.mono ?_; rintro e w2 ⟨rfl, hb2⟩)
              exact ⟨_, by first | rfl | simp only [qu, q13, Act.put, List.setIfInBounds_toArray, List.set_cons_succ, List.set_cons_zero], hb2, rfl⟩
            refine ⟨fun _ f w1 hb1 hu hd => ?_, ?_⟩
            · have qu : f 17 = u6 := hu
              clear hu
              obtain ⟨d0, -⟩ := hd
              have q14 : f 14 = .string LB := d0
              clear d0
              go_wp2_with fail
              exact ⟨_, by first | rfl | simp only [qu, q14, Act.put, List.setIfInBounds_toArray, List.set_cons_succ, List.set_cons_zero], alloc_below _ _, sp_lits w1 [.string LB] 9 (by simp)⟩
            refine ⟨fun h => absurd h (by decide), ?_⟩
            refine ⟨fun h => absurd h (by decide), ?_⟩
            exact trivial
          case happ =>
            refine ⟨fun h => absurd h (by decide), ?_⟩
            refine ⟨fun h => absurd h (by decide), ?_⟩
            refine ⟨fun h => absurd h (by decide), ?_⟩
            refine ⟨fun h => absurd h (by decide), ?_⟩
            refine ⟨fun h => absurd h (by decide), ?_⟩
            refine ⟨fun h => absurd h (by decide), ?_⟩
            refine ⟨fun h => absurd h (by decide), ?_⟩
            refine ⟨fun h => absurd h (by decide), ?_⟩
            refine ⟨fun h => absurd h (by decide), ?_⟩
            refine ⟨fun h => absurd h (by decide), ?_⟩
            refine ⟨fun h => absurd h (by decide), ?_⟩
            refine ⟨fun h => absurd h (by decide), ?_⟩
            refine ⟨fun h => absurd h (by decide), ?_⟩
            refine ⟨fun h => absurd h (by decide), ?_⟩
            refine ⟨fun h => absurd h (by decide), ?_⟩
            refine ⟨fun h => absurd h (by decide), ?_⟩
            refine ⟨fun _ f w1 hb1 hu hd => ?_, ?_⟩
            · have qu : f 17 = u6 := hu
              clear hu
              have q0 : f 0 = u6 := hd 0 (by decide)
              obtain ⟨A15, c15, q15, r15⟩ := hd 15 (by decide)
              have Hbw : Hid (Below w.heap.size w w1) := bstep Hbr.out hb1
              have Hob : Hid (OwnS w1 w.heap.size u6 (linesL (ids.take j) (ks.take j))) := own_below Ho4.out hb1
              have Hof : Hid (OwnF w1 w.heap.size u7 fl) := own_below Ho6.out hb1
              have HR : Hid (Rd w1 w1.heap.size 1 A15 1 c15 [sV (lineL id (k : Int))]) := by
                rw [HLs.out] at r15
                exact r15
              clear r15
              rw [q0, q15]
              go_wp2_with (
                (at_builtin
                 refine wpList_appSA rfl (.tmp 52) (.tmp 67) rfl w.heap.size u6 _ rfl Hob.out w1.heap.size A15 c15 _ rfl HR.out (by rw [linesL_len _ _ Hlen.out.1, Hlen.out.2]; omega) Hbw.out.size ?_
                 intro v4 w4 ho4 hg4 ha4))
              exact ⟨_, by first | rfl | simp only [qu, q0, q15, Act.put, List.setIfInBounds_toArray, List.set_cons_succ, List.set_cons_zero], by rw [Hti.out, Htk.out, linesL_snoc _ _ _ _ Hlen.out.1]; exact ho4, World.ownsRow.kept Hof.out hg4 (own_ne Hof.out Hob.out (by decide)), Hbw.out.grown hg4 Hbw.out.size (fun q hq => (World.ownsRow.lt Hob.out q hq).1)⟩
            refine ⟨fun h => absurd h (by decide), ?_⟩
            exact trivial
          case hasg =>
            refine ⟨fun h => absurd h (by decide), ?_⟩
            refine ⟨fun h => absurd h (by decide), ?_⟩
            refine ⟨fun h => absurd h (by decide), ?_⟩
            refine ⟨fun h => absurd h (by decide), ?_⟩
            refine ⟨fun h => absurd h (by decide), ?_⟩
            refine ⟨fun h => absurd h (by decide), ?_⟩
            refine ⟨fun h => absurd h (by decide), ?_⟩
            refine ⟨fun h => absurd h (by decide), ?_⟩
            refine ⟨fun h => absurd h (by decide), ?_⟩
            refine ⟨fun h => absurd h (by decide), ?_⟩
            refine ⟨fun h => absurd h (by decide), ?_⟩
            refine ⟨fun h => absurd h (by decide), ?_⟩
            refine ⟨fun h => absurd h (by decide), ?_⟩
            refine ⟨fun h => absurd h (by decide), ?_⟩
            refine ⟨fun h => absurd h (by decide), ?_⟩
            refine ⟨fun h => absurd h (by decide), ?_⟩
            refine ⟨fun h => absurd h (by decide), ?_⟩
            refine ⟨fun _ f w1 => ?_, ?_⟩
            · go_wp2_with fail
              exact ⟨rfl, rfl⟩
            exact trivial
          case hend =>
            intro f w1 hv he
            obtain ⟨hv1, hv2, hv3⟩ := hv
            have hfe : f 17 = f 16 := he
            obtain ⟨u, hu⟩ : ∃ u, f 16 = u := ⟨_, rfl⟩
            rw [hu] at hv1 hfe
            have Hv1 := Lib.hid hv1
            have Hv2 := Lib.hid hv2
            have Hv3 := Lib.hid hv3
            have hfi := fi_eq k
            rw [Hkk.out] at hfi
            have z11 : w1.cell? ⟨b, off + j * 40 + 11, none⟩ = some (.int .i64 ci) := (hv3.cell (p := ⟨b, off + j * 40 + 11, none⟩) hb).trans ((Hbr.out.cell (p := ⟨b, off + j * 40 + 11, none⟩) hb).symm.trans (HC.out wr (Below.refl _ _)).2)
            clear he hv1 hv2 hv3
            have HFd : Hid (∀ w7 : World, Rd (w7.alloc (.cells #[.float .f64 (fi k)] 35)) (w7.heap.size + 1) 1 (some ⟨w7.heap.size, 0, none⟩) 1 1 [fV (fi k)]) := fun w7 => rd_one w7 _ _
            go_wp2_with (
              (at_builtin
               refine wpList_appF rfl (.tmp 69) (.tmp 78) rfl w.heap.size u7 _ rfl (World.ownsRow.alloc Hv2.out _) (w1.heap.size + 1) w1.heap.size _ rfl (HFd.out w1) ?d1 ?d2 ?_
               case d1 => rw [← Hfl.out, List.length_map, Hlen.out.2]; omega
               case d2 => simp; have := Hv3.out.size; omega
               intro v10 w10 ho10 hg10 ha10
               have ho59 : OwnF (w1.alloc (.cells #[.float .f64 (fi k)] 35)) w.heap.size u7 fl := World.ownsRow.alloc Hv2.out _
               have ho99 : OwnS (w1.alloc (.cells #[.float .f64 (fi k)] 35)) w.heap.size u _ := World.ownsRow.alloc Hv1.out _
               have ho910 := World.ownsRow.kept ho99 hg10 (own_ne ho99 ho59 (by decide))
               have hbn10 : Below w.heap.size w w10 := (Hv3.out.alloc Hv3.out.size _).grown hg10 (by simp; have := Hv3.out.size; omega) (fun q hq => (World.ownsRow.lt Hv2.out q hq).1)
               have Ho910 := Lib.hid ho910
               have Hbn10 := Lib.hid hbn10
               have Ho10 := Lib.hid ho10
               clear ho59 ho99 ho910 hbn10 ho10 hg10 ha10))
            have HoF : Hid (OwnF w10 w.heap.size v10 ((ks.take (j + 1)).map fi)) := by
              unfold Hid
              rw [Htk.out, List.map_append, Hfl.out]
              exact Ho10.out
            go_roundg (gk - 1)
            case rel => exact ⟨j + 1, by have := Hjg.out; omega, by go_num, (by first | exact Ho910.out | (rw [hfe]; exact Ho910.out)), HoF.out, Hbn10.out⟩
            case measure => have := Hjg.out; omega
        · obtain rfl : j = i := by omega
          have hfk : ks.take j = ks := List.take_of_length_le (by rw [Hlk.out]; exact Nat.le_refl _)
          have hfid : ids.take j = ids := List.take_of_length_le (by rw [Hli.out]; exact Nat.le_refl _)
          have ho4 := Ho4.out
          have ho5 := Ho5.out
          rw [hfk] at ho4 ho5
          rw [hfid] at ho4
          have HF := Lib.hid (HY2.out)
          obtain ⟨A5, c5, rfl, hr5⟩ := ownF_rd ho5 (n := j) (by rw [List.length_map, Hlk.out])
          have HMn : Hid (Calls Tryd.prog 45 #[.slice A5 j c5] wr (Qt wr (.float .f64 (meanV (ks.map fi))))) := RefMean_any A5 j c5 wr.heap.size (ks.map fi) wr hr5
          have Ho4' := Lib.hid ho4
          unfold Qt at HMn
          clear ho4 ho5 hr5 hfk hfid Ho4 Ho5
          go_wp2_with fail
          refine HMn.out.mono ?_
          rintro e w2 ⟨rfl, kd, rfl⟩
          go_wp2_with fail
          exact HF.out _ _ Ho4'.out (below_drewN hbr _)
end Go.Proofs.YtkckncggiicciaaDoor
/-
  The walk of ref25.Log.
-/
namespace Go.Proofs.YtkckncggiicciaaDoor
open Go.RowKit
set_option maxRecDepth 100000
theorem sayB_size (s : ByteArray) (cs : List Int) (h : ∀ c ∈ cs, In64 c) : (sayB s cs).size ≤ s.size + 22 * cs.length := by
  induction cs generalizing s with
  | nil => simp [sayB]
  | cons c cs ih =>
    have e : sayB s (c :: cs) = sayB ((s ++ ⟨#[32]⟩) ++ ⟨(Lib.itoa c).toArray⟩) cs := rfl
    rw [e]
    have h1 := ih ((s ++ ⟨#[32]⟩) ++ ⟨(Lib.itoa c).toArray⟩) (fun x hx => h x (List.mem_cons_of_mem _ hx))
    have hc := h c List.mem_cons_self
    have q := Lib.itoa_length_le c hc.1 hc.2
    rw [ByteArray.size_append, ByteArray.size_append] at h1
    have e2 : (⟨(Lib.itoa c).toArray⟩ : ByteArray).size = (Lib.itoa c).length := by show (Lib.itoa c).toArray.size = _; rw [List.size_toArray]
    have e3 : (⟨#[32]⟩ : ByteArray).size = 1 := rfl
    rw [List.length_cons]
    omega
theorem head_app (idx term : Int) : ((⟨(Lib.itoa idx).toArray⟩ ++ ⟨#[32]⟩) ++ ⟨(Lib.itoa term).toArray⟩ : ByteArray) = ⟨(headL idx term).toArray⟩ := by
  refine bytes_ext ?_
  simp only [ByteArray.data_append, Array.toList_append]
  unfold headL wordsL
  rw [Lib.join_cons]
  simp [Lib.joinTail]
theorem ent_app0 (hd : List UInt8) : (⟨hd.toArray⟩ ++ ⟨#[32, 110, 111, 110, 101]⟩ : ByteArray) = ⟨(wordsL [hd, [110, 111, 110, 101]]).toArray⟩ := by
  refine bytes_ext ?_
  simp only [ByteArray.data_append, Array.toList_append]
  unfold wordsL
  rw [Lib.join_cons]
  simp [Lib.joinTail]
theorem ent_app1 (hd : List UInt8) (a b : Int) : (⟨hd.toArray⟩ ++ sayB ⟨#[32, 99, 97, 108, 108]⟩ [a, b] : ByteArray) = ⟨(wordsL [hd, [99, 97, 108, 108], Lib.itoa a, Lib.itoa b]).toArray⟩ := by
  refine bytes_ext ?_
  simp only [sayB, List.foldl_cons, List.foldl_nil, ByteArray.data_append, Array.toList_append]
  unfold wordsL
  rw [Lib.join_cons]
  simp [Lib.joinTail]
theorem ent_app2 (hd : List UInt8) (a b c d : Int) : (⟨hd.toArray⟩ ++ sayB ⟨#[32, 99, 111, 110, 102]⟩ [a, b, c, d] : ByteArray) = ⟨(wordsL [hd, [99, 111, 110, 102], Lib.itoa a, Lib.itoa b, Lib.itoa c, Lib.itoa d]).toArray⟩ := by
  refine bytes_ext ?_
  simp only [sayB, List.foldl_cons, List.foldl_nil, ByteArray.data_append, Array.toList_append]
  unfold wordsL
  rw [Lib.join_cons]
  simp [Lib.joinTail]
theorem ent_app3 (hd : List UInt8) : (⟨hd.toArray⟩ ++ ⟨#[32, 63]⟩ : ByteArray) = ⟨(wordsL [hd, [63]]).toArray⟩ := by
  refine bytes_ext ?_
  simp only [ByteArray.data_append, Array.toList_append]
  unfold wordsL
  rw [Lib.join_cons]
  simp [Lib.joinTail]
set_option maxHeartbeats 12800000 in
theorem RfLog_any (x : List Value) (id term base bt commit role lead : Int) (A : Option Addr) (m c : Nat) (es : List En) (w : World) (hr : RfAt x id term base bt commit role lead (.slice A m c)) (hy : EnRows w w.heap.size A m c es) (hl : es.length = m) (hm : m ≤ 1000)
    (hin : ∀ e ∈ es, e.In) (hI : ItAt w) :
    Calls Tryd.prog 17 #[.agg x.toArray] w (RlogPost base es w) := by
  have hcap : m ≤ c := hy.2.1
  obtain ⟨W1, hW1⟩ : ∃ W1, w.alloc (.cells x.toArray 33) = W1 := ⟨_, rfl⟩
  have hb1 : Below w.heap.size w W1 := by rw [← hW1]; exact alloc_below w _
  have hz1 : W1.heap.size = w.heap.size + 1 := by rw [← hW1]; simp
  have hrow : W1.heap[w.heap.size]? = some (.cells x.toArray 33 (0, 0)) := by rw [← hW1]; exact heap_alloc_new w _
  have Hrow : Hid (∀ w', Below W1.heap.size W1 w' → w'.heap[w.heap.size]? = some (.cells x.toArray 33 (0, 0)) ∧ w'.cell? ⟨w.heap.size, 3, none⟩ = some (.int .i64 base) ∧ w'.cell? ⟨w.heap.size, 10, none⟩ = some (.slice A m c)) := fun w' hb => by
    have q := (hb.block w.heap.size (by omega)).trans hrow
    exact ⟨q, cell_list q _ _ hr.base, cell_list q _ _ hr.log⟩
  have Hsz : Hid ((Tryd.prog.info? 33).map (·.size) = some x.toArray.size) := by unfold Hid; rw [List.size_toArray, hr.len]; exact size40
  have HH : Hid (∀ w', Calls Tryd.prog 38 #[.agg x.toArray] w' fun e w'' => e = .returned (.bool (logB base)) ∧ Below w'.heap.size w' w'') := fun w' => logged_any x base w' hr.base
  have HNo : Hid (logB base = false → ∀ w', Below w.heap.size w w' → RlogPost base es w (.returned (.slice none 0 0)) w') := fun h w' hb => by
    unfold RlogPost
    rw [if_neg (by rw [h]; decide)]
    exact ⟨rfl, hb⟩
  have HYes : Hid (logB base = true → ∀ w' v, OwnS w' w.heap.size v (logL base es m) → Below w.heap.size w w' → RlogPost base es w (.returned v) w') := fun h w' v ho hb => by
    unfold RlogPost
    rw [if_pos h, hl]
    exact ⟨⟨v, rfl, ho⟩, hb⟩
  have HE : Hid (∀ i, i < m → ∃ b off e, A = some ⟨b, off, none⟩ ∧ b < w.heap.size ∧ es.getD i e0 = e ∧ e.In ∧ w.rangeAt b (off + i * 16) e.cells) := fun i hi => by
    obtain ⟨b, off, e, q1, q2, q3, q4, q5, q6⟩ := en_row hy hl hi
    exact ⟨b, off, e, q1, q2, q4, hin e q5, q6⟩
  obtain ⟨J, hJ⟩ : ∃ J, RlogPost base es w = J := ⟨_, rfl⟩
  rw [hJ] at HNo HYes ⊢
  have HI := Lib.hid hI
  have HW1 := Lib.hid hW1
  have hbc : Below W1.heap.size W1 W1 := Below.refl _ _
  clear hrow hJ hI hr hy hl hin
  go_enter Tryd.func17, Tryd.ntmps17
  go_wp2_with fail
  clear hW1
  go_loopg [3, 4, 5, 6] m (fun g s3 s4 _ _ wr => ∃ i : Nat, i + g = m ∧ s4 = .int .i64 i ∧ OwnS wr W1.heap.size s3 (logL base es i) ∧ (logB base = false → s3 = .slice none 0 0) ∧ Below W1.heap.size W1 wr)
  case atStart => exact ⟨0, by omega, rfl, ownS_nil _ _, fun _ => rfl, hbc⟩
  case round =>
    clear hbc
    obtain ⟨i, hig, rfl, ho, hnl, hbr⟩ := hrel
    have Hig := Lib.hid hig
    have Ho := Lib.hid ho
    have Hnl := Lib.hid hnl
    have hin : i ≤ m := by omega
    obtain ⟨y00, y0, y1⟩ := Hrow.out _ hbr
    have Y00 := Lib.hid y00
    clear hig ho hnl y00
    by_cases hlt : i < m
    · go_wp2_with (refine wpList_load_rowG rfl 33 (.tmp 1) rfl w.heap.size rfl 33 x.toArray (0, 0) _ Y00.out Tryd.underlying33 rfl Hsz.out ?_)
      refine (HH.out _).mono ?_
      rintro e w2 ⟨rfl, hb2⟩
      have hbr2 := bstep hbr hb2
      have Ho2 : Hid (OwnS w2 W1.heap.size u3 (logL base es i)) := own_below Ho.out hb2
      clear y0 y1 Y00 hb2 hbr Ho
      cases hB : logB base
      · obtain rfl := Hnl.out hB
        have HF := Lib.hid (HNo.out hB)
        clear hB HNo HYes Ho2
        go_wp2_with fail
        exact HF.out _ (hb1.trans (hbr2.mono (by omega)))
      have hbb : 0 ≤ base ∧ base ≤ 1099511627776 := by
        unfold logB at hB
        simpa using hB
      obtain ⟨hbb0, hbb1⟩ := hbb
      have HnB : Hid (logB base = true) := hB
      clear hB HNo
      obtain ⟨b, off, e, rfl, hb, hge, hei, hrg⟩ := HE.out i hlt
      have hrg' := range_below hrg (hb1.trans (hbr2.mono (by omega))) hb
      have Hrg := Lib.hid hrg'
      have Hls : Hid (logL base es (i + 1) = logL base es i ++ [entL (base + i + 1) e]) := by
        unfold Hid
        rw [logL_succ, hge]
      have hidx : In64 (base + (i : Int) + 1) := by unfold In64; omega
      have hll := entL_len hidx hei
      have hbase0 : w.heap.size < w2.heap.size := by have := hbr2.size; omega
      -- the local that the entry is copied into
      have HL : Hid (∀ w5, w5.heap[w2.heap.size]? = some (.cells e.cells.toArray 64 (0, 0)) → Below w2.heap.size w2 w5 → w5.heap.size = w2.heap.size + 1 → ∀ w', Below w5.heap.size w5 w' →
          w'.cell? ⟨w.heap.size, 3, none⟩ = some (.int .i64 base) ∧ w'.cell? ⟨w2.heap.size, 0, none⟩ = some (.int .i64 e.term) ∧ w'.cell? ⟨w2.heap.size, 1, none⟩ = some (.int .i64 e.kind) ∧ w'.cell? ⟨w2.heap.size, 2, none⟩ = some (.int .i64 e.client) ∧
          w'.cell? ⟨w2.heap.size, 3, none⟩ = some (.int .i64 e.seq) ∧ w'.cell? ⟨w2.heap.size, 12, none⟩ = some (.int .i64 e.full) ∧ w'.cell? ⟨w2.heap.size, 13, none⟩ = some (.int .i64 e.wit) ∧
          w'.cell? ⟨w2.heap.size, 14, none⟩ = some (.int .i64 e.learn) ∧ w'.cell? ⟨w2.heap.size, 15, none⟩ = some (.int .i64 e.lw)) := fun w5 q5 hb5 hz5 w' hb' => by
        have hbw : Below W1.heap.size W1 w' := bstep (bstep hbr2 hb5) hb'
        have q := (hb'.block w2.heap.size (by omega)).trans q5
        exact ⟨(Hrow.out _ hbw).2.1, cell_list q 0 _ rfl, cell_list q 1 _ rfl, cell_list q 2 _ rfl, cell_list q 3 _ rfl, cell_list q 12 _ rfl, cell_list q 13 _ rfl, cell_list q 14 _ rfl, cell_list q 15 _ rfl⟩
      have HN : Hid (∀ v w', In64 v → Below W1.heap.size W1 w' → Calls Tryd.prog 40 #[.int .i64 v] w' fun e w'' => e = .returned (.string ⟨(Lib.itoa v).toArray⟩) ∧ Below w'.heap.size w' w'') := fun v w' hv hb => number_any v w' hv (HI.out.below (hb1.trans (hb.mono (by omega))))
      have HSay : Hid (∀ s cs A n c w', Rd w' w'.heap.size 1 A n c (cs.map fun x => .int .i64 x) → (∀ c ∈ cs, In64 c) → n ≤ 100 → s.size ≤ 1000000 → Below W1.heap.size W1 w' → Calls Tryd.prog 37 #[.string s, .slice A n c] w' fun e w'' => e = .returned (.string (sayB s cs)) ∧ Below w'.heap.size w' w'') :=
        fun s cs A n c w' h1 h2 h3 h4 hb => say_any s A n c cs w' h1 h2 h3 h4 (HI.out.below (hb1.trans (hb.mono (by omega))))
      have wr1 : IntKind.i64.wrap (base + (i : Int)) = base + (i : Int) := IntWalk.i64_in _ (by omega)
      have wr2 : IntKind.i64.wrap (base + (i : Int) + 1) = base + (i : Int) + 1 := IntWalk.i64_in _ (by omega)
      have Hwr := Lib.hid (And.intro wr1 wr2)
      have HEi := Lib.hid hei
      have Hidx := Lib.hid hidx
      have Hll := Lib.hid hll
      obtain ⟨y0, y1⟩ := (Hrow.out _ hbr2).2
      clear wr1 wr2 hrg hrg' hge hei hidx hll
      go_wp2_with (first
        | (refine Go.wpList_load_mid rfl 64 (.tmp 23) rfl b (off + i * 16) rfl e.cells _ Hrg.out Tryd.underlying64 rfl size16 ?_)
        | (refine wpList_store_local rfl 64 (.tmp 5) _ rfl e.cells rfl rfl size16 rfl e.cells_one ?_
           intro w5 q5 hb5 hz5
           have HS := Lib.hid (HL.out w5 q5 hb5 hz5)
           clear q5 y0 y1))
      have hbw5 : Below W1.heap.size W1 w5 := bstep hbr2 hb5
      have hb55 : Below w5.heap.size w5 w5 := Below.refl _ _
      obtain ⟨wr1, wr2⟩ := Hwr.out
      have hidx := Hidx.out
      have hterm := HEi.out.term
      obtain ⟨B1, hB1⟩ : ∃ B, (⟨(Lib.itoa (base + (i : Int) + 1)).toArray⟩ : ByteArray) = B := ⟨_, rfl⟩
      obtain ⟨B2, hB2⟩ : ∃ B, (⟨(Lib.itoa e.term).toArray⟩ : ByteArray) = B := ⟨_, rfl⟩
      have hz1' : B1.size ≤ 21 := by rw [← hB1]; show (Lib.itoa _).toArray.size ≤ 21; rw [List.size_toArray]; exact Lib.itoa_length_le _ hidx.1 hidx.2
      have hz2' : B2.size ≤ 21 := by rw [← hB2]; show (Lib.itoa _).toArray.size ≤ 21; rw [List.size_toArray]; exact Lib.itoa_length_le _ hterm.1 hterm.2
      have HN1 : Hid (∀ w', Below w5.heap.size w5 w' → Calls Tryd.prog 40 #[.int .i64 (base + (i : Int) + 1)] w' fun e w'' => e = .returned (.string B1) ∧ Below w'.heap.size w' w'') := fun w' hb => by
        rw [← hB1]
        exact HN.out _ w' hidx (bstep hbw5 hb)
      have HN2 : Hid (∀ w', Below w5.heap.size w5 w' → Calls Tryd.prog 40 #[.int .i64 e.term] w' fun e w'' => e = .returned (.string B2) ∧ Below w'.heap.size w' w'') := fun w' hb => by
        rw [← hB2]
        exact HN.out _ w' hterm (bstep hbw5 hb)
      have Hhd : Hid ((B1 ++ ⟨#[32]⟩) ++ B2 = (⟨(headL (base + (i : Int) + 1) e.term).toArray⟩ : ByteArray)) := by
        unfold Hid
        rw [← hB1, ← hB2]
        exact head_app _ _
      have m1 : ¬ 9223372036854775807 < B1.size + 1 := by omega
      have m2 : ¬ 9223372036854775807 < B1.size + 1 + B2.size := by omega
      obtain ⟨HB, hHB⟩ : ∃ HB, (B1 ++ ⟨#[32]⟩) ++ B2 = HB := ⟨_, rfl⟩
      have hHz : HB.size ≤ 60 := by
        rw [← hHB, ByteArray.size_append, ByteArray.size_append]
        have e3 : (⟨#[32]⟩ : ByteArray).size = 1 := rfl
        omega
      rw [hHB] at Hhd
      have HHB := Lib.hid hHB
      obtain ⟨y0, y1, y2, y3, y4, y5, y6, y7, y8⟩ := HS.out _ hb55
      clear Hidx HN Hwr HL hB1 hB2 hHB
      go_region_held3 (fun w' => w'.cell? ⟨w.heap.size, 3, none⟩ = some (.int .i64 base) ∧ w'.cell? ⟨w2.heap.size, 0, none⟩ = some (.int .i64 e.term))
        ((first | assumption | exact ⟨(HS.out _ (by assumption)).1, (HS.out _ (by assumption)).2.1⟩ | exact ⟨(HS.out _ (Below.drew (by assumption))).1, (HS.out _ (Below.drew (by assumption))).2.1⟩))
        ((first
          | (go_at_call 40
             (with_reducible refine (HN1.out _ (by first | assumption | exact Below.drew (by assumption))).mono ?_)
             rintro e6 w6 ⟨rfl, hb6⟩
             have hbc6 : Below w5.heap.size w5 w6 := Below.trans (by first | assumption | exact Below.drew (by assumption)) (hb6.mono (Below.size (by first | assumption | exact Below.drew (by assumption)))))
          | (go_at_call 40
             (with_reducible refine (HN2.out _ (by first | assumption | exact Below.drew (by assumption))).mono ?_)
             rintro e9 w9 ⟨rfl, hb9⟩
             have hbc9 : Below w5.heap.size w5 w9 := Below.trans (by first | assumption | exact Below.drew (by assumption)) (hb9.mono (Below.size (by first | assumption | exact Below.drew (by assumption)))))))
      rw [HHB.out]
      clear y0 y1 y2 y3 y4 y5 y6 y7 y8 wr1 wr2 m1 m2 hbc6 hb6 hb9 hz1' hz2' HN1 HN2 hidx hterm
      obtain ⟨y0, y1, y2, y3, y4, y5, y6, y7, y8⟩ := HS.out _ hbc9
      have hwe : Hid (entL (base + (i : Int) + 1) e = if e.kind = 0 then wordsL [headL (base + (i : Int) + 1) e.term, [110, 111, 110, 101]]
          else if e.kind = 1 then wordsL [headL (base + (i : Int) + 1) e.term, [99, 97, 108, 108], Lib.itoa e.client, Lib.itoa e.seq]
          else if e.kind = 2 then wordsL [headL (base + (i : Int) + 1) e.term, [99, 111, 110, 102], Lib.itoa e.full, Lib.itoa e.wit, Lib.itoa e.learn, Lib.itoa e.lw]
          else wordsL [headL (base + (i : Int) + 1) e.term, [63]]) := rfl
      obtain ⟨hd, hhd⟩ : ∃ hd, headL (base + (i : Int) + 1) e.term = hd := ⟨_, rfl⟩
      obtain ⟨ln, hln⟩ : ∃ ln, entL (base + (i : Int) + 1) e = ln := ⟨_, rfl⟩
      rw [hhd] at Hhd hwe
      rw [hln] at hwe Hls
      have z1 : ¬ 9223372036854775807 < HB.size + 5 := by omega
      have z2 : ¬ 9223372036854775807 < HB.size + 2 := by omega
      have hbq9 := bstep hbw5 hbc9
      have Hbq9 := Lib.hid hbq9
      have hS2 := rd_lits w9 [.int .i64 e.client, .int .i64 e.seq] 3 (by simp)
      have hS4 := rd_lits w9 [.int .i64 e.full, .int .i64 e.wit, .int .i64 e.learn, .int .i64 e.lw] 3 (by simp)
      have HS2 := Lib.hid hS2
      have HS4 := Lib.hid hS4
      clear hhd hln hbq9 hS2 hS4
      rcases Decidable.em (e.kind = 0) with hk0 | hk0
      case' inl =>
        have HE0 : Hid (HB ++ ⟨#[32, 110, 111, 110, 101]⟩ = (⟨ln.toArray⟩ : ByteArray)) := by
          unfold Hid
          rw [Hhd.out, hwe.out, if_pos hk0]
          exact ent_app0 _
        rw [hk0] at y2
        clear hk0 hwe
        have Hbz := Lib.hid (bstep hbw5 hbc9)
        have Hoz : Hid (OwnS w9 W1.heap.size u3 (logL base es i)) := own_below Ho2.out (bstep hb5 hbc9)
        have HRd : Hid (∀ w7 : World, Rd (w7.alloc (.cells #[.string (HB ++ ⟨#[32, 110, 111, 110, 101]⟩)] 9)) (w7.heap.size + 1) 1 (some ⟨w7.heap.size, 0, none⟩) 1 1 [sV ln]) := fun w7 => by
          rw [HE0.out]
          exact rd_one w7 _ _
        go_wp2_with (at_builtin
                     refine wpList_appS rfl (.tmp 75) (.tmp 77) rfl W1.heap.size u3 _ rfl (World.ownsRow.alloc Hoz.out _) (w9.heap.size + 1) w9.heap.size _ rfl (HRd.out w9) ?c1 ?c2 ?_
                     case c1 => rw [logL_len]; omega
                     case c2 => simp; have := Hbz.out.size; omega
                     intro v10 w10 ho10 hg10 ha10
                     have hbw10 : Below W1.heap.size W1 w10 := (Hbz.out.alloc Hbz.out.size _).grown hg10 (by simp; have := Hbz.out.size; omega) (fun q hq => (World.ownsRow.lt Hoz.out q hq).1)
                     have Ho10 := Lib.hid ho10
                     clear ho10 hg10 ha10)
        go_roundg (gk - 1)
      case' inr => rcases Decidable.em (e.kind = 1) with hk1 | hk1
      case' inr.inl =>
        have HE1 : Hid (HB ++ sayB ⟨#[32, 99, 97, 108, 108]⟩ [e.client, e.seq] = (⟨ln.toArray⟩ : ByteArray)) := by
          unfold Hid
          rw [Hhd.out, hwe.out, if_neg hk0, if_pos hk1]
          exact ent_app1 _ _ _
        have hin2 : ∀ c ∈ [e.client, e.seq], In64 c := by
          intro c hc
          have h := HEi.out
          simp at hc
          rcases hc with rfl | rfl
          · exact h.client
          · exact h.seq
        have hq := sayB_size ⟨#[32, 99, 97, 108, 108]⟩ [e.client, e.seq] hin2
        have hq2 : (sayB ⟨#[32, 99, 97, 108, 108]⟩ [e.client, e.seq]).size ≤ 100 := Nat.le_trans hq (by show 5 + 22 * 2 ≤ 100; decide)
        have Hin2 := Lib.hid hin2
        rw [hk1] at y2
        clear hk0 hk1 hwe hin2 hq
        go_wp2_with fail
        refine (HSay.out _ [e.client, e.seq] _ 2 2 _ (by
          have e1 : (w9.alloc (.cells #[.int .i64 e.client, .int .i64 e.seq] 3)).heap.size = w9.heap.size + 1 := by simp
          rw [e1]
          exact HS2.out) Hin2.out (by decide) (by decide) (Hbq9.out.alloc Hbq9.out.size _)).mono ?_
        rintro e9 wz ⟨rfl, hbz0⟩
        have hbz : Below w5.heap.size w5 wz := bstep (hbc9.alloc hbc9.size _) hbz0
        obtain ⟨Z, hZ⟩ : ∃ Z, sayB ⟨#[32, 99, 97, 108, 108]⟩ [e.client, e.seq] = Z := ⟨_, rfl⟩
        rw [hZ] at HE1 hq2 ⊢
        have z3 : ¬ 9223372036854775807 < HB.size + Z.size := by omega
        clear hZ
        have Hbz := Lib.hid (bstep hbw5 hbz)
        have Hoz : Hid (OwnS wz W1.heap.size u3 (logL base es i)) := own_below Ho2.out (bstep hb5 hbz)
        have HRd : Hid (∀ w7 : World, Rd (w7.alloc (.cells #[.string (HB ++ Z)] 9)) (w7.heap.size + 1) 1 (some ⟨w7.heap.size, 0, none⟩) 1 1 [sV ln]) := fun w7 => by
          rw [HE1.out]
          exact rd_one w7 _ _
        go_wp2_with (at_builtin
                     refine wpList_appS rfl (.tmp 75) (.tmp 77) rfl W1.heap.size u3 _ rfl (World.ownsRow.alloc Hoz.out _) (wz.heap.size + 1) wz.heap.size _ rfl (HRd.out wz) ?c1 ?c2 ?_
                     case c1 => rw [logL_len]; omega
                     case c2 => simp; have := Hbz.out.size; omega
                     intro v10 w10 ho10 hg10 ha10
                     have hbw10 : Below W1.heap.size W1 w10 := (Hbz.out.alloc Hbz.out.size _).grown hg10 (by simp; have := Hbz.out.size; omega) (fun q hq => (World.ownsRow.lt Hoz.out q hq).1)
                     have Ho10 := Lib.hid ho10
                     clear ho10 hg10 ha10)
        go_roundg (gk - 1)
      case' inr.inr => rcases Decidable.em (e.kind = 2) with hk2 | hk2
      case' inr.inr.inl =>
        have HE1 : Hid (HB ++ sayB ⟨#[32, 99, 111, 110, 102]⟩ [e.full, e.wit, e.learn, e.lw] = (⟨ln.toArray⟩ : ByteArray)) := by
          unfold Hid
          rw [Hhd.out, hwe.out, if_neg hk0, if_neg hk1, if_pos hk2]
          exact ent_app2 _ _ _ _ _
        have hin2 : ∀ c ∈ [e.full, e.wit, e.learn, e.lw], In64 c := by
          intro c hc
          have h := HEi.out
          simp at hc
          rcases hc with rfl | rfl | rfl | rfl
          · exact h.full
          · exact h.wit
          · exact h.learn
          · exact h.lw
        have hq := sayB_size ⟨#[32, 99, 111, 110, 102]⟩ [e.full, e.wit, e.learn, e.lw] hin2
        have hq2 : (sayB ⟨#[32, 99, 111, 110, 102]⟩ [e.full, e.wit, e.learn, e.lw]).size ≤ 100 := Nat.le_trans hq (by show 5 + 22 * 4 ≤ 100; decide)
        have Hin2 := Lib.hid hin2
        rw [hk2] at y2
        clear hk0 hk1 hk2 hwe hin2 hq
        go_wp2_with fail
        refine (HSay.out _ [e.full, e.wit, e.learn, e.lw] _ 4 4 _ (by
          have e1 : (w9.alloc (.cells #[.int .i64 e.full, .int .i64 e.wit, .int .i64 e.learn, .int .i64 e.lw] 3)).heap.size = w9.heap.size + 1 := by simp
          rw [e1]
          exact HS4.out) Hin2.out (by decide) (by decide) (Hbq9.out.alloc Hbq9.out.size _)).mono ?_
        rintro e9 wz ⟨rfl, hbz0⟩
        have hbz : Below w5.heap.size w5 wz := bstep (hbc9.alloc hbc9.size _) hbz0
        obtain ⟨Z, hZ⟩ : ∃ Z, sayB ⟨#[32, 99, 111, 110, 102]⟩ [e.full, e.wit, e.learn, e.lw] = Z := ⟨_, rfl⟩
        rw [hZ] at HE1 hq2 ⊢
        have z3 : ¬ 9223372036854775807 < HB.size + Z.size := by omega
        clear hZ
        have Hbz := Lib.hid (bstep hbw5 hbz)
        have Hoz : Hid (OwnS wz W1.heap.size u3 (logL base es i)) := own_below Ho2.out (bstep hb5 hbz)
        have HRd : Hid (∀ w7 : World, Rd (w7.alloc (.cells #[.string (HB ++ Z)] 9)) (w7.heap.size + 1) 1 (some ⟨w7.heap.size, 0, none⟩) 1 1 [sV ln]) := fun w7 => by
          rw [HE1.out]
          exact rd_one w7 _ _
        go_wp2_with (at_builtin
                     refine wpList_appS rfl (.tmp 75) (.tmp 77) rfl W1.heap.size u3 _ rfl (World.ownsRow.alloc Hoz.out _) (wz.heap.size + 1) wz.heap.size _ rfl (HRd.out wz) ?c1 ?c2 ?_
                     case c1 => rw [logL_len]; omega
                     case c2 => simp; have := Hbz.out.size; omega
                     intro v10 w10 ho10 hg10 ha10
                     have hbw10 : Below W1.heap.size W1 w10 := (Hbz.out.alloc Hbz.out.size _).grown hg10 (by simp; have := Hbz.out.size; omega) (fun q hq => (World.ownsRow.lt Hoz.out q hq).1)
                     have Ho10 := Lib.hid ho10
                     clear ho10 hg10 ha10)
        go_roundg (gk - 1)
      case' inr.inr.inr =>
        have HE0 : Hid (HB ++ ⟨#[32, 63]⟩ = (⟨ln.toArray⟩ : ByteArray)) := by
          unfold Hid
          rw [Hhd.out, hwe.out, if_neg hk0, if_neg hk1, if_neg hk2]
          exact ent_app3 _
        have g0 : (e.kind == 0) = false := by simpa using hk0
        have g1 : (e.kind == 1) = false := by simpa using hk1
        have g2 : (e.kind == 2) = false := by simpa using hk2
        clear hk0 hk1 hk2 hwe
        have Hbz := Lib.hid (bstep hbw5 hbc9)
        have Hoz : Hid (OwnS w9 W1.heap.size u3 (logL base es i)) := own_below Ho2.out (bstep hb5 hbc9)
        have HRd : Hid (∀ w7 : World, Rd (w7.alloc (.cells #[.string (HB ++ ⟨#[32, 63]⟩)] 9)) (w7.heap.size + 1) 1 (some ⟨w7.heap.size, 0, none⟩) 1 1 [sV ln]) := fun w7 => by
          rw [HE0.out]
          exact rd_one w7 _ _
        go_wp2_with (at_builtin
                     refine wpList_appS rfl (.tmp 75) (.tmp 77) rfl W1.heap.size u3 _ rfl (World.ownsRow.alloc Hoz.out _) (w9.heap.size + 1) w9.heap.size _ rfl (HRd.out w9) ?c1 ?c2 ?_
                     case c1 => rw [logL_len]; omega
                     case c2 => simp; have := Hbz.out.size; omega
                     intro v10 w10 ho10 hg10 ha10
                     have hbw10 : Below W1.heap.size W1 w10 := (Hbz.out.alloc Hbz.out.size _).grown hg10 (by simp; have := Hbz.out.size; omega) (fun q hq => (World.ownsRow.lt Hoz.out q hq).1)
                     have Ho10 := Lib.hid ho10
                     clear ho10 hg10 ha10)
        go_roundg (gk - 1)
      all_goals first
        | exact ⟨i + 1, by have := Hig.out; omega, by go_num, by rw [Hls.out]; exact Ho10.out, (fun h => by rw [HnB.out] at h; cases h), hbw10⟩
        | (have := Hig.out; omega)
    · obtain rfl : i = m := by omega
      cases hB : logB base
      · obtain rfl := Hnl.out hB
        have HF := Lib.hid (HNo.out hB)
        clear hB HNo HYes Ho
        go_wp2_with fail
        exact HF.out _ (hb1.trans (hbr.mono (by omega)))
      · have HF := Lib.hid (HYes.out hB)
        clear hB HNo HYes
        go_wp2_with fail
        exact HF.out _ _ (own_base Ho.out (by omega)) (hb1.trans (hbr.mono (by omega)))
end Go.Proofs.YtkckncggiicciaaDoor
/-
  The walks of skerrykeep.Bytes, Twin, SpoilBytes.
-/
namespace Go.Proofs.YtkckncggiicciaaDoor
open Go.RowKit
def TwinPost (w : World) (l : List UInt8) (e : Ending) (w' : World) : Prop := ∃ v, e = .returned v ∧ OwnB w' w.heap.size v l ∧ Below w.heap.size w w'
set_option maxHeartbeats 400000 in
theorem Twin_any (A : Option Addr) (n cap : Nat) (l : List UInt8) (w : World) (B : Nat) (hb : By w B A n cap l) (hn : n ≤ 140737488355328) :
    Calls Tryd.prog 63 #[.slice A n cap] w (TwinPost w l) := by
  go_enter Tryd.func63, Tryd.ntmps63
  go_wp2_with (
    (at_builtin
     refine wpList_appB rfl (.tmp 4) (.tmp 5) rfl w.heap.size (.slice none 0 0) [] rfl (World.ownsRow_nil _ _ _ _) B A n cap l rfl hb (by simp; omega) (Nat.le_refl _) ?_
     intro v' w' ho hg))
  go_ret
  exact ⟨v', rfl, ho, (Below.refl _ _).grown hg (Nat.le_refl _) (by intro k hk; simp [Value.ownBlock] at hk)⟩

set_option maxHeartbeats 800000 in
theorem Bytes_any (A A' : Option Addr) (n cap n' cap' : Nat) (l l' : List UInt8) (w : World) (B B' : Nat) (hb : By w B A n cap l) (hb' : By w B' A' n' cap' l') :
    Calls Tryd.prog 66 #[.slice A n cap, .slice A' n' cap'] w (Qt w (.bool (decide (l = l')))) := by
  have h1 : n ≤ 9223372036854775807 := by have := hb.2.1; have := hb.2.2.1; unfold maxLen at this; omega
  have h2 : n' ≤ 9223372036854775807 := by have := hb'.2.1; have := hb'.2.2.1; unfold maxLen at this; omega
  by_cases hne : n = n'
  case neg =>
    have hr : decide (l = l') = false := by
      have := hb.len; have := hb'.len
      simp only [decide_eq_false_iff_not]
      rintro rfl
      omega
    rw [hr]
    have hd : ((n : Int) != (n' : Int)) = true := by simp; omega
    clear hr hne
    go_enter Tryd.func66, Tryd.ntmps66
    go_wp2_with fail
    go_ret
    exact ⟨rfl, 0, rfl⟩
  subst hne
  have hd : ((n : Int) != (n : Int)) = false := by simp
  go_enter Tryd.func66, Tryd.ntmps66
  go_wp2_with fail
  go_loopg [5] n (fun m s5 wr => ∃ k : Nat, k + m = n ∧ s5 = .int .i64 k ∧ l.take k = l'.take k ∧ ∃ q, wr = w.drewN q)
  case atStart => exact ⟨0, by omega, rfl, rfl, 0, rfl⟩
  case round =>
    obtain ⟨k, hk, rfl, he, q, rfl⟩ := hrel
    have He := Lib.hid he
    clear he
    have Hk := Lib.hid hk
    have hkn : k ≤ n := by omega
    clear hk
    by_cases hlt : k < n
    · obtain ⟨b, off, c, rfl, hbB, hc, Hc⟩ := hb.step hlt
      obtain ⟨b', off', c', rfl, hbB', hc', Hc'⟩ := hb'.step hlt
      have hki : (k : Int) < (n : Int) := by omega
      have hk0 : (0 : Int) ≤ (k : Int) := by omega
      by_cases hcc : c = c'
      · have hx : ((c.toNat : Int) != (c'.toNat : Int)) = false := by simp [hcc]
        have Hcc := Lib.hid hcc
        clear hcc
        go_wp2_with fail
        go_quiet (fail)
        go_wp2_with fail
        go_roundg (gk - 1)
        case rel => exact ⟨k + 1, by have := Hk.out; omega, by go_num, by rw [Hc.out.2, Hc'.out.2, He.out, Hcc.out], _, rfl⟩
        case measure => have := Hk.out; omega
      · have hx : ((c.toNat : Int) != (c'.toNat : Int)) = true := by
          have : c.toNat ≠ c'.toNat := fun e => hcc (UInt8.toNat_inj.1 e)
          simp; omega
        have Hcc := Lib.hid hcc
        clear hcc
        go_wp2_with fail
        go_quiet (fail)
        go_wp2_with fail
        go_ret
        refine ⟨ret_bool ?_, _, World.drewN_drewN _ _ _⟩
        have hcc := Hcc.out
        have e1 := Hc.out.1
        have e2 := Hc'.out.1
        symm
        simp only [decide_eq_false_iff_not]
        rintro rfl
        rw [e1] at e2
        exact hcc (Option.some.inj e2)
    · go_wp2_with fail
      go_ret
      refine ⟨ret_bool ?_, _, rfl⟩
      have e1 : l.take k = l := List.take_of_length_le (by have := hb.len; omega)
      have e2 : l'.take k = l' := List.take_of_length_le (by have := hb'.len; omega)
      have := He.out
      rw [e1, e2] at this
      simp [this]

theorem Bytes_same (A A' : Option Addr) (n cap n' cap' : Nat) (l : List UInt8) (w : World) (B B' : Nat) (hb : By w B A n cap l) (hb' : By w B' A' n' cap' l) :
    Calls Tryd.prog 66 #[.slice A n cap, .slice A' n' cap'] w (Qt w (.bool true)) := by
  have h := Bytes_any A A' n cap n' cap' l l w B B' hb hb'
  rwa [show decide (l = l) = true by simp] at h
end Go.Proofs.YtkckncggiicciaaDoor
/-
  What skerrykeep says of two kept logs that are alike.
-/
namespace Go.Proofs.YtkckncggiicciaaDoor
open Go.RowKit
set_option maxRecDepth 100000
set_option maxHeartbeats 3200000 in
theorem kHard_self (h : Hd) (S S' : Option Addr) (sn sc sc' : Nat) (A A' : Option Addr) (m c c' : Nat) (sb : List UInt8) (es : List En) (w : World) (hs : By w w.heap.size S sn sc sb) (hs' : By w w.heap.size S' sn sc' sb)
    (he : EnRows w w.heap.size A m c es) (he' : EnRows w w.heap.size A' m c' es) (hl : es.length = m) :
    Calls Tryd.prog 41 #[.agg #[.int .i64 h.term, .int .i64 h.vote, .int .i64 h.base, .int .i64 h.bt, .int .i64 h.full, .int .i64 h.wit, .int .i64 h.learn, .int .i64 h.lw, .slice S sn sc, .slice A m c], .agg #[.int .i64 h.term, .int .i64 h.vote, .int .i64 h.base, .int .i64 h.bt, .int .i64 h.full, .int .i64 h.wit, .int .i64 h.learn, .int .i64 h.lw, .slice S' sn sc', .slice A' m c']] w
      fun e w' => e = .returned (.bool true) ∧ Below w.heap.size w w' := by
  obtain ⟨W2, hW2⟩ : ∃ W2, (w.alloc (.cells #[.int .i64 h.term, .int .i64 h.vote, .int .i64 h.base, .int .i64 h.bt, .int .i64 h.full, .int .i64 h.wit, .int .i64 h.learn, .int .i64 h.lw, .slice S sn sc, .slice A m c] 29)).alloc (.cells #[.int .i64 h.term, .int .i64 h.vote, .int .i64 h.base, .int .i64 h.bt, .int .i64 h.full, .int .i64 h.wit, .int .i64 h.learn, .int .i64 h.lw, .slice S' sn sc', .slice A' m c'] 29) = W2 := ⟨_, rfl⟩
  have hb2 : Below w.heap.size w W2 := by rw [← hW2]; exact two_below _ _ _
  have hz2 : W2.heap.size = w.heap.size + 2 := by rw [← hW2]; simp
  have hr0 : W2.heap[w.heap.size]? = some (.cells #[.int .i64 h.term, .int .i64 h.vote, .int .i64 h.base, .int .i64 h.bt, .int .i64 h.full, .int .i64 h.wit, .int .i64 h.learn, .int .i64 h.lw, .slice S sn sc, .slice A m c] 29 (0, 0)) := by
    rw [← hW2, Below.heap_alloc _ _ _ (by simp)]
    exact heap_alloc_new w _
  have hr1 : W2.heap[w.heap.size + 1]? = some (.cells #[.int .i64 h.term, .int .i64 h.vote, .int .i64 h.base, .int .i64 h.bt, .int .i64 h.full, .int .i64 h.wit, .int .i64 h.learn, .int .i64 h.lw, .slice S' sn sc', .slice A' m c'] 29 (0, 0)) := by
    rw [← hW2]
    exact heap_alloc2_new w _ _
  have Hrow : Hid (∀ w', Below W2.heap.size W2 w' → (w'.cell? ⟨w.heap.size, 8, none⟩ = some (.slice S sn sc) ∧ w'.cell? ⟨w.heap.size, 9, none⟩ = some (.slice A m c)) ∧ w'.cell? ⟨w.heap.size + 1, 8, none⟩ = some (.slice S' sn sc') ∧ w'.cell? ⟨w.heap.size + 1, 9, none⟩ = some (.slice A' m c')) := fun w' hb => by
    have q0 := (hb.block w.heap.size (by omega)).trans hr0
    have q1 := (hb.block (w.heap.size + 1) (by omega)).trans hr1
    exact ⟨⟨cell_of_row _ _ _ _ _ _ q0, cell_of_row _ _ _ _ _ _ q0⟩, cell_of_row _ _ _ _ _ _ q1, cell_of_row _ _ _ _ _ _ q1⟩
  have Hup : Hid (∀ w', Below W2.heap.size W2 w' → Below w.heap.size w w') := fun w' hb => hb2.trans (hb.mono (by omega))
  have HB : Hid (∀ w', Below W2.heap.size W2 w' → Calls Tryd.prog 66 #[.slice S sn sc, .slice S' sn sc'] w' fun e w'' => e = .returned (.bool true) ∧ Below w'.heap.size w' w'') := fun w' hb =>
    (Bytes_same S S' sn sc sn sc' sb w' w.heap.size w.heap.size (hs.below (Hup.out w' hb) (Nat.le_refl _)) (hs'.below (Hup.out w' hb) (Nat.le_refl _))).mono fun e w'' ⟨h1, q, h2⟩ => ⟨h1, by rw [h2]; exact below_drewN (Below.refl _ _) _⟩
  have HEn : Hid (∀ w', Below W2.heap.size W2 w' → Calls Tryd.prog 67 #[.slice A m c, .slice A' m c'] w' fun e w'' => e = .returned (.bool true) ∧ Below w'.heap.size w' w'') := fun w' hb =>
    kEntries_self A A' m c c' es w' ((Rd.below he (Hup.out w' hb) (Nat.le_refl _)).mono (Hup.out w' hb).size) ((Rd.below he' (Hup.out w' hb) (Nat.le_refl _)).mono (Hup.out w' hb).size) hl
  have HW2 := Lib.hid hW2
  have hbq : Below W2.heap.size W2 W2 := Below.refl _ _
  clear hW2 hr0 hr1 hs hs' he he' hl hz2
  go_enter Tryd.func41, Tryd.ntmps41
  go_wp2_with fail
  rw [HW2.out]
  refine (kConf_self _ _ _ _ _).mono ?_
  rintro e w3 ⟨rfl, hb3⟩
  have hbq3 := bstep hbq hb3
  obtain ⟨⟨y0, y1⟩, y2, y3⟩ := Hrow.out _ hbq3
  clear hb3 hbq
  go_wp2_with fail
  refine (HB.out _ hbq3).mono ?_
  rintro e w4 ⟨rfl, hb4⟩
  have hbq4 := bstep hbq3 hb4
  clear y0 y1 y2 y3 hb4
  obtain ⟨⟨y0, y1⟩, y2, y3⟩ := Hrow.out _ hbq4
  go_wp2_with fail
  refine (HEn.out _ hbq4).mono ?_
  rintro e w5 ⟨rfl, hb5⟩
  have hbq5 := bstep hbq4 hb5
  clear y0 y1 y2 y3 hb5
  go_wp2_with fail
  go_ret
  exact ⟨ret_bool (by simp), Hup.out _ hbq5⟩
end Go.Proofs.YtkckncggiicciaaDoor
/-
  The walks of skerrykeep's copies.
-/
namespace Go.Proofs.YtkckncggiicciaaDoor
open Go.RowKit
set_option maxRecDepth 100000
def zeroE : Value := .agg e0.cells.toArray
theorem info_ent : (Tryd.prog.info? 64).map (fun i => (i.zero, i.size, i.bytes)) = some (some zeroE, 16, 152) := by kernel_rfl
def OwnE (w : World) (base : Nat) (v : Value) (es : List En) : Prop := w.ownsRow base 64 16 v es.length (es.map En.cells).flatten
theorem ownE_rows {w : World} {base : Nat} {v : Value} {es : List En} (h : OwnE w base v es) {n : Nat} (hn : es.length = n) : ∃ A c, v = .slice A n c ∧ EnRows w w.heap.size A n c es := by
  subst hn
  exact Rd.of_own h
theorem ents_one (es : List En) : ∀ u ∈ (es.map En.cells).flatten, u.oneCell' = true := by
  intro u hu
  obtain ⟨x, hx, hux⟩ := List.mem_flatten.1 hu
  obtain ⟨e, _, rfl⟩ := List.mem_map.1 hx
  exact e.cells_one u hux
theorem wpList_appE {w : World} {ops : Array Oper} {rest : List Oper} {o : Oper} {a : Act} {Q : Exit → Act → World → Prop} (hgd : o.guard = none) (s x : Operand)
    (ho : o.op = .call { callee := .builtin .append, args := #[s, x], argTypes := #[27, 27] })
    (base : Nat) (hs : a.eval s = .slice none 0 0) (A : Option Addr) (m c : Nat) (es : List En) (hl : es.length = m) (hx : a.eval x = .slice A m c) (hr : EnRows w w.heap.size A m c es) (hm : m ≤ 1000) (hbase : base ≤ w.heap.size)
    (h : ∀ v' w', OwnE w' base v' es → w.grownBy w' none → wpList Tryd.prog ops Q rest (a.put o.dst v') w') : wpList Tryd.prog ops Q (o :: rest) a w := by
  obtain ⟨i0, hi, hz0, hz1, hz2⟩ := info_parts info_ent
  refine wpList_plain hgd fun _ hK => wp_appAt s x _ ho base 64 i0 zeroE 16 152 Tryd.underlying27 hi hz0 hz1 hz2 rfl (by omega) (.slice none 0 0) 0 [] hs (World.ownsRow_nil _ _ _ _) w.heap.size A m c _ hx hr (ents_one es) (by simp only [maxLen]; omega) (by omega) hbase ?_
  intro v' w' q1 q2 _ _
  refine hK _ _ (h v' w' ?_ q2)
  unfold OwnE
  rw [hl]
  simpa using q1
def TwinEPost (es : List En) (w : World) (e : Ending) (w' : World) : Prop := (∃ v, e = .returned v ∧ OwnE w' w.heap.size v es) ∧ Below w.heap.size w w'
set_option maxHeartbeats 800000 in
theorem TwinEntries_any (A : Option Addr) (m c : Nat) (es : List En) (w : World) (hy : EnRows w w.heap.size A m c es) (hl : es.length = m) (hm : m ≤ 1000) :
    Calls Tryd.prog 64 #[.slice A m c] w (TwinEPost es w) := by
  have Hl := Lib.hid hl
  clear hl
  go_enter Tryd.func64, Tryd.ntmps64
  go_wp2_with (
    (at_builtin
     refine wpList_appE rfl (.tmp 4) (.tmp 5) rfl w.heap.size rfl A m c es Hl.out rfl hy hm (Nat.le_refl _) ?_
     intro v' w' ho hg))
  go_ret
  exact ⟨⟨v', rfl, ho⟩, (Below.refl _ _).grown hg (Nat.le_refl _) (by intro k hk; cases hk)⟩
end Go.Proofs.YtkckncggiicciaaDoor
/-
  Heavy, with what it says of the snapshot; law 28's own heavy.
-/
namespace Go.Proofs.YtkckncggiicciaaDoor
open Go.RowKit
set_option maxRecDepth 100000
def HvPost2 (m sn : Nat) (w : World) (e : Ending) (w' : World) : Prop := (∃ hb : Bool, e = .returned (.bool hb) ∧ (hb = false → m ≤ 200 ∧ sn ≤ 32768)) ∧ Below w.heap.size w w'
set_option maxHeartbeats 1600000 in
theorem Heavy2_any (x : List Value) (base bt : Int) (A : Option Addr) (m c : Nat) (S : Option Addr) (sn sc : Nat) (es : List En) (w : World) (hx : HdAt x base bt A m c S sn sc) (hy : EnRows w w.heap.size A m c es) (hl : es.length = m) (hst : ∀ e ∈ es, e.Str) :
    Calls Tryd.prog 23 #[.agg x.toArray] w (HvPost2 m sn w) := by
  have hob := alloc_below w (.cells x.toArray 29)
  obtain ⟨W1, hW1⟩ : ∃ W1, w.alloc (.cells x.toArray 29) = W1 := ⟨_, rfl⟩
  rw [hW1] at hob
  have hrow : W1.heap[w.heap.size]? = some (.cells x.toArray 29 (0, 0)) := by rw [← hW1]; exact heap_alloc_new w _
  have hz1 : W1.heap.size = w.heap.size + 1 := by rw [← hW1]; simp
  have HH : Hid (Calls Tryd.prog 50 #[.slice A m c] W1 (HvPost m W1)) := HeavyEntries_any A m c es W1 ((Rd.below hy hob (Nat.le_refl _)).mono hob.size) hl hst
  have HP : Hid (∀ hb w', (hb = false → m ≤ 200 ∧ sn ≤ 32768) → Below w.heap.size w w' → HvPost2 m sn w (.returned (.bool hb)) w') := fun hb w' h1 h => ⟨⟨hb, rfl, h1⟩, h⟩
  have Hc : Hid (∀ w', Below W1.heap.size W1 w' → w'.cell? ⟨w.heap.size, 8, none⟩ = some (.slice S sn sc) ∧ w'.cell? ⟨w.heap.size, 9, none⟩ = some (.slice A m c)) := fun w' hb => by
    have q := (hb.block w.heap.size (by omega)).trans hrow
    exact ⟨cell_list q _ _ hx.snap, cell_list q _ _ hx.log⟩
  obtain ⟨J, hJ⟩ : ∃ J, HvPost2 m sn w = J := ⟨_, rfl⟩
  rw [hJ] at HP ⊢
  obtain ⟨y0, y1⟩ := Hc.out W1 (Below.refl _ _)
  have hx9 := hx.log
  have HW1 := Lib.hid hW1
  clear hW1 hJ hy hl hst hx hrow
  go_enter Tryd.func23, Tryd.ntmps23
  go_wp2_with fail
  rw [HW1.out]
  refine HH.out.mono ?_
  rintro e w2 ⟨⟨hb, rfl, hm⟩, hb2⟩
  obtain ⟨z0, z1⟩ := Hc.out w2 hb2
  have hbw := hob.trans (hb2.mono (by omega))
  have Hm := Lib.hid hm
  clear y0 y1 hb2 hx9 hm
  cases hb
  all_goals
    rcases Decidable.em (32768 < sn) with hbig | hbig
    all_goals
      go_wp2_with fail
      first
        | exact HP.out _ _ (fun h => by cases h) hbw
        | exact HP.out _ _ (fun h => by simp at h; omega) hbw
        | exact HP.out _ _ (fun _ => ⟨Hm.out (by trivial), by omega⟩) hbw
        | exact HP.out _ _ (fun _ => ⟨Hm.out, by omega⟩) hbw
end Go.Proofs.YtkckncggiicciaaDoor
/-
  The walk of skerrykeep.TwinHard.
-/
namespace Go.Proofs.YtkckncggiicciaaDoor
open Go.RowKit
set_option maxRecDepth 100000
theorem setRow_ne (w : World) (g k : Nat) (cs : Array Value) (h : k ≠ g) : (w.setRow g cs).heap[k]? = w.heap[k]? := by
  unfold World.setRow
  simp [Array.getElem?_modify, Ne.symm h]
theorem own_keep {w w' : World} {base : Nat} {e : TypeId} {size : Nat} {v : Value} {n : Nat} {xs : List Value} (h : w.ownsRow base e size v n xs) (hk : ∀ g, base ≤ g → g < w.heap.size → w'.heap[g]? = w.heap[g]?) : w'.ownsRow base e size v n xs := by
  obtain ⟨h1, h2 | ⟨g, cap, cur, e1, hb, hg, hr⟩⟩ := h
  · exact ⟨h1, .inl h2⟩
  · exact ⟨h1, .inr ⟨g, cap, cur, e1, hb, (hk g hb (Array.getElem?_eq_some_iff.1 hg).1).trans hg, hr⟩⟩
def zeroHd : Value := .agg (Hd.cells ⟨0, 0, 0, 0, 0, 0, 0, 0⟩ none 0 0 none 0 0).toArray
theorem info_hard : (Tryd.prog.info? 29).map (·.zero) = some (some zeroHd) := by kernel_rfl
def TwinHPost (x : List Value) (sn m : Nat) (sb : List UInt8) (es : List En) (w : World) (e : Ending) (w' : World) : Prop :=
  (∃ S' sc' A' c', e = .returned (.agg ((x.set 8 (.slice S' sn sc')).set 9 (.slice A' m c')).toArray) ∧ OwnB w' w.heap.size (.slice S' sn sc') sb ∧ OwnE w' w.heap.size (.slice A' m c') es) ∧ Below w.heap.size w w'
set_option maxHeartbeats 3200000 in
theorem TwinHard_any (x : List Value) (base bt : Int) (S : Option Addr) (sn sc : Nat) (A : Option Addr) (m c : Nat) (sb : List UInt8) (es : List En) (w : World) (hx : HdAt x base bt A m c S sn sc) (hs : By w w.heap.size S sn sc sb) (he : EnRows w w.heap.size A m c es) (hl : es.length = m) (hsn : sn ≤ 32768) (hm : m ≤ 1000) :
    Calls Tryd.prog 34 #[.agg x.toArray] w (TwinHPost x sn m sb es w) := by
  obtain ⟨W2, hW2⟩ : ∃ W2, (w.alloc (.cells x.toArray 29)).alloc (.cells #[.int .i64 0, .int .i64 0, .int .i64 0, .int .i64 0, .int .i64 0, .int .i64 0, .int .i64 0, .int .i64 0, .slice none 0 0, .slice none 0 0] 29) = W2 := ⟨_, rfl⟩
  have hb2 : Below w.heap.size w W2 := by rw [← hW2]; exact two_below _ _ _
  have hz2 : W2.heap.size = w.heap.size + 2 := by rw [← hW2]; simp
  have hr0 : W2.heap[w.heap.size]? = some (.cells x.toArray 29 (0, 0)) := by
    rw [← hW2, Below.heap_alloc _ _ _ (by simp)]
    exact heap_alloc_new w _
  have hr1 : W2.heap[w.heap.size + 1]? = some (.cells #[.int .i64 0, .int .i64 0, .int .i64 0, .int .i64 0, .int .i64 0, .int .i64 0, .int .i64 0, .int .i64 0, .slice none 0 0, .slice none 0 0] 29 (0, 0)) := by
    rw [← hW2]
    exact heap_alloc2_new w _ _
  have Hr1 := Lib.hid hr1
  have Hz2 := Lib.hid hz2
  clear hr1
  have Hsz : Hid ((Tryd.prog.info? 29).map (·.size) = some x.toArray.size) := by unfold Hid; rw [List.size_toArray, hx.len]; exact size10
  have Hsz2 : Hid ((Tryd.prog.info? 29).map (·.size) = some x.length) := by unfold Hid; rw [hx.len]; exact size10
  have Hx10 : Hid (x.length = 10) := hx.len
  have Hone : Hid (∀ v ∈ x, v.oneCell' = true) := hx.one
  have Hup : Hid (∀ w', Below W2.heap.size W2 w' → Below w.heap.size w w') := fun w' hb => hb2.trans (hb.mono (by omega))
  have HY : Hid (∀ w', Below W2.heap.size W2 w' → w'.cell? ⟨w.heap.size, 8, none⟩ = some (.slice S sn sc) ∧ w'.cell? ⟨w.heap.size, 9, none⟩ = some (.slice A m c)) := fun w' hb => by
    have q := (hb.block w.heap.size (by omega)).trans hr0
    exact ⟨cell_list q _ _ hx.snap, cell_list q _ _ hx.log⟩
  have Hsnap : Hid (x[8]? = some (.slice S sn sc)) := hx.snap
  have Hlog : Hid (x[9]? = some (.slice A m c)) := hx.log
  have Hs := Lib.hid hs
  have He := Lib.hid he
  have Hl := Lib.hid hl
  have Hsl : Hid (sb.length = sn) := hs.len
  have HW2 := Lib.hid hW2
  have Hr0 := Lib.hid hr0
  clear hW2 hr0 hz2 hx hs he hl
  go_enter Tryd.func34, Tryd.ntmps34
  go_wp2_with (first
    | (refine wpList_load_row rfl 29 (.tmp 1) rfl w.heap.size rfl 29 x.toArray (0, 0) _ (by first | exact Hr0.out | (rw [Below.heap_alloc _ _ _ (by simp)]; exact heap_alloc_new w _)) Tryd.underlying29 rfl Hsz.out ?_; rw [HW2.out])
    | (refine wpList_store_local rfl 29 (.tmp 3) _ rfl x rfl rfl Hsz2.out ?zz Hone.out ?_
       case zz => exact Hx10.out.symm
       intro w5 q5 hb5 hz5
       have Q5 := Lib.hid q5
       have Hz5 := Lib.hid hz5
       clear q5 hz5
       obtain ⟨y8, y9⟩ := HY.out _ hb5))
  have hbw5 : Below w.heap.size w w5 := Hup.out _ hb5
  refine (Twin_any S sn sc sb w5 w.heap.size (Hs.out.below hbw5 (Nat.le_refl _)) (by omega)).mono ?_
  rintro e w6 ⟨v6, rfl, ho6, hb6⟩
  have hrow6 : w6.heap[W2.heap.size]? = some (.cells x.toArray 29 (0, 0)) := (hb6.block _ (by have := Hz5.out; omega)).trans Q5.out
  have z8 : w6.cell? ⟨W2.heap.size, 8, none⟩ = some (.slice S sn sc) := cell_list hrow6 _ _ Hsnap.out
  have f8 : w6.frozen? ⟨W2.heap.size, 8, none⟩ = false := frozen_of_row _ _ _ _ _ hrow6
  have hbq6 := bstep hb5 hb6
  have Hrow6 := Lib.hid hrow6
  obtain ⟨S', sc', rfl, hs6⟩ := own_by ho6 (n := sn) Hsl.out
  obtain ⟨y8', y9'⟩ := HY.out _ hbq6
  clear y8 y9 hrow6
  go_wp2_with fail
  obtain ⟨W7, hW7⟩ : ∃ W7, w6.setCell ⟨W2.heap.size, 8, none⟩ (.slice S' sn sc') = W7 := ⟨_, rfl⟩
  have hb7 : Below W2.heap.size W2 W7 := by rw [← hW7]; exact hbq6.setCell (Nat.le_refl _) _
  have ho7 : OwnB W7 w5.heap.size (.slice S' sn sc') sb := by
    rw [← hW7]
    exact ownsRow_setCell_below ho6 (by have := Hz5.out; show W2.heap.size < _; omega) _
  have hrow7 : W7.heap[W2.heap.size]? = some (.cells (x.set 8 (.slice S' sn sc')).toArray 29 (0, 0)) := by
    rw [← hW7, heap_setCell_same _ _ _ _ _ _ Hrow6.out, List.setIfInBounds_toArray]
  have hz7 : w5.heap.size ≤ W7.heap.size := by
    rw [← hW7]
    have := hb6.size
    simpa [World.setCell] using this
  rw [hW7]
  clear hW7 z8 f8 y8' y9' hs6 ho6
  have Ho7 := Lib.hid ho7
  have Hz7 := Lib.hid hz7
  refine (TwinEntries_any A m c es W7 ((Rd.below He.out (Hup.out _ hb7) (Nat.le_refl _)).mono (Hup.out _ hb7).size) Hl.out hm).mono ?_
  rintro e w8 ⟨⟨v8, rfl, ho8⟩, hb8⟩
  have hrow8 : w8.heap[W2.heap.size]? = some (.cells (x.set 8 (.slice S' sn sc')).toArray 29 (0, 0)) := (hb8.block _ (by have := Hz5.out; have := Hz7.out; omega)).trans hrow7
  have z9 : w8.cell? ⟨W2.heap.size, 9, none⟩ = some (.slice A m c) := cell_list hrow8 _ _ (by rw [List.getElem?_set_ne (by decide)]; exact Hlog.out)
  have f9 : w8.frozen? ⟨W2.heap.size, 9, none⟩ = false := frozen_of_row _ _ _ _ _ hrow8
  obtain ⟨A', c', rfl, _⟩ := ownE_rows ho8 Hl.out
  have hb8q := bstep hb7 hb8
  have Hrow8 := Lib.hid hrow8
  have Ho8 := Lib.hid ho8
  clear hrow7 hrow8 ho7 hz7 ho8
  obtain ⟨W9, hW9⟩ : ∃ W9, w8.setCell ⟨W2.heap.size, 9, none⟩ (.slice A' m c') = W9 := ⟨_, rfl⟩
  have hb9 : Below W2.heap.size W2 W9 := by rw [← hW9]; exact hb8q.setCell (Nat.le_refl _) _
  obtain ⟨xc, hxc⟩ : ∃ xc, (x.set 8 (.slice S' sn sc')).set 9 (.slice A' m c') = xc := ⟨_, rfl⟩
  have hxl : xc.length = 10 := by rw [← hxc, List.length_set, List.length_set]; exact Hx10.out
  have hrow9 : W9.heap[W2.heap.size]? = some (.cells xc.toArray 29 (0, 0)) := by
    rw [← hW9, heap_setCell_same _ _ _ _ _ _ Hrow8.out, List.setIfInBounds_toArray, hxc]
  have HW9 := Lib.hid hW9
  have Hrow9 : Hid ((w8.setCell ⟨W2.heap.size, 9, none⟩ (.slice A' m c')).heap[W2.heap.size]? = some (.cells xc.toArray 29 (0, 0))) := by rw [hW9]; exact hrow9
  have Hz9 : Hid (W9.heap[w.heap.size + 1]? = some (.cells #[.int .i64 0, .int .i64 0, .int .i64 0, .int .i64 0, .int .i64 0, .int .i64 0, .int .i64 0, .int .i64 0, .slice none 0 0, .slice none 0 0] 29 (0, 0))) := (hb9.block _ (by have := Hz2.out; omega)).trans Hr1.out
  have Hsz3 : Hid ((Tryd.prog.info? 29).map (·.size) = some xc.toArray.size) := by unfold Hid; rw [List.size_toArray, hxl]; exact size10
  have Hone3 : Hid (∀ u ∈ xc, u.oneCell' = true) := fun u hu => by
    rw [← hxc] at hu
    rcases List.mem_or_eq_of_mem_set hu with h | rfl
    · rcases List.mem_or_eq_of_mem_set h with h | rfl
      · exact Hone.out u h
      · rfl
    · rfl
  have Hxl : Hid (xc.length = 10) := hxl
  clear hW9 hrow9 hxl
  have Hsz4 : Hid (10 = xc.toArray.size) := by unfold Hid; rw [List.size_toArray, Hxl.out]
  go_wp2_with (first
    | (refine wpList_load_row rfl 29 (.tmp 3) rfl W2.heap.size rfl 29 xc.toArray (0, 0) _ Hrow9.out Tryd.underlying29 rfl Hsz3.out ?_; rw [HW9.out])
    | (refine wpList_store_row rfl 29 (.tmp 2) (.tmp 13) rfl (w.heap.size + 1) xc.toArray rfl rfl 29 #[.int .i64 0, .int .i64 0, .int .i64 0, .int .i64 0, .int .i64 0, .int .i64 0, .int .i64 0, .int .i64 0, .slice none 0 0, .slice none 0 0] Hz9.out Hsz3.out Hsz4.out (all_one Hone3.out) ?_))
  have hxe := hxc
  have hb10 : Below w.heap.size w (W9.setRow (w.heap.size + 1) xc.toArray) := below_setRow (Hup.out _ hb9) (by omega) _
  have hkeep : ∀ g, w5.heap.size ≤ g → g < w8.heap.size → (W9.setRow (w.heap.size + 1) xc.toArray).heap[g]? = w8.heap[g]? := fun g h1 _ => by
    have a1 := Hz5.out
    have a2 := Hz2.out
    rw [setRow_ne _ _ _ _ (by omega), ← HW9.out]
    exact Below.heap_setCell _ _ _ _ (by show g ≠ W2.heap.size; omega)
  have o1 : OwnB (W9.setRow (w.heap.size + 1) xc.toArray) w5.heap.size (.slice S' sn sc') sb := own_keep (own_below Ho7.out hb8) hkeep
  have o2 : OwnE (W9.setRow (w.heap.size + 1) xc.toArray) W7.heap.size (.slice A' m c') es := own_keep Ho8.out (fun g h1 h2 => hkeep g (by have := Hz7.out; omega) h2)
  obtain ⟨S1, sc1, e1, p1⟩ := own_by o1 (n := sn) Hsl.out
  obtain ⟨A1, c1, e2, p2⟩ := ownE_rows o2 Hl.out
  injection e1 with e3 _ e4
  injection e2 with e5 _ e6
  subst e3 e4 e5 e6
  refine bodyPost_ret (results_cell_row Tryd.results34 _ _ (w.heap.size + 1) _ xc.toArray (0, 0) _ rfl (setRow_heap _ _ _ _ _ _ Hz9.out) Tryd.underlying29 rfl Hsz3.out) rfl ?_
  exact ⟨⟨_, _, _, _, by rw [hxe], own_base o1 (by have := Hz5.out; have := Hz2.out; omega), own_base o2 (by have := Hz7.out; have := Hz5.out; have := Hz2.out; omega)⟩, hb10⟩
end Go.Proofs.YtkckncggiicciaaDoor
/-
  What skerrykeep says of two rows of seven, of two lists of reads, that are alike.
-/
namespace Go.Proofs.YtkckncggiicciaaDoor
open Go.RowKit
set_option maxRecDepth 100000
def sevenC (x : Nat → Int) : List Value := [.int .i64 (x 0), .int .i64 (x 1), .int .i64 (x 2), .int .i64 (x 3), .int .i64 (x 4), .int .i64 (x 5), .int .i64 (x 6)]
theorem sevenC_at (x : Nat → Int) {i : Nat} (h : i < 7) : (sevenC x)[i]? = some (.int .i64 (x i)) := by
  match i, h with
  | 0, _ | 1, _ | 2, _ | 3, _ | 4, _ | 5, _ | 6, _ => rfl
set_option maxHeartbeats 1600000 in
theorem nodes_self (x : Nat → Int) (w : World) : Calls Tryd.prog 42 #[.agg #[.int .i64 (x 0), .int .i64 (x 1), .int .i64 (x 2), .int .i64 (x 3), .int .i64 (x 4), .int .i64 (x 5), .int .i64 (x 6)], .agg #[.int .i64 (x 0), .int .i64 (x 1), .int .i64 (x 2), .int .i64 (x 3), .int .i64 (x 4), .int .i64 (x 5), .int .i64 (x 6)]] w
    fun e w' => e = .returned (.bool true) ∧ Below w.heap.size w w' := by
  obtain ⟨W2, hW2⟩ : ∃ W2, (w.alloc (.cells #[.int .i64 (x 0), .int .i64 (x 1), .int .i64 (x 2), .int .i64 (x 3), .int .i64 (x 4), .int .i64 (x 5), .int .i64 (x 6)] 30)).alloc (.cells #[.int .i64 (x 0), .int .i64 (x 1), .int .i64 (x 2), .int .i64 (x 3), .int .i64 (x 4), .int .i64 (x 5), .int .i64 (x 6)] 30) = W2 := ⟨_, rfl⟩
  have hb2 : Below w.heap.size w W2 := by rw [← hW2]; exact two_below _ _ _
  have hz2 : W2.heap.size = w.heap.size + 2 := by rw [← hW2]; simp
  have hr0 : W2.heap[w.heap.size]? = some (.cells (sevenC x).toArray 30 (0, 0)) := by
    rw [← hW2, Below.heap_alloc _ _ _ (by simp)]
    exact heap_alloc_new w _
  have hr1 : W2.heap[w.heap.size + 1]? = some (.cells (sevenC x).toArray 30 (0, 0)) := by
    rw [← hW2]
    exact heap_alloc2_new w _ _
  have HC : Hid (∀ w' (i : Nat), i < 7 → Below W2.heap.size W2 w' → w'.cell? ⟨w.heap.size, i, none⟩ = some (.int .i64 (x i)) ∧ w'.cell? ⟨w.heap.size + 1, i, none⟩ = some (.int .i64 (x i))) := fun w' i hi hb => by
    have q0 := (hb.block w.heap.size (by omega)).trans hr0
    have q1 := (hb.block (w.heap.size + 1) (by omega)).trans hr1
    exact ⟨cell_list q0 _ _ (sevenC_at x hi), cell_list q1 _ _ (sevenC_at x hi)⟩
  have Hup : Hid (∀ w', Below W2.heap.size W2 w' → Below w.heap.size w w') := fun w' hb => hb2.trans (hb.mono (by omega))
  have HW2 := Lib.hid hW2
  clear hW2 hr0 hr1 hz2
  go_enter Tryd.func42, Tryd.ntmps42
  go_wp2_with fail
  rw [HW2.out]
  go_loopg [5] 7 (fun g s5 wr => ∃ i : Nat, i + g = 7 ∧ s5 = .int .i64 i ∧ Below W2.heap.size W2 wr)
  case atStart => exact ⟨0, by omega, rfl, Below.refl _ _⟩
  case round =>
    obtain ⟨i, hig, rfl, hbr⟩ := hrel
    have Hig := Lib.hid hig
    have hin : i ≤ 7 := by omega
    clear hig
    by_cases hlt : i < 7
    · obtain ⟨y0, y1⟩ := HC.out wr i hlt hbr
      have i0 : (0 : Int) ≤ (i : Int) := by omega
      have i1 : (i : Int) < 7 := by omega
      obtain ⟨xi, hxi⟩ : ∃ xi, x i = xi := ⟨_, rfl⟩
      rw [hxi] at y0 y1
      clear hxi
      have hd : (xi != xi) = false := by simp
      go_wp2_with fail
      go_quiet (fail)
      go_wp2_with fail
      go_roundg (gk - 1)
      case rel => exact ⟨i + 1, by have := Hig.out; omega, by go_num, (by first | exact hbr | exact below_drewN hbr _)⟩
      case measure => have := Hig.out; omega
    · obtain rfl : i = 7 := by omega
      go_wp2_with fail
      go_ret
      exact ⟨rfl, Hup.out _ hbr⟩
end Go.Proofs.YtkckncggiicciaaDoor
/-
  What skerrykeep says of two lists of reads that are alike.
-/
namespace Go.Proofs.YtkckncggiicciaaDoor
open Go.RowKit
set_option maxRecDepth 100000
/-- A read that waits. -/
structure Rq where
  cl : Int
  sq : Int
  k : Int
  y : ByteArray
  ok : Int
  ox : Nat
  os : ByteArray
  vk : Int
  vx : Nat
  vs : ByteArray
  ix : Int
  ro : Int
  ac : Int
def Rq.call (r : Rq) : List Value := [.int .i64 r.cl, .int .i64 r.sq, .int .i64 r.k, .string r.y, .int .i64 r.ok, .float .f64 r.ox, .string r.os, .int .i64 r.vk, .float .f64 r.vx, .string r.vs]
def Rq.cells (r : Rq) : List Value := [.int .i64 r.cl, .int .i64 r.sq, .int .i64 r.k, .string r.y, .int .i64 r.ok, .float .f64 r.ox, .string r.os, .int .i64 r.vk, .float .f64 r.vx, .string r.vs, .int .i64 r.ix, .int .i64 r.ro, .int .i64 r.ac]
def rq0 : Rq := ⟨0, 0, 0, ⟨#[]⟩, 0, 0, ⟨#[]⟩, 0, 0, ⟨#[]⟩, 0, 0, 0⟩
theorem size10c : (Tryd.prog.info? 62).map (·.size) = some 10 := by kernel_rfl
def RqRows (w : World) (B : Nat) (A : Option Addr) (n c : Nat) (rs : List Rq) : Prop := Rd w B 13 A n c (rs.map Rq.cells).flatten
theorem rq_row {w : World} {B n c : Nat} {A : Option Addr} {rs : List Rq} (h : RqRows w B A n c rs) (hl : rs.length = n) {k : Nat} (hk : k < n) :
    ∃ b off r, A = some ⟨b, off, none⟩ ∧ b < B ∧ rs.getD k rq0 = r ∧ w.rangeAt b (off + k * 13) (Rq.cells r) := by
  obtain ⟨b, off, x, h1, h2, h3, h4, h5⟩ := rd_row (xss := rs.map Rq.cells) h (fun x hx => by
    obtain ⟨e, _, rfl⟩ := List.mem_map.1 hx
    rfl) (by rw [List.length_map]; exact hl) hk
  rw [List.getElem?_map] at h3
  cases hq : rs[k]? with
  | none => rw [hq] at h3; cases h3
  | some e =>
    rw [hq] at h3
    injection h3 with h3
    subst h3
    exact ⟨b, off, e, h1, h2, by simp [List.getD, hq], h5⟩
theorem call_range {w : World} {b o : Nat} {r : Rq} (h : w.rangeAt b o r.cells) : w.rangeAt b o r.call := fun j v hj => by
  refine h j v ?_
  have hj10 : j < 10 := (List.getElem?_eq_some_iff.1 hj).1
  rw [← hj]
  match j, hj10 with
  | 0, _ | 1, _ | 2, _ | 3, _ | 4, _ | 5, _ | 6, _ | 7, _ | 8, _ | 9, _ => rfl
set_option maxHeartbeats 6400000 in
theorem kReads_self (A A' : Option Addr) (m c c' : Nat) (rs : List Rq) (w : World) (h1 : RqRows w w.heap.size A m c rs) (h2 : RqRows w w.heap.size A' m c' rs) (hl : rs.length = m) :
    Calls Tryd.prog 43 #[.slice A m c, .slice A' m c'] w fun e w' => e = .returned (.bool true) ∧ Below w.heap.size w w' := by
  have hc1 : m ≤ c := h1.2.1
  have hc2 : m ≤ c' := h2.2.1
  have hmx : c ≤ maxLen := h1.2.2.1
  unfold maxLen at hmx
  have HE : Hid (∀ i, i < m → ∃ b off b' off', ∃ r : Rq, A = some ⟨b, off, none⟩ ∧ A' = some ⟨b', off', none⟩ ∧ b < w.heap.size ∧ b' < w.heap.size ∧ w.rangeAt b (off + i * 13) r.cells ∧ w.rangeAt b' (off' + i * 13) r.cells) := fun i hi => by
    obtain ⟨b, off, e, q1, q2, q4, q6⟩ := rq_row h1 hl hi
    obtain ⟨b', off', e', p1, p2, p4, p6⟩ := rq_row h2 hl hi
    rw [q4] at p4
    subst p4
    exact ⟨b, off, b', off', e, q1, p1, q2, p2, q6, p6⟩
  have hd : ((m : Int) != (m : Int)) = false := by simp
  clear h1 h2 hl
  go_enter Tryd.func43, Tryd.ntmps43
  go_wp2_with fail
  go_loopg [5] m (fun g s5 wr => ∃ i : Nat, i + g = m ∧ s5 = .int .i64 i ∧ Below w.heap.size w wr)
  case atStart => exact ⟨0, by omega, rfl, Below.refl _ _⟩
  case round =>
    obtain ⟨i, hig, rfl, hbr⟩ := hrel
    have Hig := Lib.hid hig
    have hin : i ≤ m := by omega
    clear hig
    by_cases hlt : i < m
    · obtain ⟨b, off, b', off', r, rfl, rfl, hb, hb', y0, y1⟩ := HE.out i hlt
      have v0 := range_below y0 hbr hb
      have v1 := range_below y1 hbr hb'
      have x0 := Lib.hid (call_range v0)
      have x1 := Lib.hid (call_range v1)
      have r0 := cell_regrown (v0 10 _ rfl)
      have r1 := cell_regrown (v0 11 _ rfl)
      have r2 := cell_regrown (v0 12 _ rfl)
      have q0 := cell_regrown (v1 10 _ rfl)
      have q1 := cell_regrown (v1 11 _ rfl)
      have q2 := cell_regrown (v1 12 _ rfl)
      have z0 : b < wr.heap.size := Nat.lt_of_lt_of_le hb hbr.size
      have z1 : b' < wr.heap.size := Nat.lt_of_lt_of_le hb' hbr.size
      have HC : Hid (∀ w', Calls Tryd.prog 68 #[.agg r.call.toArray, .agg r.call.toArray] w' fun e' w'' => e' = .returned (.bool true) ∧ Below w'.heap.size w' w'') := fun w' => kCall_self _ _ _ _ _ _ _ _ _ _ w'
      obtain ⟨rx, hrx⟩ : ∃ rx, r.ix = rx := ⟨_, rfl⟩
      obtain ⟨ro, hro⟩ : ∃ ro, r.ro = ro := ⟨_, rfl⟩
      obtain ⟨ra, hra⟩ : ∃ ra, r.ac = ra := ⟨_, rfl⟩
      rw [hrx] at r0 q0
      rw [hro] at r1 q1
      rw [hra] at r2 q2
      have d0 : (rx != rx) = false := by simp
      have d1 : (ro != ro) = false := by simp
      have d2 : (ra != ra) = false := by simp
      have i0 : (0 : Int) ≤ (i : Int) := by omega
      have i1 : (i : Int) < (m : Int) := by omega
      clear y0 y1 HE v0 v1 hrx hro hra
      go_wp2_with fail
      with_reducible refine wp_region_quiet_below (by kernel_rfl) (by kernel_rfl) ?_
      iterate 4 (with_reducible refine wpQuiet_step ?_; intro K hK; go_simp; with_reducible refine hK _ ?_; clear hK K)
      with_reducible refine wpQuiet_step ?_
      intro K hK
      refine quiet_load_mid rfl 62 (.tmp 20) rfl b (off + i * 13) rfl r.call _ x0.out z0 Tryd.underlying62 rfl size10c (hK _ ?_)
      clear hK
      iterate 4 (with_reducible refine wpQuiet_step ?_; intro K hK; go_simp; with_reducible refine hK _ ?_; clear hK K)
      with_reducible refine wpQuiet_step ?_
      intro K hK
      refine quiet_load_mid rfl 62 (.tmp 25) rfl b' (off' + i * 13) rfl r.call _ x1.out z1 Tryd.underlying62 rfl size10c (hK _ ?_)
      clear hK
      with_reducible refine wpQuiet_step ?_
      intro K hK
      go_simp
      apply Exists.intro
      with_reducible refine ⟨fun _ => ?_, hK _ ?_⟩
      with_reducible exact Calls.regrown_of (HC.out _)
      clear hK
      repeat (with_reducible refine wpQuiet_step ?_; intro K hK; go_simp; with_reducible refine hK _ ?_; clear hK K)
      with_reducible refine wpQuiet_nil ?_
      intro w9 hw9
      have hbn : Below w.heap.size w w9 := hbr.trans (by
        obtain ⟨⟨dq, osq⟩, hw''⟩ := hw9
        rw [hw'']
        exact (below_regrown _ _ _).mono hbr.size)
      clear hw9
      go_wp2_with fail
      go_roundg (gk - 1)
      case rel => exact ⟨i + 1, by have := Hig.out; omega, by go_num, hbn⟩
      case measure => have := Hig.out; omega
    · obtain rfl : i = m := by omega
      clear HE
      go_wp2_with fail
      go_ret
      exact ⟨rfl, hbr⟩
end Go.Proofs.YtkckncggiicciaaDoor
/-
  What skerrykeep says of two replicas that are alike but for where their slices lie; written by genraft.py.
-/
namespace Go.Proofs.YtkckncggiicciaaDoor
open Go.RowKit
set_option maxRecDepth 100000
/-- A replica, all but its slices. -/
structure Rf where
  id : Int
  h : Hd
  commit : Int
  role : Int
  lead : Int
  wait : Int
  quiet : Int
  votes : Int
  round : Int
  next : Nat → Int
  mat : Nat → Int
  silent : Nat → Int
/-- Its cells. -/
def Rf.cells (r : Rf) (S : Option Addr) (sn sc : Nat) (A : Option Addr) (m c : Nat) (R : Option Addr) (rn rc : Nat) : List Value := [.int .i64 r.id, .int .i64 r.h.term, .int .i64 r.h.vote, .int .i64 r.h.base, .int .i64 r.h.bt, .int .i64 r.h.full, .int .i64 r.h.wit, .int .i64 r.h.learn, .int .i64 r.h.lw, .slice S sn sc, .slice A m c, .int .i64 r.commit, .int .i64 r.role, .int .i64 r.lead, .int .i64 r.wait, .int .i64 r.quiet, .int .i64 r.votes, .int .i64 r.round, .int .i64 (r.next 0), .int .i64 (r.next 1), .int .i64 (r.next 2), .int .i64 (r.next 3), .int .i64 (r.next 4), .int .i64 (r.next 5), .int .i64 (r.next 6), .int .i64 (r.mat 0), .int .i64 (r.mat 1), .int .i64 (r.mat 2), .int .i64 (r.mat 3), .int .i64 (r.mat 4), .int .i64 (r.mat 5), .int .i64 (r.mat 6), .int .i64 (r.silent 0), .int .i64 (r.silent 1), .int .i64 (r.silent 2), .int .i64 (r.silent 3), .int .i64 (r.silent 4), .int .i64 (r.silent 5), .int .i64 (r.silent 6), .slice R rn rc]
set_option maxHeartbeats 12800000 in
theorem kRaft_self (r : Rf) (S S' : Option Addr) (sn sc sc' : Nat) (A A' : Option Addr) (m c c' : Nat) (R R' : Option Addr) (rn rc rc' : Nat) (sb : List UInt8) (es : List En) (qs : List Rq) (w : World) (hs : By w w.heap.size S sn sc sb) (hs' : By w w.heap.size S' sn sc' sb)
    (he : EnRows w w.heap.size A m c es) (he' : EnRows w w.heap.size A' m c' es) (hl : es.length = m) (hq : RqRows w w.heap.size R rn rc qs) (hq' : RqRows w w.heap.size R' rn rc' qs) (hql : qs.length = rn) :
    Calls Tryd.prog 18 #[.agg #[.int .i64 r.id, .int .i64 r.h.term, .int .i64 r.h.vote, .int .i64 r.h.base, .int .i64 r.h.bt, .int .i64 r.h.full, .int .i64 r.h.wit, .int .i64 r.h.learn, .int .i64 r.h.lw, .slice S sn sc, .slice A m c, .int .i64 r.commit, .int .i64 r.role, .int .i64 r.lead, .int .i64 r.wait, .int .i64 r.quiet, .int .i64 r.votes, .int .i64 r.round, .int .i64 (r.next 0), .int .i64 (r.next 1), .int .i64 (r.next 2), .int .i64 (r.next 3), .int .i64 (r.next 4), .int .i64 (r.next 5), .int .i64 (r.next 6), .int .i64 (r.mat 0), .int .i64 (r.mat 1), .int .i64 (r.mat 2), .int .i64 (r.mat 3), .int .i64 (r.mat 4), .int .i64 (r.mat 5), .int .i64 (r.mat 6), .int .i64 (r.silent 0), .int .i64 (r.silent 1), .int .i64 (r.silent 2), .int .i64 (r.silent 3), .int .i64 (r.silent 4), .int .i64 (r.silent 5), .int .i64 (r.silent 6), .slice R rn rc], .agg #[.int .i64 r.id, .int .i64 r.h.term, .int .i64 r.h.vote, .int .i64 r.h.base, .int .i64 r.h.bt, .int .i64 r.h.full, .int .i64 r.h.wit, .int .i64 r.h.learn, .int .i64 r.h.lw, .slice S' sn sc', .slice A' m c', .int .i64 r.commit, .int .i64 r.role, .int .i64 r.lead, .int .i64 r.wait, .int .i64 r.quiet, .int .i64 r.votes, .int .i64 r.round, .int .i64 (r.next 0), .int .i64 (r.next 1), .int .i64 (r.next 2), .int .i64 (r.next 3), .int .i64 (r.next 4), .int .i64 (r.next 5), .int .i64 (r.next 6), .int .i64 (r.mat 0), .int .i64 (r.mat 1), .int .i64 (r.mat 2), .int .i64 (r.mat 3), .int .i64 (r.mat 4), .int .i64 (r.mat 5), .int .i64 (r.mat 6), .int .i64 (r.silent 0), .int .i64 (r.silent 1), .int .i64 (r.silent 2), .int .i64 (r.silent 3), .int .i64 (r.silent 4), .int .i64 (r.silent 5), .int .i64 (r.silent 6), .slice R' rn rc']] w fun e w' => e = .returned (.bool true) ∧ Below w.heap.size w w' := by
  obtain ⟨W2, hW2⟩ : ∃ W2, (w.alloc (.cells #[.int .i64 r.id, .int .i64 r.h.term, .int .i64 r.h.vote, .int .i64 r.h.base, .int .i64 r.h.bt, .int .i64 r.h.full, .int .i64 r.h.wit, .int .i64 r.h.learn, .int .i64 r.h.lw, .slice S sn sc, .slice A m c, .int .i64 r.commit, .int .i64 r.role, .int .i64 r.lead, .int .i64 r.wait, .int .i64 r.quiet, .int .i64 r.votes, .int .i64 r.round, .int .i64 (r.next 0), .int .i64 (r.next 1), .int .i64 (r.next 2), .int .i64 (r.next 3), .int .i64 (r.next 4), .int .i64 (r.next 5), .int .i64 (r.next 6), .int .i64 (r.mat 0), .int .i64 (r.mat 1), .int .i64 (r.mat 2), .int .i64 (r.mat 3), .int .i64 (r.mat 4), .int .i64 (r.mat 5), .int .i64 (r.mat 6), .int .i64 (r.silent 0), .int .i64 (r.silent 1), .int .i64 (r.silent 2), .int .i64 (r.silent 3), .int .i64 (r.silent 4), .int .i64 (r.silent 5), .int .i64 (r.silent 6), .slice R rn rc] 33)).alloc (.cells #[.int .i64 r.id, .int .i64 r.h.term, .int .i64 r.h.vote, .int .i64 r.h.base, .int .i64 r.h.bt, .int .i64 r.h.full, .int .i64 r.h.wit, .int .i64 r.h.learn, .int .i64 r.h.lw, .slice S' sn sc', .slice A' m c', .int .i64 r.commit, .int .i64 r.role, .int .i64 r.lead, .int .i64 r.wait, .int .i64 r.quiet, .int .i64 r.votes, .int .i64 r.round, .int .i64 (r.next 0), .int .i64 (r.next 1), .int .i64 (r.next 2), .int .i64 (r.next 3), .int .i64 (r.next 4), .int .i64 (r.next 5), .int .i64 (r.next 6), .int .i64 (r.mat 0), .int .i64 (r.mat 1), .int .i64 (r.mat 2), .int .i64 (r.mat 3), .int .i64 (r.mat 4), .int .i64 (r.mat 5), .int .i64 (r.mat 6), .int .i64 (r.silent 0), .int .i64 (r.silent 1), .int .i64 (r.silent 2), .int .i64 (r.silent 3), .int .i64 (r.silent 4), .int .i64 (r.silent 5), .int .i64 (r.silent 6), .slice R' rn rc'] 33) = W2 := ⟨_, rfl⟩
  have hb2 : Below w.heap.size w W2 := by rw [← hW2]; exact two_below _ _ _
  have hz2 : W2.heap.size = w.heap.size + 2 := by rw [← hW2]; simp
  have hr0 : W2.heap[w.heap.size]? = some (.cells #[.int .i64 r.id, .int .i64 r.h.term, .int .i64 r.h.vote, .int .i64 r.h.base, .int .i64 r.h.bt, .int .i64 r.h.full, .int .i64 r.h.wit, .int .i64 r.h.learn, .int .i64 r.h.lw, .slice S sn sc, .slice A m c, .int .i64 r.commit, .int .i64 r.role, .int .i64 r.lead, .int .i64 r.wait, .int .i64 r.quiet, .int .i64 r.votes, .int .i64 r.round, .int .i64 (r.next 0), .int .i64 (r.next 1), .int .i64 (r.next 2), .int .i64 (r.next 3), .int .i64 (r.next 4), .int .i64 (r.next 5), .int .i64 (r.next 6), .int .i64 (r.mat 0), .int .i64 (r.mat 1), .int .i64 (r.mat 2), .int .i64 (r.mat 3), .int .i64 (r.mat 4), .int .i64 (r.mat 5), .int .i64 (r.mat 6), .int .i64 (r.silent 0), .int .i64 (r.silent 1), .int .i64 (r.silent 2), .int .i64 (r.silent 3), .int .i64 (r.silent 4), .int .i64 (r.silent 5), .int .i64 (r.silent 6), .slice R rn rc] 33 (0, 0)) := by
    rw [← hW2, Below.heap_alloc _ _ _ (by simp)]
    exact heap_alloc_new w _
  have hr1 : W2.heap[w.heap.size + 1]? = some (.cells #[.int .i64 r.id, .int .i64 r.h.term, .int .i64 r.h.vote, .int .i64 r.h.base, .int .i64 r.h.bt, .int .i64 r.h.full, .int .i64 r.h.wit, .int .i64 r.h.learn, .int .i64 r.h.lw, .slice S' sn sc', .slice A' m c', .int .i64 r.commit, .int .i64 r.role, .int .i64 r.lead, .int .i64 r.wait, .int .i64 r.quiet, .int .i64 r.votes, .int .i64 r.round, .int .i64 (r.next 0), .int .i64 (r.next 1), .int .i64 (r.next 2), .int .i64 (r.next 3), .int .i64 (r.next 4), .int .i64 (r.next 5), .int .i64 (r.next 6), .int .i64 (r.mat 0), .int .i64 (r.mat 1), .int .i64 (r.mat 2), .int .i64 (r.mat 3), .int .i64 (r.mat 4), .int .i64 (r.mat 5), .int .i64 (r.mat 6), .int .i64 (r.silent 0), .int .i64 (r.silent 1), .int .i64 (r.silent 2), .int .i64 (r.silent 3), .int .i64 (r.silent 4), .int .i64 (r.silent 5), .int .i64 (r.silent 6), .slice R' rn rc'] 33 (0, 0)) := by
    rw [← hW2]
    exact heap_alloc2_new w _ _
  have Hrow : Hid (∀ w', Below W2.heap.size W2 w' → (w'.cell? ⟨w.heap.size, 11, none⟩ = some (.int .i64 r.commit) ∧ w'.cell? ⟨w.heap.size, 12, none⟩ = some (.int .i64 r.role) ∧ w'.cell? ⟨w.heap.size, 13, none⟩ = some (.int .i64 r.lead) ∧ w'.cell? ⟨w.heap.size, 14, none⟩ = some (.int .i64 r.wait) ∧ w'.cell? ⟨w.heap.size, 15, none⟩ = some (.int .i64 r.quiet) ∧ w'.cell? ⟨w.heap.size, 16, none⟩ = some (.int .i64 r.votes) ∧ w'.cell? ⟨w.heap.size, 17, none⟩ = some (.int .i64 r.round) ∧ w'.cell? ⟨w.heap.size, 18, none⟩ = some (.int .i64 (r.next 0)) ∧ w'.cell? ⟨w.heap.size, 19, none⟩ = some (.int .i64 (r.next 1)) ∧ w'.cell? ⟨w.heap.size, 20, none⟩ = some (.int .i64 (r.next 2)) ∧ w'.cell? ⟨w.heap.size, 21, none⟩ = some (.int .i64 (r.next 3)) ∧ w'.cell? ⟨w.heap.size, 22, none⟩ = some (.int .i64 (r.next 4)) ∧ w'.cell? ⟨w.heap.size, 23, none⟩ = some (.int .i64 (r.next 5)) ∧ w'.cell? ⟨w.heap.size, 24, none⟩ = some (.int .i64 (r.next 6)) ∧ w'.cell? ⟨w.heap.size, 25, none⟩ = some (.int .i64 (r.mat 0)) ∧ w'.cell? ⟨w.heap.size, 26, none⟩ = some (.int .i64 (r.mat 1)) ∧ w'.cell? ⟨w.heap.size, 27, none⟩ = some (.int .i64 (r.mat 2)) ∧ w'.cell? ⟨w.heap.size, 28, none⟩ = some (.int .i64 (r.mat 3)) ∧ w'.cell? ⟨w.heap.size, 29, none⟩ = some (.int .i64 (r.mat 4)) ∧ w'.cell? ⟨w.heap.size, 30, none⟩ = some (.int .i64 (r.mat 5)) ∧ w'.cell? ⟨w.heap.size, 31, none⟩ = some (.int .i64 (r.mat 6)) ∧ w'.cell? ⟨w.heap.size, 32, none⟩ = some (.int .i64 (r.silent 0)) ∧ w'.cell? ⟨w.heap.size, 33, none⟩ = some (.int .i64 (r.silent 1)) ∧ w'.cell? ⟨w.heap.size, 34, none⟩ = some (.int .i64 (r.silent 2)) ∧ w'.cell? ⟨w.heap.size, 35, none⟩ = some (.int .i64 (r.silent 3)) ∧ w'.cell? ⟨w.heap.size, 36, none⟩ = some (.int .i64 (r.silent 4)) ∧ w'.cell? ⟨w.heap.size, 37, none⟩ = some (.int .i64 (r.silent 5)) ∧ w'.cell? ⟨w.heap.size, 38, none⟩ = some (.int .i64 (r.silent 6)) ∧ w'.cell? ⟨w.heap.size, 39, none⟩ = some (.slice R rn rc)) ∧ (w'.cell? ⟨w.heap.size + 1, 11, none⟩ = some (.int .i64 r.commit) ∧ w'.cell? ⟨w.heap.size + 1, 12, none⟩ = some (.int .i64 r.role) ∧ w'.cell? ⟨w.heap.size + 1, 13, none⟩ = some (.int .i64 r.lead) ∧ w'.cell? ⟨w.heap.size + 1, 14, none⟩ = some (.int .i64 r.wait) ∧ w'.cell? ⟨w.heap.size + 1, 15, none⟩ = some (.int .i64 r.quiet) ∧ w'.cell? ⟨w.heap.size + 1, 16, none⟩ = some (.int .i64 r.votes) ∧ w'.cell? ⟨w.heap.size + 1, 17, none⟩ = some (.int .i64 r.round) ∧ w'.cell? ⟨w.heap.size + 1, 18, none⟩ = some (.int .i64 (r.next 0)) ∧ w'.cell? ⟨w.heap.size + 1, 19, none⟩ = some (.int .i64 (r.next 1)) ∧ w'.cell? ⟨w.heap.size + 1, 20, none⟩ = some (.int .i64 (r.next 2)) ∧ w'.cell? ⟨w.heap.size + 1, 21, none⟩ = some (.int .i64 (r.next 3)) ∧ w'.cell? ⟨w.heap.size + 1, 22, none⟩ = some (.int .i64 (r.next 4)) ∧ w'.cell? ⟨w.heap.size + 1, 23, none⟩ = some (.int .i64 (r.next 5)) ∧ w'.cell? ⟨w.heap.size + 1, 24, none⟩ = some (.int .i64 (r.next 6)) ∧ w'.cell? ⟨w.heap.size + 1, 25, none⟩ = some (.int .i64 (r.mat 0)) ∧ w'.cell? ⟨w.heap.size + 1, 26, none⟩ = some (.int .i64 (r.mat 1)) ∧ w'.cell? ⟨w.heap.size + 1, 27, none⟩ = some (.int .i64 (r.mat 2)) ∧ w'.cell? ⟨w.heap.size + 1, 28, none⟩ = some (.int .i64 (r.mat 3)) ∧ w'.cell? ⟨w.heap.size + 1, 29, none⟩ = some (.int .i64 (r.mat 4)) ∧ w'.cell? ⟨w.heap.size + 1, 30, none⟩ = some (.int .i64 (r.mat 5)) ∧ w'.cell? ⟨w.heap.size + 1, 31, none⟩ = some (.int .i64 (r.mat 6)) ∧ w'.cell? ⟨w.heap.size + 1, 32, none⟩ = some (.int .i64 (r.silent 0)) ∧ w'.cell? ⟨w.heap.size + 1, 33, none⟩ = some (.int .i64 (r.silent 1)) ∧ w'.cell? ⟨w.heap.size + 1, 34, none⟩ = some (.int .i64 (r.silent 2)) ∧ w'.cell? ⟨w.heap.size + 1, 35, none⟩ = some (.int .i64 (r.silent 3)) ∧ w'.cell? ⟨w.heap.size + 1, 36, none⟩ = some (.int .i64 (r.silent 4)) ∧ w'.cell? ⟨w.heap.size + 1, 37, none⟩ = some (.int .i64 (r.silent 5)) ∧ w'.cell? ⟨w.heap.size + 1, 38, none⟩ = some (.int .i64 (r.silent 6)) ∧ w'.cell? ⟨w.heap.size + 1, 39, none⟩ = some (.slice R' rn rc'))) := fun w' hb => by
    have q0 := (hb.block w.heap.size (by omega)).trans hr0
    have q1 := (hb.block (w.heap.size + 1) (by omega)).trans hr1
    exact ⟨⟨cell_of_row _ _ _ _ _ _ q0, cell_of_row _ _ _ _ _ _ q0, cell_of_row _ _ _ _ _ _ q0, cell_of_row _ _ _ _ _ _ q0, cell_of_row _ _ _ _ _ _ q0, cell_of_row _ _ _ _ _ _ q0, cell_of_row _ _ _ _ _ _ q0, cell_of_row _ _ _ _ _ _ q0, cell_of_row _ _ _ _ _ _ q0, cell_of_row _ _ _ _ _ _ q0, cell_of_row _ _ _ _ _ _ q0, cell_of_row _ _ _ _ _ _ q0, cell_of_row _ _ _ _ _ _ q0, cell_of_row _ _ _ _ _ _ q0, cell_of_row _ _ _ _ _ _ q0, cell_of_row _ _ _ _ _ _ q0, cell_of_row _ _ _ _ _ _ q0, cell_of_row _ _ _ _ _ _ q0, cell_of_row _ _ _ _ _ _ q0, cell_of_row _ _ _ _ _ _ q0, cell_of_row _ _ _ _ _ _ q0, cell_of_row _ _ _ _ _ _ q0, cell_of_row _ _ _ _ _ _ q0, cell_of_row _ _ _ _ _ _ q0, cell_of_row _ _ _ _ _ _ q0, cell_of_row _ _ _ _ _ _ q0, cell_of_row _ _ _ _ _ _ q0, cell_of_row _ _ _ _ _ _ q0, cell_of_row _ _ _ _ _ _ q0⟩, ⟨cell_of_row _ _ _ _ _ _ q1, cell_of_row _ _ _ _ _ _ q1, cell_of_row _ _ _ _ _ _ q1, cell_of_row _ _ _ _ _ _ q1, cell_of_row _ _ _ _ _ _ q1, cell_of_row _ _ _ _ _ _ q1, cell_of_row _ _ _ _ _ _ q1, cell_of_row _ _ _ _ _ _ q1, cell_of_row _ _ _ _ _ _ q1, cell_of_row _ _ _ _ _ _ q1, cell_of_row _ _ _ _ _ _ q1, cell_of_row _ _ _ _ _ _ q1, cell_of_row _ _ _ _ _ _ q1, cell_of_row _ _ _ _ _ _ q1, cell_of_row _ _ _ _ _ _ q1, cell_of_row _ _ _ _ _ _ q1, cell_of_row _ _ _ _ _ _ q1, cell_of_row _ _ _ _ _ _ q1, cell_of_row _ _ _ _ _ _ q1, cell_of_row _ _ _ _ _ _ q1, cell_of_row _ _ _ _ _ _ q1, cell_of_row _ _ _ _ _ _ q1, cell_of_row _ _ _ _ _ _ q1, cell_of_row _ _ _ _ _ _ q1, cell_of_row _ _ _ _ _ _ q1, cell_of_row _ _ _ _ _ _ q1, cell_of_row _ _ _ _ _ _ q1, cell_of_row _ _ _ _ _ _ q1, cell_of_row _ _ _ _ _ _ q1⟩⟩
  have Hup : Hid (∀ w', Below W2.heap.size W2 w' → Below w.heap.size w w') := fun w' hb => hb2.trans (hb.mono (by omega))
  have HH : Hid (Calls Tryd.prog 41 #[.agg #[.int .i64 r.h.term, .int .i64 r.h.vote, .int .i64 r.h.base, .int .i64 r.h.bt, .int .i64 r.h.full, .int .i64 r.h.wit, .int .i64 r.h.learn, .int .i64 r.h.lw, .slice S sn sc, .slice A m c], .agg #[.int .i64 r.h.term, .int .i64 r.h.vote, .int .i64 r.h.base, .int .i64 r.h.bt, .int .i64 r.h.full, .int .i64 r.h.wit, .int .i64 r.h.learn, .int .i64 r.h.lw, .slice S' sn sc', .slice A' m c']] W2 fun e w'' => e = .returned (.bool true) ∧ Below W2.heap.size W2 w'') :=
    kHard_self r.h S S' sn sc sc' A A' m c c' sb es W2 ((hs.below hb2 (Nat.le_refl _)).mono hb2.size) ((hs'.below hb2 (Nat.le_refl _)).mono hb2.size) ((Rd.below he hb2 (Nat.le_refl _)).mono hb2.size) ((Rd.below he' hb2 (Nat.le_refl _)).mono hb2.size) hl
  have HR : Hid (∀ w', Below W2.heap.size W2 w' → Calls Tryd.prog 43 #[.slice R rn rc, .slice R' rn rc'] w' fun e w'' => e = .returned (.bool true) ∧ Below w'.heap.size w' w'') := fun w' hb =>
    kReads_self R R' rn rc rc' qs w' ((Rd.below hq (Hup.out w' hb) (Nat.le_refl _)).mono (Hup.out w' hb).size) ((Rd.below hq' (Hup.out w' hb) (Nat.le_refl _)).mono (Hup.out w' hb).size) hql
  have HW2 := Lib.hid hW2
  clear hW2 hr0 hr1 hs hs' he he' hl hz2 hq hq' hql
  go_enter Tryd.func18, Tryd.ntmps18
  go_wp2_with fail
  rw [HW2.out]
  refine HH.out.mono ?_
  rintro e w3 ⟨rfl, hb3⟩
  have hbq3 := hb3
  obtain ⟨⟨y11, y12, y13, y14, y15, y16, y17, y18, y19, y20, y21, y22, y23, y24, y25, y26, y27, y28, y29, y30, y31, y32, y33, y34, y35, y36, y37, y38, y39⟩, ⟨z11, z12, z13, z14, z15, z16, z17, z18, z19, z20, z21, z22, z23, z24, z25, z26, z27, z28, z29, z30, z31, z32, z33, z34, z35, z36, z37, z38, z39⟩⟩ := Hrow.out _ hbq3
  clear hb3
  go_wp2_with fail
  refine (nodes_self r.next _).mono ?_
  rintro e w4 ⟨rfl, hb4⟩
  have hbq4 := bstep hbq3 hb4
  clear hb4 y11 y12 y13 y14 y15 y16 y17 y18 y19 y20 y21 y22 y23 y24 y25 y26 y27 y28 y29 y30 y31 y32 y33 y34 y35 y36 y37 y38 y39 z11 z12 z13 z14 z15 z16 z17 z18 z19 z20 z21 z22 z23 z24 z25 z26 z27 z28 z29 z30 z31 z32 z33 z34 z35 z36 z37 z38 z39
  obtain ⟨⟨y11, y12, y13, y14, y15, y16, y17, y18, y19, y20, y21, y22, y23, y24, y25, y26, y27, y28, y29, y30, y31, y32, y33, y34, y35, y36, y37, y38, y39⟩, ⟨z11, z12, z13, z14, z15, z16, z17, z18, z19, z20, z21, z22, z23, z24, z25, z26, z27, z28, z29, z30, z31, z32, z33, z34, z35, z36, z37, z38, z39⟩⟩ := Hrow.out _ hbq4
  go_wp2_with fail
  refine (nodes_self r.mat _).mono ?_
  rintro e w5 ⟨rfl, hb5⟩
  have hbq5 := bstep hbq4 hb5
  clear hb5 y11 y12 y13 y14 y15 y16 y17 y18 y19 y20 y21 y22 y23 y24 y25 y26 y27 y28 y29 y30 y31 y32 y33 y34 y35 y36 y37 y38 y39 z11 z12 z13 z14 z15 z16 z17 z18 z19 z20 z21 z22 z23 z24 z25 z26 z27 z28 z29 z30 z31 z32 z33 z34 z35 z36 z37 z38 z39
  obtain ⟨⟨y11, y12, y13, y14, y15, y16, y17, y18, y19, y20, y21, y22, y23, y24, y25, y26, y27, y28, y29, y30, y31, y32, y33, y34, y35, y36, y37, y38, y39⟩, ⟨z11, z12, z13, z14, z15, z16, z17, z18, z19, z20, z21, z22, z23, z24, z25, z26, z27, z28, z29, z30, z31, z32, z33, z34, z35, z36, z37, z38, z39⟩⟩ := Hrow.out _ hbq5
  go_wp2_with fail
  refine (nodes_self r.silent _).mono ?_
  rintro e w6 ⟨rfl, hb6⟩
  have hbq6 := bstep hbq5 hb6
  clear hb6 y11 y12 y13 y14 y15 y16 y17 y18 y19 y20 y21 y22 y23 y24 y25 y26 y27 y28 y29 y30 y31 y32 y33 y34 y35 y36 y37 y38 y39 z11 z12 z13 z14 z15 z16 z17 z18 z19 z20 z21 z22 z23 z24 z25 z26 z27 z28 z29 z30 z31 z32 z33 z34 z35 z36 z37 z38 z39
  obtain ⟨⟨y11, y12, y13, y14, y15, y16, y17, y18, y19, y20, y21, y22, y23, y24, y25, y26, y27, y28, y29, y30, y31, y32, y33, y34, y35, y36, y37, y38, y39⟩, ⟨z11, z12, z13, z14, z15, z16, z17, z18, z19, z20, z21, z22, z23, z24, z25, z26, z27, z28, z29, z30, z31, z32, z33, z34, z35, z36, z37, z38, z39⟩⟩ := Hrow.out _ hbq6
  go_wp2_with fail
  refine (HR.out _ hbq6).mono ?_
  rintro e w7 ⟨rfl, hb7⟩
  have hbq7 := bstep hbq6 hb7
  clear hb7 y11 y12 y13 y14 y15 y16 y17 y18 y19 y20 y21 y22 y23 y24 y25 y26 y27 y28 y29 y30 y31 y32 y33 y34 y35 y36 y37 y38 y39 z11 z12 z13 z14 z15 z16 z17 z18 z19 z20 z21 z22 z23 z24 z25 z26 z27 z28 z29 z30 z31 z32 z33 z34 z35 z36 z37 z38 z39
  go_wp2_with fail
  go_ret
  exact ⟨ret_bool (by simp), Hup.out _ hbq7⟩
end Go.Proofs.YtkckncggiicciaaDoor
/-
  The walk of skerrykeep.TwinRaft.
-/
namespace Go.Proofs.YtkckncggiicciaaDoor
open Go.RowKit
set_option maxRecDepth 100000
/-- A list with some of its places written over, from one on. -/
def setL : List Value → Nat → List Value → List Value
  | x, _, [] => x
  | x, o, v :: vs => setL (x.set o v) (o + 1) vs
theorem setL_len : ∀ (vs : List Value) (o : Nat) (x : List Value), (setL x o vs).length = x.length
  | [], _, _ => rfl
  | v :: vs, o, x => by rw [setL, setL_len vs, List.length_set]
theorem setL_one : ∀ (vs : List Value) (o : Nat) (x : List Value), (∀ v ∈ x, v.oneCell' = true) → (∀ v ∈ vs, v.oneCell' = true) → ∀ v ∈ setL x o vs, v.oneCell' = true
  | [], _, _, h, _ => h
  | u :: vs, o, x, h, hv => by
    refine setL_one vs (o + 1) _ (fun v h' => ?_) (fun v h' => hv v (List.mem_cons_of_mem _ h'))
    rcases List.mem_or_eq_of_mem_set h' with h' | rfl
    · exact h v h'
    · exact hv v List.mem_cons_self
theorem heap_setCells_row (b : Nat) (t : TypeId) : ∀ (vs : List Value) (o : Nat) (x : List Value) (w : World), w.heap[b]? = some (.cells x.toArray t (0, 0)) →
    (w.setCells b o vs).heap[b]? = some (.cells (setL x o vs).toArray t (0, 0))
  | [], _, _, _, h => h
  | v :: vs, o, x, w, h => by
    rw [World.setCells, setL]
    refine heap_setCells_row b t vs (o + 1) _ _ ?_
    rw [heap_setCell_same _ _ _ _ _ _ h, List.setIfInBounds_toArray]
theorem below_setCells {B b : Nat} {a : World} (hB : B ≤ b) : ∀ (vs : List Value) (o : Nat) (w : World), Below B a w → Below B a (w.setCells b o vs)
  | [], _, _, h => h
  | v :: vs, o, w, h => by
    rw [World.setCells]
    exact below_setCells hB vs (o + 1) _ (h.setCell hB _)
theorem size_setCells (b : Nat) : ∀ (vs : List Value) (o : Nat) (w : World), (w.setCells b o vs).heap.size = w.heap.size
  | [], _, _ => rfl
  | v :: vs, o, w => by
    rw [World.setCells, size_setCells b vs]
    simp [World.setCell]
theorem heap_setCells_ne (b k : Nat) (hk : k ≠ b) : ∀ (vs : List Value) (o : Nat) (w : World), (w.setCells b o vs).heap[k]? = w.heap[k]?
  | [], _, _ => rfl
  | v :: vs, o, w => by
    rw [World.setCells, heap_setCells_ne b k hk vs]
    exact Below.heap_setCell _ _ _ _ hk
theorem there_row {w : World} {b o n : Nat} {x : List Value} {t : TypeId} (h : w.heap[b]? = some (.cells x.toArray t (0, 0))) (hn : o + n ≤ x.length) : w.there b o n := fun j hj => by
  have hg : x[o + j]? = some x[o + j] := List.getElem?_eq_getElem (by omega)
  exact ⟨by rw [cell_list h _ _ hg]; rfl, frozen_of_row _ _ _ _ _ h⟩
/-- A kept slice reads as before where but one block, not its own, was written. -/
theorem rd_keep {w w' : World} {B size n cap : Nat} {A : Option Addr} {xs : List Value} (C : Nat) (h : Rd w B size A n cap xs) (hA : 0 < n → ∃ b off, A = some ⟨b, off, none⟩ ∧ C ≤ b) (hk : ∀ g, C ≤ g → g < B → w'.heap[g]? = w.heap[g]?) : Rd w' B size A n cap xs := by
  obtain ⟨h1, h2, h3, h4⟩ := h
  refine ⟨h1, h2, h3, fun hn => ?_⟩
  obtain ⟨b, off, e, hb, hc⟩ := h4 hn
  obtain ⟨b', off', e', hb'⟩ := hA hn
  rw [e] at e'
  injection e' with e'
  injection e' with e1 _
  subst e1
  refine ⟨b, off, e, hb, fun j u hu => ?_⟩
  rw [← hc j u hu]
  exact World.cell?_of_block (hk b hb' hb)
def zeroQ : Value := .agg rq0.cells.toArray
theorem info_rq : (Tryd.prog.info? 121).map (fun i => (i.zero, i.size, i.bytes)) = some (some zeroQ, 13, 128) := by kernel_rfl
def OwnQ (w : World) (base : Nat) (v : Value) (qs : List Rq) : Prop := w.ownsRow base 121 13 v qs.length (qs.map Rq.cells).flatten
theorem ownQ_rows {w : World} {base : Nat} {v : Value} {qs : List Rq} (h : OwnQ w base v qs) {n : Nat} (hn : qs.length = n) : ∃ A c, v = .slice A n c ∧ RqRows w w.heap.size A n c qs := by
  subst hn
  exact Rd.of_own h
theorem rqs_one (qs : List Rq) : ∀ u ∈ (qs.map Rq.cells).flatten, u.oneCell' = true := by
  intro u hu
  obtain ⟨x, hx, hux⟩ := List.mem_flatten.1 hu
  obtain ⟨e, _, rfl⟩ := List.mem_map.1 hx
  unfold Rq.cells at hux
  simp at hux
  rcases hux with rfl | rfl | rfl | rfl | rfl | rfl | rfl | rfl | rfl | rfl | rfl | rfl | rfl <;> rfl
theorem wpList_appQ {w : World} {ops : Array Oper} {rest : List Oper} {o : Oper} {a : Act} {Q : Exit → Act → World → Prop} (hgd : o.guard = none) (s x : Operand)
    (ho : o.op = .call { callee := .builtin .append, args := #[s, x], argTypes := #[31, 31] })
    (base : Nat) (hs : a.eval s = .slice none 0 0) (A : Option Addr) (m c : Nat) (qs : List Rq) (hl : qs.length = m) (hx : a.eval x = .slice A m c) (hr : RqRows w w.heap.size A m c qs) (hm : m * 128 ≤ 140737488355328) (hbase : base ≤ w.heap.size)
    (h : ∀ v' w', OwnQ w' base v' qs → w.grownBy w' none → wpList Tryd.prog ops Q rest (a.put o.dst v') w') : wpList Tryd.prog ops Q (o :: rest) a w := by
  obtain ⟨i0, hi, hz0, hz1, hz2⟩ := info_parts info_rq
  refine wpList_plain hgd fun _ hK => wp_appAt s x _ ho base 121 i0 zeroQ 13 128 Tryd.underlying31 hi hz0 hz1 hz2 rfl (by omega) (.slice none 0 0) 0 [] hs (World.ownsRow_nil _ _ _ _) w.heap.size A m c _ hx hr (rqs_one qs) (by simp only [maxLen]; omega) (by omega) hbase ?_
  intro v' w' q1 q2 _ _
  refine hK _ _ (h v' w' ?_ q2)
  unfold OwnQ
  rw [hl]
  simpa using q1
def TwinRPost (r : Rf) (sn m rn : Nat) (sb : List UInt8) (es : List En) (qs : List Rq) (w : World) (e : Ending) (w' : World) : Prop :=
  (∃ S' sc' A' c' R' rc', e = .returned (.agg (r.cells S' sn sc' A' m c' R' rn rc').toArray) ∧ By w' w'.heap.size S' sn sc' sb ∧ EnRows w' w'.heap.size A' m c' es ∧ RqRows w' w'.heap.size R' rn rc' qs) ∧ Below w.heap.size w w'
theorem raft_at (r : Rf) (S : Option Addr) (sn sc : Nat) (A : Option Addr) (m c : Nat) (R : Option Addr) (rn rc : Nat) : RfAt (r.cells S sn sc A m c R rn rc) r.id r.h.term r.h.base r.h.bt r.commit r.role r.lead (.slice A m c) :=
  ⟨rfl, fun v hv => by
    unfold Rf.cells at hv
    simp only [List.mem_cons, List.not_mem_nil, or_false] at hv
    rcases hv with rfl | rfl | rfl | rfl | rfl | rfl | rfl | rfl | rfl | rfl | rfl | rfl | rfl | rfl | rfl | rfl | rfl | rfl | rfl | rfl | rfl | rfl | rfl | rfl | rfl | rfl | rfl | rfl | rfl | rfl | rfl | rfl | rfl | rfl | rfl | rfl | rfl | rfl | rfl | rfl <;> rfl, rfl, rfl, rfl, rfl, rfl, rfl, rfl, rfl⟩
theorem raft_hd (r : Rf) (S : Option Addr) (sn sc : Nat) (A : Option Addr) (m c : Nat) (R : Option Addr) (rn rc : Nat) : HdAt (hardC (r.cells S sn sc A m c R rn rc)) r.h.base r.h.bt A m c S sn sc :=
  ⟨rfl, fun v hv => (raft_at r S sn sc A m c R rn rc).one v (List.mem_of_mem_drop (List.mem_of_mem_take hv)), rfl, rfl, rfl, rfl⟩
theorem twin_cells (r : Rf) (S S' : Option Addr) (sn sc sc' : Nat) (A A' : Option Addr) (m c c' : Nat) (R R' : Option Addr) (rn rc rc' : Nat) :
    ((setL (r.cells S sn sc A m c R rn rc) 1 (((hardC (r.cells S sn sc A m c R rn rc)).set 8 (.slice S' sn sc')).set 9 (.slice A' m c'))).set 39 (.slice none 0 0)).set 39 (.slice R' rn rc') = r.cells S' sn sc' A' m c' R' rn rc' := rfl
end Go.Proofs.YtkckncggiicciaaDoor
/-
  The walk of skerrykeep.TwinRaft, itself.
-/
namespace Go.Proofs.YtkckncggiicciaaDoor
open Go.RowKit
set_option maxRecDepth 100000
set_option maxHeartbeats 3200000 in
theorem TwinRaft_any (r : Rf) (S : Option Addr) (sn sc : Nat) (A : Option Addr) (m c : Nat) (R : Option Addr) (rn rc : Nat) (sb : List UInt8) (es : List En) (qs : List Rq) (w : World) (hs : By w w.heap.size S sn sc sb) (he : EnRows w w.heap.size A m c es) (hl : es.length = m)
    (hq : RqRows w w.heap.size R rn rc qs) (hql : qs.length = rn) (hsn : sn ≤ 32768) (hm : m ≤ 1000) (hrn : rn * 128 ≤ 140737488355328) :
    Calls Tryd.prog 12 #[.agg (r.cells S sn sc A m c R rn rc).toArray] w (TwinRPost r sn m rn sb es qs w) := by
  have hAt := raft_at r S sn sc A m c R rn rc
  have hHd := raft_hd r S sn sc A m c R rn rc
  have hTw := twin_cells r S
  obtain ⟨x, hx⟩ : ∃ x, r.cells S sn sc A m c R rn rc = x := ⟨_, rfl⟩
  have h39 : x[39]? = some (.slice R rn rc) := by rw [← hx]; rfl
  have Htw : Hid (∀ S' sc' A' c' R' rc', ((setL x 1 (((hardC x).set 8 (.slice S' sn sc')).set 9 (.slice A' m c'))).set 39 (.slice none 0 0)).set 39 (.slice R' rn rc') = r.cells S' sn sc' A' m c' R' rn rc') := fun S' sc' A' c' R' rc' => by
    rw [← hx]
    exact twin_cells r S S' sn sc sc' A A' m c c' R R' rn rc rc'
  rw [hx] at hAt hHd ⊢
  clear hTw hx
  obtain ⟨W2, hW2⟩ : ∃ W2, (w.alloc (.cells x.toArray 33)).alloc (.cells #[.int .i64 0, .int .i64 0, .int .i64 0, .int .i64 0, .int .i64 0, .int .i64 0, .int .i64 0, .int .i64 0, .int .i64 0, .slice none 0 0, .slice none 0 0, .int .i64 0, .int .i64 0, .int .i64 0, .int .i64 0, .int .i64 0, .int .i64 0, .int .i64 0, .int .i64 0, .int .i64 0, .int .i64 0, .int .i64 0, .int .i64 0, .int .i64 0, .int .i64 0, .int .i64 0, .int .i64 0, .int .i64 0, .int .i64 0, .int .i64 0, .int .i64 0, .int .i64 0, .int .i64 0, .int .i64 0, .int .i64 0, .int .i64 0, .int .i64 0, .int .i64 0, .int .i64 0, .slice none 0 0] 33) = W2 := ⟨_, rfl⟩
  have hb2 : Below w.heap.size w W2 := by rw [← hW2]; exact two_below _ _ _
  have hz2 : W2.heap.size = w.heap.size + 2 := by rw [← hW2]; simp
  have hr0 : W2.heap[w.heap.size]? = some (.cells x.toArray 33 (0, 0)) := by
    rw [← hW2, Below.heap_alloc _ _ _ (by simp)]
    exact heap_alloc_new w _
  have hr1 : W2.heap[w.heap.size + 1]? = some (.cells #[.int .i64 0, .int .i64 0, .int .i64 0, .int .i64 0, .int .i64 0, .int .i64 0, .int .i64 0, .int .i64 0, .int .i64 0, .slice none 0 0, .slice none 0 0, .int .i64 0, .int .i64 0, .int .i64 0, .int .i64 0, .int .i64 0, .int .i64 0, .int .i64 0, .int .i64 0, .int .i64 0, .int .i64 0, .int .i64 0, .int .i64 0, .int .i64 0, .int .i64 0, .int .i64 0, .int .i64 0, .int .i64 0, .int .i64 0, .int .i64 0, .int .i64 0, .int .i64 0, .int .i64 0, .int .i64 0, .int .i64 0, .int .i64 0, .int .i64 0, .int .i64 0, .int .i64 0, .slice none 0 0] 33 (0, 0)) := by
    rw [← hW2]
    exact heap_alloc2_new w _ _
  have Hr1 := Lib.hid hr1
  have Hz2 := Lib.hid hz2
  clear hr1
  have Hsz : Hid ((Tryd.prog.info? 33).map (·.size) = some x.toArray.size) := by unfold Hid; rw [List.size_toArray, hAt.len]; exact size40
  have Hsz2 : Hid ((Tryd.prog.info? 33).map (·.size) = some x.length) := by unfold Hid; rw [hAt.len]; exact size40
  have Hhsz : Hid ((Tryd.prog.info? 29).map (·.size) = some (hardC x).length) := by unfold Hid; rw [hHd.len]; exact size10
  have Hx40 : Hid (x.length = 40) := hAt.len
  have Hone : Hid (∀ v ∈ x, v.oneCell' = true) := hAt.one
  have Hup : Hid (∀ w', Below W2.heap.size W2 w' → Below w.heap.size w w') := fun w' hb => hb2.trans (hb.mono (by omega))
  have HY : Hid (∀ w', Below W2.heap.size W2 w' → w'.rangeAt w.heap.size 1 (hardC x) ∧ w'.cell? ⟨w.heap.size, 39, none⟩ = some (.slice R rn rc)) := fun w' hb => by
    have q := (hb.block w.heap.size (by omega)).trans hr0
    refine ⟨fun j v hj => ?_, cell_list q _ _ h39⟩
    have hj10 : j < 10 := by
      have := (List.getElem?_eq_some_iff.1 hj).1
      rw [hHd.len] at this
      exact this
    rw [hardC_at x j hj10] at hj
    rw [Nat.add_comm 1 j]
    exact cell_list q _ _ hj
  have Hs := Lib.hid hs
  have He := Lib.hid he
  have Hl := Lib.hid hl
  have Hq := Lib.hid hq
  have Hql := Lib.hid hql
  have HHd := Lib.hid hHd
  have Hsl : Hid (sb.length = sn) := hs.len
  have HW2 := Lib.hid hW2
  have Hr0 := Lib.hid hr0
  clear hW2 hr0 hz2 hs he hl hq hql hHd hAt h39
  go_enter Tryd.func12, Tryd.ntmps12
  go_wp2_with (first
    | (refine wpList_load_row rfl 33 (.tmp 1) rfl w.heap.size rfl 33 x.toArray (0, 0) _ (by first | exact Hr0.out | (rw [Below.heap_alloc _ _ _ (by simp)]; exact heap_alloc_new w _)) Tryd.underlying33 rfl Hsz.out ?_; rw [HW2.out])
    | (refine wpList_store_local rfl 33 (.tmp 3) _ rfl x rfl rfl Hsz2.out ?zz Hone.out ?_
       case zz => exact Hx40.out.symm
       intro w5 q5 hb5 hz5
       have Q5 := Lib.hid q5
       have Hz5 := Lib.hid hz5
       clear q5 hz5
       obtain ⟨y8, y9⟩ := HY.out _ hb5
       have Y8 := Lib.hid y8
       clear y8)
    | (refine Go.wpList_load_mid rfl 29 (.tmp 5) rfl w.heap.size 1 rfl (hardC x) _ Y8.out Tryd.underlying29 rfl Hhsz.out ?_))
  have hbw5 : Below w.heap.size w w5 := Hup.out _ hb5
  refine (TwinHard_any (hardC x) _ _ S sn sc A m c sb es w5 HHd.out (Rd.below Hs.out hbw5 (Nat.le_refl _) |>.mono hbw5.size) (Rd.below He.out hbw5 (Nat.le_refl _) |>.mono hbw5.size) Hl.out hsn hm).mono ?_
  rintro e w6 ⟨⟨S', sc', A', c', rfl, ho1, ho2⟩, hb6⟩
  have hrow6 : w6.heap[W2.heap.size]? = some (.cells x.toArray 33 (0, 0)) := (hb6.block _ (by have := Hz5.out; omega)).trans Q5.out
  have hbq6 := bstep hb5 hb6
  obtain ⟨hn, hhn⟩ : ∃ hn, ((hardC x).set 8 (.slice S' sn sc')).set 9 (.slice A' m c') = hn := ⟨_, rfl⟩
  have Hn10 : Hid (hn.length = 10) := by unfold Hid; rw [← hhn, List.length_set, List.length_set]; exact HHd.out.len
  have Hn1 : Hid (∀ u ∈ hn, u.oneCell' = true) := fun u hu => by
    rw [← hhn] at hu
    rcases List.mem_or_eq_of_mem_set hu with h | rfl
    · rcases List.mem_or_eq_of_mem_set h with h | rfl
      · exact HHd.out.one u h
      · rfl
    · rfl
  have Hhn := Lib.hid hhn
  rw [hhn]
  have Hnsz : Hid ((Tryd.prog.info? 29).map (·.size) = some hn.toArray.size) := by unfold Hid; rw [List.size_toArray, Hn10.out]; exact size10
  have Hth : Hid (w6.there W2.heap.size 1 hn.toArray.size) := by
    refine there_row hrow6 ?_
    rw [List.size_toArray, Hn10.out, Hx40.out]
    decide
  obtain ⟨W7, hW7⟩ : ∃ W7, w6.setCells W2.heap.size 1 hn = W7 := ⟨_, rfl⟩
  have hb7 : Below W2.heap.size W2 W7 := by rw [← hW7]; exact below_setCells (Nat.le_refl _) hn 1 _ hbq6
  have hz7 : W7.heap.size = w6.heap.size := by rw [← hW7]; exact size_setCells _ _ _ _
  obtain ⟨x7, hx7⟩ : ∃ x7, setL x 1 hn = x7 := ⟨_, rfl⟩
  have hrow7 : W7.heap[W2.heap.size]? = some (.cells x7.toArray 33 (0, 0)) := by rw [← hW7, ← hx7]; exact heap_setCells_row _ _ _ _ _ _ hrow6
  have h7l : x7.length = 40 := by rw [← hx7, setL_len]; exact Hx40.out
  have h7o : ∀ v ∈ x7, v.oneCell' = true := by rw [← hx7]; exact setL_one _ _ _ Hone.out Hn1.out
  have hne7 : ∀ k, k ≠ W2.heap.size → W7.heap[k]? = w6.heap[k]? := fun k hk => by rw [← hW7]; exact heap_setCells_ne _ _ hk _ _ _
  have c7 : W7.cell? ⟨W2.heap.size, 39, none⟩ = some x7[39] := cell_list hrow7 _ _ (List.getElem?_eq_getElem (by omega))
  have f7 : W7.frozen? ⟨W2.heap.size, 39, none⟩ = false := frozen_of_row _ _ _ _ _ hrow7
  obtain ⟨u7, hu7⟩ : ∃ u7, x7[39] = u7 := ⟨_, rfl⟩
  rw [hu7] at c7
  obtain ⟨W8, hW8⟩ : ∃ W8, W7.setCell ⟨W2.heap.size, 39, none⟩ (.slice none 0 0) = W8 := ⟨_, rfl⟩
  have hb8 : Below W2.heap.size W2 W8 := by rw [← hW8]; exact hb7.setCell (Nat.le_refl _) _
  have hz8 : W8.heap.size = w6.heap.size := by rw [← hW8, ← hz7]; simp [World.setCell]
  have hrow8 : W8.heap[W2.heap.size]? = some (.cells (x7.set 39 (.slice none 0 0)).toArray 33 (0, 0)) := by
    rw [← hW8, heap_setCell_same _ _ _ _ _ _ hrow7, List.setIfInBounds_toArray]
  have hne8 : ∀ k, k ≠ W2.heap.size → W8.heap[k]? = w6.heap[k]? := fun k hk => by rw [← hW8, Below.heap_setCell _ _ _ _ hk]; exact hne7 k hk
  obtain ⟨x8, hx8⟩ : ∃ x8, x7.set 39 (.slice none 0 0) = x8 := ⟨_, rfl⟩
  have h8l : x8.length = 40 := by rw [← hx8, List.length_set]; exact h7l
  have h8o : ∀ v ∈ x8, v.oneCell' = true := by
    intro v hv
    rw [← hx8] at hv
    rcases List.mem_or_eq_of_mem_set hv with h | rfl
    · exact h7o v h
    · rfl
  have h839 : x8[39]? = some (.slice none 0 0) := by rw [← hx8, List.getElem?_set_self (by omega)]
  rw [hx8] at hrow8
  have c8 : W8.cell? ⟨W2.heap.size, 39, none⟩ = some (.slice none 0 0) := cell_list hrow8 _ _ h839
  have f8 : W8.frozen? ⟨W2.heap.size, 39, none⟩ = false := frozen_of_row _ _ _ _ _ hrow8
  have y10 : (W7.setCell ⟨W2.heap.size, 39, none⟩ (.slice none 0 0)).cell? ⟨w.heap.size, 39, none⟩ = some (.slice R rn rc) := by rw [hW8]; exact (HY.out _ hb8).2
  have HW7 := Lib.hid hW7
  have HW8 := Lib.hid hW8
  have Hx7 := Lib.hid hx7
  have Hx8 := Lib.hid hx8
  have Hne8 := Lib.hid hne8
  have Hz8 := Lib.hid hz8
  have Hz7 := Lib.hid hz7
  have Ho1 := Lib.hid ho1
  have Ho2 := Lib.hid ho2
  have H8l := Lib.hid h8l
  have H8o := Lib.hid h8o
  have Hrow8 := Lib.hid hrow8
  have Hb6 := Lib.hid hb6
  have Hrows : RqRows W8 W8.heap.size R rn rc qs := (Rd.below Hq.out (Hup.out _ hb8) (Nat.le_refl _)).mono (Hup.out _ hb8).size
  have HRows := Lib.hid Hrows
  clear hW7 hW8 hx7 hx8 hne7 hne8 hz7 hz8 ho1 ho2 h7l h7o h8l h8o hrow6 hrow7 hrow8 h839 hhn hu7 y9 Hrows
  go_wp2_with (first
    | (refine Go.wpList_store_mid rfl 29 (.tmp 8) (.tmp 7) rfl W2.heap.size 1 hn.toArray rfl rfl Hth.out Hnsz.out (all_one Hn1.out) ?_
       show wpList _ _ _ _ _ (w6.setCells W2.heap.size 1 hn)
       rw [HW7.out])
    | (at_builtin
       rw [HW8.out]
       refine wpList_appQ rfl (.tmp 11) (.tmp 13) rfl W8.heap.size rfl R rn rc qs Hql.out rfl HRows.out hrn (Nat.le_refl _) ?_
       intro v9 w9 ho9 hg9
       have hb9 : Below W2.heap.size W2 w9 := hb8.grown hg9 (by have := Hz8.out; have := hbq6.size; omega) (by intro k hk; cases hk)
       have hbk : Below W8.heap.size W8 w9 := (Below.refl _ _).grown hg9 (Nat.le_refl _) (by intro k hk; cases hk)
       have hL8 : W2.heap.size < W8.heap.size := by have := Hz8.out; have := Hz5.out; have := Hb6.out.size; omega
       have hrow9 : w9.heap[W2.heap.size]? = some (.cells x8.toArray 33 (0, 0)) := (hbk.block _ hL8).trans Hrow8.out
       have c9 : w9.cell? ⟨W2.heap.size, 39, none⟩ = some (.slice none 0 0) := by rw [hbk.cell (p := ⟨W2.heap.size, 39, none⟩) hL8]; exact c8
       have f9 : w9.frozen? ⟨W2.heap.size, 39, none⟩ = false := frozen_of_row _ _ _ _ _ hrow9
       have HL8 := Lib.hid hL8
       have Hb9 := Lib.hid hb9
       have Hbk := Lib.hid hbk
       have Hrow9 := Lib.hid hrow9
       have Ho9 := Lib.hid ho9
       obtain ⟨R', rc', rfl, _⟩ := ownQ_rows ho9 Hql.out
       obtain ⟨W10, hW10⟩ : ∃ W10, w9.setCell ⟨W2.heap.size, 39, none⟩ (.slice R' rn rc') = W10 := ⟨_, rfl⟩
       have HW10 := Lib.hid hW10
       obtain ⟨xc, hxc⟩ : ∃ xc, x8.set 39 (.slice R' rn rc') = xc := ⟨_, rfl⟩
       have hxl : xc.length = 40 := by rw [← hxc, List.length_set]; exact H8l.out
       have hrow10 : W10.heap[W2.heap.size]? = some (.cells xc.toArray 33 (0, 0)) := by
         rw [← hW10, heap_setCell_same _ _ _ _ _ _ hrow9, List.setIfInBounds_toArray, hxc]
       have hb10 : Below W2.heap.size W2 W10 := by rw [← hW10]; exact hb9.setCell (Nat.le_refl _) _
       have Hrow10 : Hid ((w9.setCell ⟨W2.heap.size, 39, none⟩ (.slice R' rn rc')).heap[W2.heap.size]? = some (.cells xc.toArray 33 (0, 0))) := by rw [hW10]; exact hrow10
       have Hz10 : Hid (W10.heap[w.heap.size + 1]? = some (.cells #[.int .i64 0, .int .i64 0, .int .i64 0, .int .i64 0, .int .i64 0, .int .i64 0, .int .i64 0, .int .i64 0, .int .i64 0, .slice none 0 0, .slice none 0 0, .int .i64 0, .int .i64 0, .int .i64 0, .int .i64 0, .int .i64 0, .int .i64 0, .int .i64 0, .int .i64 0, .int .i64 0, .int .i64 0, .int .i64 0, .int .i64 0, .int .i64 0, .int .i64 0, .int .i64 0, .int .i64 0, .int .i64 0, .int .i64 0, .int .i64 0, .int .i64 0, .int .i64 0, .int .i64 0, .int .i64 0, .int .i64 0, .int .i64 0, .int .i64 0, .int .i64 0, .int .i64 0, .slice none 0 0] 33 (0, 0))) := (hb10.block _ (by have := Hz2.out; omega)).trans Hr1.out
       have Hsz3 : Hid ((Tryd.prog.info? 33).map (·.size) = some xc.toArray.size) := by unfold Hid; rw [List.size_toArray, hxl]; exact size40
       have Hone3 : Hid (∀ u ∈ xc, u.oneCell' = true) := fun u hu => by
         rw [← hxc] at hu
         rcases List.mem_or_eq_of_mem_set hu with h | rfl
         · exact H8o.out u h
         · rfl
       have Hsz4 : Hid (40 = xc.toArray.size) := by unfold Hid; rw [List.size_toArray, hxl]
       have Hxc := Lib.hid hxc
       have Hb10 := Lib.hid hb10
       clear c8 f8 c7 f7 y10 hL8 hb9 hbk hrow9 ho9 hg9 hW10 hxc hxl hrow10 hb10)
    | (refine wpList_load_row rfl 33 (.tmp 3) rfl W2.heap.size rfl 33 xc.toArray (0, 0) _ Hrow10.out Tryd.underlying33 rfl Hsz3.out ?_; rw [HW10.out])
    | (refine wpList_store_row rfl 33 (.tmp 2) (.tmp 16) rfl (w.heap.size + 1) xc.toArray rfl rfl 33 #[.int .i64 0, .int .i64 0, .int .i64 0, .int .i64 0, .int .i64 0, .int .i64 0, .int .i64 0, .int .i64 0, .int .i64 0, .slice none 0 0, .slice none 0 0, .int .i64 0, .int .i64 0, .int .i64 0, .int .i64 0, .int .i64 0, .int .i64 0, .int .i64 0, .int .i64 0, .int .i64 0, .int .i64 0, .int .i64 0, .int .i64 0, .int .i64 0, .int .i64 0, .int .i64 0, .int .i64 0, .int .i64 0, .int .i64 0, .int .i64 0, .int .i64 0, .int .i64 0, .int .i64 0, .int .i64 0, .int .i64 0, .int .i64 0, .int .i64 0, .int .i64 0, .int .i64 0, .slice none 0 0] Hz10.out Hsz3.out Hsz4.out (all_one Hone3.out) ?_))
  have hbE : Below w.heap.size w (W10.setRow (w.heap.size + 1) xc.toArray) := below_setRow (Hup.out _ Hb10.out) (by omega) _
  have hkeep : ∀ g, w5.heap.size ≤ g → g < w6.heap.size → (W10.setRow (w.heap.size + 1) xc.toArray).heap[g]? = w6.heap[g]? := fun g h1 h2 => by
    have a1 := Hz5.out
    have a2 := Hz2.out
    rw [setRow_ne _ _ _ _ (by omega), ← HW10.out, Below.heap_setCell _ _ _ _ (by show g ≠ W2.heap.size; omega), Hbk.out.block _ (by rw [Hz8.out]; exact h2)]
    exact Hne8.out g (by omega)
  have o1 : OwnB (W10.setRow (w.heap.size + 1) xc.toArray) w5.heap.size (.slice S' sn sc') sb := own_keep Ho1.out hkeep
  have o2 : OwnE (W10.setRow (w.heap.size + 1) xc.toArray) w5.heap.size (.slice A' m c') es := own_keep Ho2.out hkeep
  have o3 : OwnQ (W10.setRow (w.heap.size + 1) xc.toArray) W8.heap.size (.slice R' rn rc') qs := own_keep Ho9.out (fun g h1 h2 => by
    have a1 := Hz5.out
    have a2 := Hz2.out
    have a3 := HL8.out
    rw [setRow_ne _ _ _ _ (by omega), ← HW10.out]
    exact Below.heap_setCell _ _ _ _ (by show g ≠ W2.heap.size; omega))
  obtain ⟨S1, sc1, e1, p1⟩ := own_by o1 (n := sn) Hsl.out
  obtain ⟨A1, c1, e2, p2⟩ := ownE_rows o2 Hl.out
  obtain ⟨R1, rc1, e3, p3⟩ := ownQ_rows o3 Hql.out
  injection e1 with k1 _ k2
  injection e2 with k3 _ k4
  injection e3 with k5 _ k6
  subst k1 k2 k3 k4 k5 k6
  refine bodyPost_ret (results_cell_row Tryd.results12 _ _ (w.heap.size + 1) _ xc.toArray (0, 0) _ rfl (setRow_heap _ _ _ _ _ _ Hz10.out) Tryd.underlying33 rfl Hsz3.out) rfl ?_
  exact ⟨⟨_, _, _, _, _, _, by rw [← Hxc.out, ← Hx8.out, ← Hx7.out, ← Hhn.out, Htw.out], p1, p2, p3⟩, hbE⟩
end Go.Proofs.YtkckncggiicciaaDoor
/-
  Replicas that came in: law 28's heavy.
-/
namespace Go.Proofs.YtkckncggiicciaaDoor
open Go.RowKit
set_option maxRecDepth 100000
/-- A replica, and what it leads to. -/
structure RfW where
  x : List Value
  id : Int
  term : Int
  base : Int
  bt : Int
  commit : Int
  role : Int
  lead : Int
  S : Option Addr
  sn : Nat
  sc : Nat
  A : Option Addr
  m : Nat
  c : Nat
  es : List En
/-- .. in a world. -/
structure RfW.Ok (r : RfW) (w : World) (B : Nat) : Prop where
  at' : RfAt r.x r.id r.term r.base r.bt r.commit r.role r.lead (.slice r.A r.m r.c)
  snap : r.x[9]? = some (.slice r.S r.sn r.sc)
  rows : EnRows w B r.A r.m r.c r.es
  len : r.es.length = r.m
  ins : ∀ e ∈ r.es, e.In
  strs : ∀ e ∈ r.es, e.Str
theorem RfW.Ok.below {r : RfW} {w w' : World} {B B' : Nat} (h : r.Ok w B) (hb : Below B w w') (hB : B ≤ B') : r.Ok w' B' :=
  ⟨h.at', h.snap, (Rd.below h.rows hb (Nat.le_refl _)).mono hB, h.len, h.ins, h.strs⟩
theorem RfW.Ok.hd {r : RfW} {w : World} {B : Nat} (h : r.Ok w B) : HdAt (hardC r.x) r.base r.bt r.A r.m r.c r.S r.sn r.sc := by
  refine ⟨?_, fun v hv => h.at'.one v (List.mem_of_mem_drop (List.mem_of_mem_take hv)), ?_, ?_, ?_, ?_⟩
  · unfold hardC
    rw [List.length_take, List.length_drop, h.at'.len]
    rfl
  all_goals rw [hardC_at _ _ (by omega)]
  · exact h.at'.base
  · exact h.at'.bt
  · exact h.snap
  · exact h.at'.log
theorem hard_range {w : World} {b o : Nat} {x : List Value} (h : w.rangeAt b o x) : w.rangeAt b (o + 1) (hardC x) := fun j v hj => by
  have hj10 : j < 10 := by
    have := (List.getElem?_eq_some_iff.1 hj).1
    unfold hardC at this
    simp at this
    omega
  rw [hardC_at x j hj10] at hj
  rw [Nat.add_assoc, Nat.add_comm 1 j]
  exact h _ _ hj
def RfRows (w : World) (B : Nat) (A : Option Addr) (n c : Nat) (rs : List RfW) : Prop := Rd w B 40 A n c (rs.map RfW.x).flatten
theorem rf_row {w : World} {B n c : Nat} {A : Option Addr} {rs : List RfW} (h : RfRows w B A n c rs) (hl : rs.length = n) (h40 : ∀ r ∈ rs, r.x.length = 40) {k : Nat} (hk : k < n) :
    ∃ b off r, A = some ⟨b, off, none⟩ ∧ b < B ∧ rs[k]? = some r ∧ r ∈ rs ∧ w.rangeAt b (off + k * 40) r.x := by
  obtain ⟨b, off, x, h1, h2, h3, h4, h5⟩ := rd_row (xss := rs.map RfW.x) h (fun x hx => by
    obtain ⟨e, he, rfl⟩ := List.mem_map.1 hx
    exact h40 e he) (by rw [List.length_map]; exact hl) hk
  rw [List.getElem?_map] at h3
  cases hq : rs[k]? with
  | none => rw [hq] at h3; cases h3
  | some e =>
    rw [hq] at h3
    injection h3 with h3
    subst h3
    exact ⟨b, off, e, h1, h2, rfl, List.mem_of_getElem? hq, h5⟩
def LightR (rs : List RfW) (n : Nat) : Prop := n ≤ 40 ∧ ∀ r ∈ rs, r.m ≤ 200 ∧ r.sn ≤ 32768
def HvPost3 (rs : List RfW) (n : Nat) (w : World) (e : Ending) (w' : World) : Prop := (∃ hb : Bool, e = .returned (.bool hb) ∧ (hb = false → LightR rs n)) ∧ Below w.heap.size w w'
set_option maxHeartbeats 3200000 in
theorem heavy_any (A : Option Addr) (n c : Nat) (rs : List RfW) (w : World) (hy : RfRows w w.heap.size A n c rs) (hl : rs.length = n) (hok : ∀ r ∈ rs, r.Ok w w.heap.size) :
    Calls Tryd.prog 10 #[.slice A n c] w (HvPost3 rs n w) := by
  have hcap : n ≤ c := hy.2.1
  rcases Decidable.em (40 < n) with h40 | h40
  · have HP : Hid (HvPost3 rs n w (.returned (.bool true)) w) := ⟨⟨true, rfl, fun h => by cases h⟩, Below.refl _ _⟩
    obtain ⟨J, hJ⟩ : ∃ J, HvPost3 rs n w = J := ⟨_, rfl⟩
    rw [hJ] at HP ⊢
    clear hJ hy hl hok
    go_enter Tryd.func10, Tryd.ntmps10
    go_wp2_with fail
    exact HP.out
  have HP : Hid (∀ w', Below w.heap.size w w' → HvPost3 rs n w (.returned (.bool true)) w') := fun w' hb => ⟨⟨true, rfl, fun h => by cases h⟩, hb⟩
  have HF : Hid ((∀ r ∈ rs, r.m ≤ 200 ∧ r.sn ≤ 32768) → ∀ w', Below w.heap.size w w' → HvPost3 rs n w (.returned (.bool false)) w') := fun h w' hb => ⟨⟨false, rfl, fun _ => ⟨by omega, h⟩⟩, hb⟩
  obtain ⟨J, hJ⟩ : ∃ J, HvPost3 rs n w = J := ⟨_, rfl⟩
  rw [hJ] at HP HF ⊢
  have HE : Hid (∀ i, i < n → ∃ b off, ∃ r : RfW, A = some ⟨b, off, none⟩ ∧ b < w.heap.size ∧ rs[i]? = some r ∧ r.Ok w w.heap.size ∧ w.rangeAt b (off + i * 40 + 1) (hardC r.x)) := fun i hi => by
    obtain ⟨b, off, r, q1, q2, q3, q4, q5⟩ := rf_row hy hl (fun r hr => (hok r hr).at'.len) hi
    exact ⟨b, off, r, q1, q2, q3, hok r q4, hard_range q5⟩
  have HT : Hid (rs.take n = rs) := List.take_of_length_le (by omega)
  clear hJ hy hl hok
  go_enter Tryd.func10, Tryd.ntmps10
  go_wp2_with fail
  go_loopg [3] n (fun g s3 wr => ∃ i : Nat, i + g = n ∧ s3 = .int .i64 i ∧ (∀ r ∈ rs.take i, r.m ≤ 200 ∧ r.sn ≤ 32768) ∧ Below w.heap.size w wr)
  case atStart => exact ⟨0, by omega, rfl, fun r h => by simp at h, Below.refl _ _⟩
  case round =>
    obtain ⟨i, hig, rfl, hall, hbr⟩ := hrel
    have Hig := Lib.hid hig
    have Hall := Lib.hid hall
    have hin : i ≤ n := by omega
    clear hig hall
    by_cases hlt : i < n
    · obtain ⟨b, off, r, rfl, hb, hq, hrok, hrg⟩ := HE.out i hlt
      have hrg' := Lib.hid (range_below hrg hbr hb)
      have hok' := hrok.below hbr hbr.size
      have HHv : Hid (Calls Tryd.prog 23 #[.agg (hardC r.x).toArray] wr (HvPost2 r.m r.sn wr)) := Heavy2_any (hardC r.x) r.base r.bt r.A r.m r.c r.S r.sn r.sc r.es wr hok'.hd hok'.rows hok'.len hok'.strs
      have Hsz : Hid ((Tryd.prog.info? 29).map (·.size) = some (hardC r.x).length) := by
        unfold Hid
        rw [hok'.hd.len]
        exact size10
      have Htk : Hid (rs.take (i + 1) = rs.take i ++ [r]) := by
        unfold Hid
        rw [List.take_add_one, hq]
        rfl
      obtain ⟨hc, hhc⟩ : ∃ hc, hardC r.x = hc := ⟨_, rfl⟩
      rw [hhc] at hrg' HHv Hsz
      clear hrok hok' hrg hq HE hhc
      go_wp2_with (refine Go.wpList_load_mid rfl 29 (.tmp 16) rfl b (off + i * 40 + 1) rfl hc _ hrg'.out Tryd.underlying29 rfl Hsz.out ?_)
      refine HHv.out.mono ?_
      rintro e w2 ⟨⟨hv, rfl, hf⟩, hb2⟩
      have hbr2 := hbr.trans (hb2.mono hbr.size)
      have Hf := Lib.hid hf
      clear hf
      cases hv
      case' true =>
        go_wp2_with fail
        exact HP.out _ hbr2
      have hf2 : Hid (r.m ≤ 200 ∧ r.sn ≤ 32768) := Hf.out rfl
      have Hall2 : Hid (∀ q ∈ rs.take (i + 1), q.m ≤ 200 ∧ q.sn ≤ 32768) := fun q h => by
        rw [Htk.out, List.mem_append] at h
        rcases h with h | h
        · exact Hall.out q h
        · simp at h; subst h; exact hf2.out
      clear Hf
      go_wp2_with fail
      go_roundg (gk - 1)
      case rel => exact ⟨i + 1, by have := Hig.out; omega, by go_num, Hall2.out, hbr2⟩
      case measure => have := Hig.out; omega
    · obtain rfl : i = n := by omega
      have h := Hall.out
      rw [HT.out] at h
      have HF2 := Lib.hid (HF.out h _ hbr)
      clear HE h HF
      go_wp2_with fail
      exact HF2.out
end Go.Proofs.YtkckncggiicciaaDoor
/-
  The walk of law 6's HeavyPairs.
-/
namespace Go.Proofs.YtkckncggiicciaaDoor
open Go.RowKit
set_option maxRecDepth 100000
def LightP (ps : List (ByteArray × Va)) : Prop := ∀ p ∈ ps, p.1.size ≤ 2000 ∧ p.2.s.size ≤ 2000
def HpPost (ps : List (ByteArray × Va)) (n : Nat) (w : World) (e : Ending) (w' : World) : Prop := (∃ hb : Bool, e = .returned (.bool hb) ∧ (hb = false → n ≤ 200 ∧ LightP ps)) ∧ Below w.heap.size w w'
set_option maxHeartbeats 3200000 in
theorem HeavyPairs_any (A : Option Addr) (n c : Nat) (ps : List (ByteArray × Va)) (w : World) (hy : PrRows w w.heap.size A n c ps) (hl : ps.length = n) (hok : ∀ p ∈ ps, p.1.size ≤ maxLen ∧ p.2.s.size ≤ maxLen) :
    Calls Tryd.prog 33 #[.slice A n c] w (HpPost ps n w) := by
  have hcap : n ≤ c := hy.2.1
  have hcm : c ≤ maxLen := hy.2.2.1
  unfold maxLen at hcm
  rcases Decidable.em (200 < n) with h200 | h200
  · have HP : Hid (HpPost ps n w (.returned (.bool true)) w) := ⟨⟨true, rfl, fun h => by cases h⟩, Below.refl _ _⟩
    obtain ⟨J, hJ⟩ : ∃ J, HpPost ps n w = J := ⟨_, rfl⟩
    rw [hJ] at HP ⊢
    clear hJ hy hl hok
    go_enter Tryd.func33, Tryd.ntmps33
    go_wp2_with fail
    exact HP.out
  have HP : Hid (∀ w', Below w.heap.size w w' → HpPost ps n w (.returned (.bool true)) w') := fun w' hb => ⟨⟨true, rfl, fun h => by cases h⟩, hb⟩
  have HF : Hid (LightP ps → ∀ w', Below w.heap.size w w' → HpPost ps n w (.returned (.bool false)) w') := fun h w' hb => ⟨⟨false, rfl, fun _ => ⟨by omega, h⟩⟩, hb⟩
  obtain ⟨J, hJ⟩ : ∃ J, HpPost ps n w = J := ⟨_, rfl⟩
  rw [hJ] at HP HF ⊢
  have HE : Hid (∀ i, i < n → ∃ b off, ∃ p : ByteArray × Va, A = some ⟨b, off, none⟩ ∧ b < w.heap.size ∧ ps.take (i + 1) = ps.take i ++ [p] ∧ p.1.size ≤ maxLen ∧ p.2.s.size ≤ maxLen ∧ w.cell? ⟨b, off + i * 4, none⟩ = some (.string p.1) ∧ w.cell? ⟨b, off + i * 4 + 3, none⟩ = some (.string p.2.s)) := fun i hi => by
    obtain ⟨b, off, p, q1, q2, q3, q4, q5⟩ := pr_row hy hl hi
    have h0 := q5 0 _ (show (prC p)[0]? = some (.string p.1) from rfl)
    rw [Nat.add_zero] at h0
    refine ⟨b, off, p, q1, q2, ?_, (hok p q4).1, (hok p q4).2, h0, q5 3 _ rfl⟩
    rw [List.take_add_one, List.getElem?_eq_getElem (by omega)]
    rw [← q3, List.getD_eq_getElem?_getD, List.getElem?_eq_getElem (by omega)]
    rfl
  have HT : Hid (ps.take n = ps) := List.take_of_length_le (by omega)
  clear hJ hy hl hok
  go_enter Tryd.func33, Tryd.ntmps33
  go_wp2_with fail
  go_loopg [3] n (fun g s3 wr => ∃ i : Nat, i + g = n ∧ s3 = .int .i64 i ∧ LightP (ps.take i) ∧ Below w.heap.size w wr)
  case atStart => exact ⟨0, by omega, rfl, fun r h => by simp at h, Below.refl _ _⟩
  case round =>
    obtain ⟨i, hig, rfl, hall, hbr⟩ := hrel
    have Hig := Lib.hid hig
    have Hall := Lib.hid hall
    have hin : i ≤ n := by omega
    clear hig hall
    by_cases hlt : i < n
    · obtain ⟨b, off, ⟨key, v⟩, rfl, hb, htk, hz1, hz2, y0, y1⟩ := HE.out i hlt
      have x0 := (hbr.cell (p := ⟨b, off + i * 4, none⟩) hb).trans y0
      have x1 := (hbr.cell (p := ⟨b, off + i * 4 + 3, none⟩) hb).trans y1
      have Htk := Lib.hid htk
      dsimp only at hz1 hz2 x0 x1
      unfold maxLen at hz1 hz2
      clear y0 y1 htk HE
      rcases Decidable.em (2000 < key.size) with g1 | g1
      case' inr => rcases Decidable.em (2000 < v.s.size) with g2 | g2
      case' inr.inr =>
        have Hall2 : Hid (LightP (ps.take (i + 1))) := fun q h => by
          rw [Htk.out, List.mem_append] at h
          rcases h with h | h
          · exact Hall.out q h
          · simp at h
            subst h
            exact ⟨by show key.size ≤ 2000; omega, by show v.s.size ≤ 2000; omega⟩
      all_goals
        go_wp2_with fail
        first
          | exact HP.out _ hbr
          | go_roundg (gk - 1)
      case rel => exact ⟨i + 1, by have := Hig.out; omega, by go_num, Hall2.out, hbr⟩
      case measure => have := Hig.out; omega
    · obtain rfl : i = n := by omega
      have h := Hall.out
      rw [HT.out] at h
      have HF2 := Lib.hid (HF.out h _ hbr)
      clear HE h HF
      go_wp2_with fail
      exact HF2.out
end Go.Proofs.YtkckncggiicciaaDoor
/-
  The walk of law 7's Heavy.
-/
namespace Go.Proofs.YtkckncggiicciaaDoor
open Go.RowKit
set_option maxRecDepth 100000
/-- What a client was told last. -/
structure Se where
  cl : Int
  sq : Int
  code : Int
  v : Va
def Se.cells (s : Se) : List Value := [.int .i64 s.cl, .int .i64 s.sq, .int .i64 s.code, .int .i64 s.v.k, .float .f64 s.v.x, .string s.v.s]
def se0 : Se := ⟨0, 0, 0, ⟨0, 0, ⟨#[]⟩⟩⟩
theorem size6s : (Tryd.prog.info? 83).map (·.size) = some 6 := by kernel_rfl
def SeRows (w : World) (B : Nat) (A : Option Addr) (n c : Nat) (ss : List Se) : Prop := Rd w B 6 A n c (ss.map Se.cells).flatten
theorem se_row {w : World} {B n c : Nat} {A : Option Addr} {ss : List Se} (h : SeRows w B A n c ss) (hl : ss.length = n) {k : Nat} (hk : k < n) :
    ∃ b off p, A = some ⟨b, off, none⟩ ∧ b < B ∧ ss.getD k se0 = p ∧ p ∈ ss ∧ w.rangeAt b (off + k * 6) p.cells := by
  obtain ⟨b, off, x, h1, h2, h3, h4, h5⟩ := rd_row (xss := ss.map Se.cells) h (fun x hx => by
    obtain ⟨e, _, rfl⟩ := List.mem_map.1 hx
    rfl) (by rw [List.length_map]; exact hl) hk
  rw [List.getElem?_map] at h3
  cases hq : ss[k]? with
  | none => rw [hq] at h3; cases h3
  | some e =>
    rw [hq] at h3
    injection h3 with h3
    subst h3
    exact ⟨b, off, e, h1, h2, by simp [List.getD, hq], List.mem_of_getElem? hq, h5⟩
def HmPost (ps : List (ByteArray × Va)) (n : Nat) (w : World) (e : Ending) (w' : World) : Prop := (∃ hb : Bool, e = .returned (.bool hb) ∧ (hb = false → n ≤ 200 ∧ LightP ps)) ∧ Below w.heap.size w w'
set_option maxHeartbeats 3200000 in
theorem HeavyM_any (A : Option Addr) (n c : Nat) (B : Option Addr) (k d : Nat) (ps : List (ByteArray × Va)) (ss : List Se) (w : World) (hy : PrRows w w.heap.size A n c ps) (hl : ps.length = n) (hok : ∀ p ∈ ps, p.1.size ≤ maxLen ∧ p.2.s.size ≤ maxLen)
    (hz : SeRows w w.heap.size B k d ss) (hsl : ss.length = k) (hso : ∀ s ∈ ss, s.v.s.size ≤ maxLen) :
    Calls Tryd.prog 11 #[.agg #[.slice A n c, .slice B k d]] w (HmPost ps n w) := by
  have hkd : k ≤ d := hz.2.1
  have hdm : d ≤ maxLen := hz.2.2.1
  unfold maxLen at hdm
  obtain ⟨W1, hW1⟩ : ∃ W1, w.alloc (.cells #[.slice A n c, .slice B k d] 44) = W1 := ⟨_, rfl⟩
  have hob : Below w.heap.size w W1 := by rw [← hW1]; exact alloc_below w _
  have hz1 : W1.heap.size = w.heap.size + 1 := by rw [← hW1]; simp
  have hrow : W1.heap[w.heap.size]? = some (.cells #[.slice A n c, .slice B k d] 44 (0, 0)) := by rw [← hW1]; exact heap_alloc_new w _
  have HH : Hid (Calls Tryd.prog 33 #[.slice A n c] W1 (HpPost ps n W1)) := HeavyPairs_any A n c ps W1 ((Rd.below hy hob (Nat.le_refl _)).mono hob.size) hl hok
  have HP : Hid (∀ w', Below w.heap.size w w' → HmPost ps n w (.returned (.bool true)) w') := fun w' hb => ⟨⟨true, rfl, fun h => by cases h⟩, hb⟩
  have HF : Hid ((n ≤ 200 ∧ LightP ps) → ∀ w', Below w.heap.size w w' → HmPost ps n w (.returned (.bool false)) w') := fun h w' hb => ⟨⟨false, rfl, fun _ => h⟩, hb⟩
  have Hc : Hid (∀ w', Below W1.heap.size W1 w' → w'.cell? ⟨w.heap.size, 0, none⟩ = some (.slice A n c) ∧ w'.cell? ⟨w.heap.size, 1, none⟩ = some (.slice B k d)) := fun w' hb => by
    have q := (hb.block w.heap.size (by omega)).trans hrow
    exact ⟨cell_of_row _ _ _ _ _ _ q, cell_of_row _ _ _ _ _ _ q⟩
  have HE : Hid (∀ i, i < k → ∃ b off, ∃ s : ByteArray, B = some ⟨b, off, none⟩ ∧ b < w.heap.size ∧ s.size ≤ maxLen ∧ w.cell? ⟨b, off + i * 6 + 5, none⟩ = some (.string s)) := fun i hi => by
    obtain ⟨b, off, p, q1, q2, q3, q4, q5⟩ := se_row hz hsl hi
    exact ⟨b, off, p.v.s, q1, q2, hso p q4, q5 5 _ rfl⟩
  obtain ⟨J, hJ⟩ : ∃ J, HmPost ps n w = J := ⟨_, rfl⟩
  rw [hJ] at HP HF ⊢
  obtain ⟨y0, y1⟩ := Hc.out W1 (Below.refl _ _)
  have HW1 := Lib.hid hW1
  have Hup : Hid (∀ w', Below W1.heap.size W1 w' → Below w.heap.size w w') := fun w' hb => hob.trans (hb.mono (by omega))
  clear hW1 hJ hy hl hok hz hsl hso hrow hob
  go_enter Tryd.func11, Tryd.ntmps11
  go_wp2_with fail
  rw [HW1.out]
  refine HH.out.mono ?_
  rintro e w2 ⟨⟨hv, rfl, hf⟩, hb2⟩
  obtain ⟨z0, z1⟩ := Hc.out w2 hb2
  have Hf := Lib.hid hf
  have hbw := Hup.out _ hb2
  clear y0 y1 hf
  cases hv
  case' true =>
    go_wp2_with fail
    exact HP.out _ hbw
  rcases Decidable.em (200 < k) with hbig | hbig
  · go_wp2_with fail
    exact HP.out _ hbw
  have Hf2 := Lib.hid (HF.out (Hf.out rfl))
  clear Hf HF
  go_wp2_with fail
  go_loopg [3] k (fun g s3 wr => ∃ i : Nat, i + g = k ∧ s3 = .int .i64 i ∧ Below W1.heap.size W1 wr)
  case atStart => exact ⟨0, by omega, rfl, hb2⟩
  case round =>
    obtain ⟨i, hig, rfl, hbr⟩ := hrel
    have Hig := Lib.hid hig
    have hin : i ≤ k := by omega
    obtain ⟨x0, x1⟩ := Hc.out _ hbr
    have hbr' := Hup.out _ hbr
    clear hig z0 z1
    by_cases hlt : i < k
    · obtain ⟨b, off, s, rfl, hb, hsz, q0⟩ := HE.out i hlt
      have q1 := (hbr'.cell (p := ⟨b, off + i * 6 + 5, none⟩) hb).trans q0
      unfold maxLen at hsz
      clear q0 HE
      rcases Decidable.em (2000 < s.size) with g1 | g1
      all_goals
        go_wp2_with fail
        first
          | exact HP.out _ hbr'
          | go_roundg (gk - 1)
      case rel => exact ⟨i + 1, by have := Hig.out; omega, by go_num, hbr⟩
      case measure => have := Hig.out; omega
    · obtain rfl : i = k := by omega
      clear HE
      go_wp2_with fail
      exact Hf2.out _ hbr'
end Go.Proofs.YtkckncggiicciaaDoor
/-
  ReportExact: replicas that came in, with all that they lead to; what both tellers say of one.
-/
namespace Go.Proofs.YtkckncggiicciaaDoor
open Go.RowKit
set_option maxRecDepth 100000
structure Rp where
  r : Rf
  S : Option Addr
  sn : Nat
  sc : Nat
  A : Option Addr
  m : Nat
  c : Nat
  R : Option Addr
  rn : Nat
  rc : Nat
  sb : List UInt8
  es : List En
  qs : List Rq
def Rp.x (p : Rp) : List Value := p.r.cells p.S p.sn p.sc p.A p.m p.c p.R p.rn p.rc
structure Rp.Ok (p : Rp) (w : World) (B : Nat) : Prop where
  snap : By w B p.S p.sn p.sc p.sb
  ent : EnRows w B p.A p.m p.c p.es
  len : p.es.length = p.m
  ins : ∀ e ∈ p.es, e.In
  strs : ∀ e ∈ p.es, e.Str
  rds : RqRows w B p.R p.rn p.rc p.qs
  rlen : p.qs.length = p.rn
  rby : p.rn * 128 ≤ 140737488355328
  id : In64 p.r.id
  role : In64 p.r.role
  term : In64 p.r.h.term
  lead : In64 p.r.lead
  commit : In64 p.r.commit
  base : In64 p.r.h.base
theorem Rp.Ok.below {p : Rp} {w w' : World} {B B' : Nat} (h : p.Ok w B) (hb : Below B w w') (hB : B ≤ B') : p.Ok w' B' :=
  ⟨(Rd.below h.snap hb (Nat.le_refl _)).mono hB, (Rd.below h.ent hb (Nat.le_refl _)).mono hB, h.len, h.ins, h.strs, (Rd.below h.rds hb (Nat.le_refl _)).mono hB, h.rlen, h.rby, h.id, h.role, h.term, h.lead, h.commit, h.base⟩
def Rp.W (p : Rp) : RfW := ⟨p.x, p.r.id, p.r.h.term, p.r.h.base, p.r.h.bt, p.r.commit, p.r.role, p.r.lead, p.S, p.sn, p.sc, p.A, p.m, p.c, p.es⟩
theorem Rp.Ok.w {p : Rp} {w : World} {B : Nat} (h : p.Ok w B) : p.W.Ok w B := ⟨raft_at p.r _ _ _ _ _ _ _ _ _, rfl, h.ent, h.len, h.ins, h.strs⟩
theorem Rp.len (p : Rp) : p.x.length = 40 := rfl
def RpRows (w : World) (B : Nat) (A : Option Addr) (n c : Nat) (ps : List Rp) : Prop := Rd w B 40 A n c (ps.map Rp.x).flatten
theorem RpRows.w {w : World} {B n c : Nat} {A : Option Addr} {ps : List Rp} (h : RpRows w B A n c ps) : RfRows w B A n c (ps.map Rp.W) := by
  unfold RfRows
  rw [List.map_map]
  exact h
theorem rp_row {w : World} {B n c : Nat} {A : Option Addr} {ps : List Rp} (h : RpRows w B A n c ps) (hl : ps.length = n) {k : Nat} (hk : k < n) :
    ∃ b off p, A = some ⟨b, off, none⟩ ∧ b < B ∧ ps[k]? = some p ∧ p ∈ ps ∧ w.rangeAt b (off + k * 40) p.x := by
  obtain ⟨b, off, x, h1, h2, h3, h4, h5⟩ := rd_row (xss := ps.map Rp.x) h (fun x hx => by
    obtain ⟨e, he, rfl⟩ := List.mem_map.1 hx
    exact e.len) (by rw [List.length_map]; exact hl) hk
  rw [List.getElem?_map] at h3
  cases hq : ps[k]? with
  | none => rw [hq] at h3; cases h3
  | some e =>
    rw [hq] at h3
    injection h3 with h3
    subst h3
    exact ⟨b, off, e, h1, h2, rfl, List.mem_of_getElem? hq, h5⟩
theorem logAt_rows {w : World} {A : Option Addr} {m c : Nat} {es : List En} (h : EnRows w w.heap.size A m c es) (hl : es.length = m) (hm : m ≤ 1000) : LogAt w A m c := by
  refine ⟨h.2.1, by omega, fun hp => ?_⟩
  obtain ⟨b, off, e, q1, q2, q3, q4, q5, q6⟩ := en_row h hl (k := m - 1) (by omega)
  have := q6 0 _ rfl
  rw [Nat.add_zero] at this
  exact ⟨b, off, e.term, q1, q2, this⟩
/-- What is told of a log, by either teller. -/
def logT (base : Int) (es : List En) : List (List UInt8) := if logB base = true then logL base es es.length else []
def SpPost (T : List (List UInt8)) (w : World) (e : Ending) (w' : World) : Prop := (∃ v, e = .returned v ∧ (Sp.rd T.length (T.map sV)).holds v w') ∧ Below w.heap.size w w'
theorem rlog_sp {base : Int} {es : List En} {w : World} {e : Ending} {w' : World} (h : RlogPost base es w e w') : SpPost (logT base es) w e w' := by
  unfold RlogPost at h
  unfold SpPost logT
  obtain ⟨h1, h2⟩ := h
  refine ⟨?_, h2⟩
  cases hB : logB base
  · rw [if_neg (by rw [hB]; decide)] at h1
    rw [if_neg (by decide)]
    exact ⟨_, h1, _, _, rfl, Rd.nil _ _ _⟩
  · rw [if_pos hB] at h1
    rw [if_pos rfl]
    obtain ⟨v, he, ho⟩ := h1
    obtain ⟨A, c, rfl, hr⟩ := ownS_rd ho rfl
    exact ⟨_, he, _, _, rfl, hr⟩
theorem rpairs_sp {ps : List (ByteArray × Va)} {w : World} {e : Ending} {w' : World} (h : RPairsPost ps w e w') : SpPost (linesP ps ps.length) w e w' := by
  obtain ⟨⟨v, he, ho⟩, h2⟩ := h
  obtain ⟨A, c, rfl, hr⟩ := ownS_rd ho rfl
  exact ⟨⟨_, he, _, _, rfl, hr⟩, h2⟩
def lagT (ids cs : List Int) (ks : List Nat) : List (List UInt8) := if okC cs = true then linesL ids ks else []
def lagV (cs : List Int) (ks : List Nat) : Nat := if okC cs = true then meanV (ks.map fi) else meanV []
theorem lags_sp {ids cs : List Int} {ks : List Nat} {w : World} {e : Ending} {w' : World} (h : LagsPost ids cs ks w e w') :
    (∃ A c, e = .returned (.tuple #[.slice A (lagT ids cs ks).length c, .float .f64 (lagV cs ks)]) ∧ Rd w' w'.heap.size 1 A (lagT ids cs ks).length c ((lagT ids cs ks).map sV)) ∧ Below w.heap.size w w' := by
  unfold LagsPost at h
  unfold lagT lagV
  obtain ⟨h1, h2⟩ := h
  refine ⟨?_, h2⟩
  cases hB : okC cs
  · rw [if_neg (by rw [hB]; decide)] at h1
    rw [if_neg (by decide), if_neg (by decide)]
    exact ⟨_, _, h1, Rd.nil _ _ _⟩
  · rw [if_pos hB] at h1
    rw [if_pos rfl, if_pos rfl]
    obtain ⟨v, he, ho⟩ := h1
    obtain ⟨A, c, rfl, hr⟩ := ownS_rd ho rfl
    exact ⟨_, _, he, hr⟩
theorem rep_facts (p : Rp) (S' : Option Addr) (sc' : Nat) (A' : Option Addr) (c' : Nat) (R' : Option Addr) (rc' : Nat) (w : World) (hok : p.Ok w w.heap.size) (hs : By w w.heap.size S' p.sn sc' p.sb) (he : EnRows w w.heap.size A' p.m c' p.es) (hq : RqRows w w.heap.size R' p.rn rc' p.qs)
    (hm : p.m ≤ 200) (hI : ItAt w) (x : List Value) (hx : p.r.cells S' p.sn sc' A' p.m c' R' p.rn rc' = x) :
    ∃ LB T, (∀ w', Below w.heap.size w w' → Calls Tryd.prog 13 #[.agg x.toArray] w' fun e w'' => e = .returned (.string LB) ∧ Below w'.heap.size w' w'') ∧
      (∀ w', Below w.heap.size w w' → Calls Tryd.prog 14 #[.agg p.x.toArray] w' fun e w'' => e = .returned (.string LB) ∧ Below w'.heap.size w' w'') ∧
      (∀ w', Below w.heap.size w w' → Calls Tryd.prog 16 #[.agg x.toArray] w' (SpPost T w')) ∧
      (∀ w', Below w.heap.size w w' → Calls Tryd.prog 17 #[.agg p.x.toArray] w' (SpPost T w')) ∧
      (∀ w', Below w.heap.size w w' → Calls Tryd.prog 18 #[.agg x.toArray, .agg p.x.toArray] w' fun e w'' => e = .returned (.bool true) ∧ Below w'.heap.size w' w'') := by
  subst hx
  refine ⟨⟨(repL p.r.id p.r.role p.r.h.term p.r.lead p.r.commit p.r.h.base (lastT p.r.h.base p.m)).toArray⟩, logT p.r.h.base p.es, fun w' hb => ?_, fun w' hb => ?_, fun w' hb => ?_, fun w' hb => ?_, fun w' hb => ?_⟩
  · have he' : EnRows w' w'.heap.size A' p.m c' p.es := (Rd.below he hb (Nat.le_refl _)).mono hb.size
    exact Replica_any _ p.r.id p.r.h.term p.r.h.base p.r.h.bt p.r.commit p.r.role p.r.lead A' p.m c' w' (raft_at p.r _ _ _ _ _ _ _ _ _) (logAt_rows he' hok.len (by omega)) hok.id hok.role hok.term hok.lead hok.commit hok.base (hI.below hb)
  · have hk := hok.below hb hb.size
    exact RReplica_any _ p.r.id p.r.h.term p.r.h.base p.r.h.bt p.r.commit p.r.role p.r.lead p.A p.m p.c w' (raft_at p.r _ _ _ _ _ _ _ _ _) (logAt_rows hk.ent hok.len (by omega)) hok.id hok.role hok.term hok.lead hok.commit hok.base (hI.below hb)
  · have he' : EnRows w' w'.heap.size A' p.m c' p.es := (Rd.below he hb (Nat.le_refl _)).mono hb.size
    exact (RLog_any _ p.r.id p.r.h.term p.r.h.base p.r.h.bt p.r.commit p.r.role p.r.lead A' p.m c' p.es w' (raft_at p.r _ _ _ _ _ _ _ _ _) he' hok.len (by omega) hok.ins (hI.below hb)).mono fun _ _ h => rlog_sp h
  · have hk := hok.below hb hb.size
    exact (RfLog_any _ p.r.id p.r.h.term p.r.h.base p.r.h.bt p.r.commit p.r.role p.r.lead p.A p.m p.c p.es w' (raft_at p.r _ _ _ _ _ _ _ _ _) hk.ent hok.len (by omega) hok.ins (hI.below hb)).mono fun _ _ h => rlog_sp h
  · have hk := hok.below hb hb.size
    have hs' : By w' w'.heap.size S' p.sn sc' p.sb := (Rd.below hs hb (Nat.le_refl _)).mono hb.size
    have he' : EnRows w' w'.heap.size A' p.m c' p.es := (Rd.below he hb (Nat.le_refl _)).mono hb.size
    have hq' : RqRows w' w'.heap.size R' p.rn rc' p.qs := (Rd.below hq hb (Nat.le_refl _)).mono hb.size
    exact kRaft_self p.r S' p.S p.sn sc' p.sc A' p.A p.m c' p.c R' p.R p.rn rc' p.rc p.sb p.es p.qs w' hs' hk.snap he' hk.ent hok.len hq' hk.rds hok.rlen
def ksL (cs : List Int) : List Nat := cs.map fun c => (topL (cs.headD 0) cs - c).toNat
theorem topL_le' (c0 : Int) (cs : List Int) : ∀ c ∈ cs, c ≤ topL c0 cs := by
  rw [← List.reverse_reverse cs]
  induction cs.reverse with
  | nil => intro c h; simp at h
  | cons a r ih =>
    intro c h
    rw [List.reverse_cons, topL_snoc]
    rw [List.reverse_cons, List.mem_append] at h
    rcases h with h | h
    · have := ih c h
      omega
    · simp at h
      subst h
      omega
theorem ksL_at (cs : List Int) (i : Nat) (c : Int) (h : cs[i]? = some c) : ∃ k : Nat, (ksL cs)[i]? = some k ∧ (k : Int) = topL (cs.headD 0) cs - c := by
  refine ⟨(topL (cs.headD 0) cs - c).toNat, by unfold ksL; rw [List.getElem?_map, h]; rfl, ?_⟩
  have := topL_le' (cs.headD 0) cs c (List.mem_of_getElem? h)
  omega
end Go.Proofs.YtkckncggiicciaaDoor
/-
  The walk of ReportExact; written by genexw.py.
-/
namespace Go.Proofs.YtkckncggiicciaaDoor
open Go.RowKit
set_option maxRecDepth 100000
/-- A struct's load out of a row, behind a guard that says yes. -/
theorem wpList_load_midG {P : Program} {ops : Array Oper} {rest : List Oper} {op : Oper} {a : Act} {w : World} {Q : Exit → Act → World → Prop} (hw : Region.wanted op (yielded ops a.tmps) = true) (ty : TypeId) (x : Operand) (ho : op.op = .load ty x)
    (b o : Nat) (hx : a.eval x = .pointer (some ⟨b, o, none⟩)) (cs : List Value) (d : TypeDesc) (hc : w.rangeAt b o cs)
    (hu : P.underlying ty = some d) (hd : d.isRow = true) (hi : (P.info? ty).map (·.size) = some cs.length)
    (h : wpList P ops Q rest (a.put op.dst (.agg cs.toArray)) w) : wpList P ops Q (op :: rest) a w :=
  wpList_step fun K hK => by
    rw [if_pos hw]
    exact Go.wp_load_mid ty x ho b o hx cs d hc hu hd hi (hK _ _ h)
set_option maxHeartbeats 12800000 in
theorem exact_walk (A : Option Addr) (n cap : Nat) (ps : List Rp) (PA : Option Addr) (pn pc : Nat) (prs : List (ByteArray × Va)) (SA : Option Addr) (sn sc : Nat) (ss : List Se) (W : World) (hy : RpRows W W.heap.size A n cap ps) (hl : ps.length = n) (hok : ∀ p ∈ ps, p.Ok W W.heap.size)
    (hp : PrRows W W.heap.size PA pn pc prs) (hpl : prs.length = pn) (hpo : ∀ p ∈ prs, p.1.size ≤ maxLen ∧ p.2.s.size ≤ maxLen) (hpx : ∀ p ∈ prs, p.2.x < 18446744073709551616) (hz : SeRows W W.heap.size SA sn sc ss) (hsl : ss.length = sn) (hso : ∀ s ∈ ss, s.v.s.size ≤ maxLen) (hT : TzAt W) (hI : ItAt W) :
    Calls Tryd.prog 4 #[.slice A n cap, .agg #[.slice PA pn pc, .slice SA sn sc]] W
      fun e w' => e = .returned (.bool true) ∧ Below W.heap.size W w' := by
  have hcap : n ≤ cap := hy.2.1
  obtain ⟨W1, hW1⟩ : ∃ W1, W.alloc (.cells #[.slice PA pn pc, .slice SA sn sc] 44) = W1 := ⟨_, rfl⟩
  have hb1 : Below W.heap.size W W1 := by rw [← hW1]; exact alloc_below W _
  have hz1 : W1.heap.size = W.heap.size + 1 := by rw [← hW1]; simp
  have hrow : W1.heap[W.heap.size]? = some (.cells #[.slice PA pn pc, .slice SA sn sc] 44 (0, 0)) := by rw [← hW1]; exact heap_alloc_new W _
  have Hc : Hid (∀ w', Below W1.heap.size W1 w' → w'.cell? ⟨W.heap.size, 0, none⟩ = some (.slice PA pn pc) ∧ w'.cell? ⟨W.heap.size, 1, none⟩ = some (.slice SA sn sc)) := fun w' hb => by
    have q := (hb.block W.heap.size (by omega)).trans hrow
    exact ⟨cell_of_row _ _ _ _ _ _ q, cell_of_row _ _ _ _ _ _ q⟩
  have Hup : Hid (∀ w', Below W1.heap.size W1 w' → Below W.heap.size W w') := fun w' hb => hb1.trans (hb.mono (by omega))
  have HHv : Hid (Calls Tryd.prog 10 #[.slice A n cap] W1 (HvPost3 (ps.map Rp.W) n W1)) := by
    have hy1 : RpRows W1 W1.heap.size A n cap ps := (Rd.below hy hb1 (Nat.le_refl _)).mono hb1.size
    refine heavy_any A n cap (ps.map Rp.W) W1 hy1.w (by rw [List.length_map]; exact hl) ?_
    intro r hr
    obtain ⟨p, hp, rfl⟩ := List.mem_map.1 hr
    exact ((hok p hp).below hb1 hb1.size).w
  have HHm : Hid (∀ w', Below W1.heap.size W1 w' → Calls Tryd.prog 11 #[.agg #[.slice PA pn pc, .slice SA sn sc]] w' (HmPost prs pn w')) := fun w' hb => by
    have hbw := Hup.out _ hb
    exact HeavyM_any PA pn pc SA sn sc prs ss w' ((Rd.below hp hbw (Nat.le_refl _)).mono hbw.size) hpl hpo ((Rd.below hz hbw (Nat.le_refl _)).mono hbw.size) hsl hso
  have HE : Hid (∀ i, i < n → ∃ b off p, A = some ⟨b, off, none⟩ ∧ b < W.heap.size ∧ p ∈ ps ∧ p.Ok W W.heap.size ∧ W.rangeAt b (off + i * 40) p.x) := fun i hi => by
    obtain ⟨b, off, p, q1, q2, q3, q4, q5⟩ := rp_row hy hl hi
    exact ⟨b, off, p, q1, q2, q4, hok p q4, q5⟩
  have HLm : Hid (LightR (ps.map Rp.W) n → (n ≤ 40 ∧ ∀ p ∈ ps, p.m ≤ 200 ∧ p.sn ≤ 32768)) := fun h => ⟨h.1, fun p hp => h.2 p.W (List.mem_map_of_mem hp)⟩
  have hxs : ∀ (i : Nat) x, (ps.map Rp.x)[i]? = some x → ∃ id c, (ps.map fun p => p.r.id)[i]? = some id ∧ (ps.map fun p => p.r.commit)[i]? = some c ∧ RfOk x id c := fun i x h => by
    rw [List.getElem?_map] at h ⊢
    rw [List.getElem?_map]
    cases hq : ps[i]? with
    | none => rw [hq] at h; cases h
    | some p =>
      rw [hq] at h
      injection h with h
      subst h
      have hr := raft_at p.r p.S p.sn p.sc p.A p.m p.c p.R p.rn p.rc
      exact ⟨_, _, rfl, rfl, hr.len, hr.one, hr.id, hr.commit⟩
  have HLg : Hid (n ≤ 40 → ∀ w', Below W1.heap.size W1 w' → Calls Tryd.prog 7 #[.slice A n cap] w' (LagsPost (ps.map fun p => p.r.id) (ps.map fun p => p.r.commit) (ksL (ps.map fun p => p.r.commit)) w') ∧ Calls Tryd.prog 19 #[.slice A n cap] w' (LagsPost (ps.map fun p => p.r.id) (ps.map fun p => p.r.commit) (ksL (ps.map fun p => p.r.commit)) w')) := fun h40 w' hb => by
    have hbw := Hup.out _ hb
    have hyw : Rd w' w'.heap.size 40 A n cap (ps.map Rp.x).flatten := (Rd.below hy hbw (Nat.le_refl _)).mono hbw.size
    have hin1 : ∀ id ∈ ps.map (fun p => p.r.id), In64 id := fun id h => by
      obtain ⟨p, hp, rfl⟩ := List.mem_map.1 h
      exact (hok p hp).id
    have hin2 : ∀ c ∈ ps.map (fun p => p.r.commit), In64 c := fun c h => by
      obtain ⟨p, hp, rfl⟩ := List.mem_map.1 h
      exact (hok p hp).commit
    have hkl : (ksL (ps.map fun p => p.r.commit)).length = n := by unfold ksL; rw [List.length_map, List.length_map]; exact hl
    exact ⟨RLags_any A n cap _ _ _ _ w' hyw (by rw [List.length_map]; exact hl) (by rw [List.length_map]; exact hl) (by rw [List.length_map]; exact hl) hkl hxs hin1 hin2 (fun _ => ksL_at _) (by omega) (hI.below hbw),
      RfLags_any A n cap _ _ _ _ w' hyw (by rw [List.length_map]; exact hl) (by rw [List.length_map]; exact hl) (by rw [List.length_map]; exact hl) hkl hxs hin1 hin2 (fun _ => ksL_at _) (by omega) (hI.below hbw)⟩
  have HPr : Hid (pn ≤ 200 ∧ LightP prs → ∀ w', Below W1.heap.size W1 w' → Calls Tryd.prog 21 #[.agg #[.slice PA pn pc, .slice SA sn sc]] w' (SpPost (linesP prs prs.length) w') ∧ Calls Tryd.prog 22 #[.agg #[.slice PA pn pc, .slice SA sn sc]] w' (SpPost (linesP prs prs.length) w')) := fun hlp w' hb => by
    have hbw := Hup.out _ hb
    have hpw : PrRows w' w'.heap.size PA pn pc prs := (Rd.below hp hbw (Nat.le_refl _)).mono hbw.size
    have hok2 : ∀ p ∈ prs, PrOk p := fun p hq => ⟨(hlp.2 p hq).1, hpx p hq, (hpo p hq).2⟩
    exact ⟨(RPairs_any PA pn pc SA sn sc prs w' hpw hpl (by omega) hok2 (hT.below hbw)).mono fun _ _ h => rpairs_sp h, (RfPairs_any PA pn pc SA sn sc prs w' hpw hpl (by omega) hok2 (hT.below hbw)).mono fun _ _ h => rpairs_sp h⟩
  have HWk : Hid (∀ w', Below W1.heap.size W1 w' → Calls Tryd.prog 9 #[] w' fun e w'' => e = .returned (.bool true) ∧ Below w'.heap.size w' w'') := fun w' hb => rwakes_any w' (hI.below (Hup.out _ hb))
  have HTx : Hid (∀ A A' (n c c' : Nat) (l : List (List UInt8)) (w : World), Rd w w.heap.size 1 A n c (l.map sV) → Rd w w.heap.size 1 A' n c' (l.map sV) → Calls Tryd.prog 15 #[.slice A n c, .slice A' n c'] w fun e w' => e = .returned (.bool true) ∧ Below w.heap.size w w') := Texts_self
  have HFl : Hid (∀ x w, Calls Tryd.prog 20 #[.float .f64 x, .float .f64 x] w fun e w' => e = .returned (.bool true) ∧ w = w') := kF_self
  have HI := Lib.hid hI
  have HW1 := Lib.hid hW1
  have Hz1 := Lib.hid hz1
  have hbc : Below W1.heap.size W1 W1 := Below.refl _ _
  clear hW1 hrow hb1 hz1 hy hl hok hp hpl hpo hpx hz hsl hso hT hI hxs
  go_enter Tryd.func4, Tryd.ntmps4
  go_wp2_with fail
  rw [HW1.out]
  refine HHv.out.mono ?_
  rintro e w2 ⟨⟨hv, rfl, hf⟩, hb2⟩
  have Hf := Lib.hid hf
  obtain ⟨y0, y1⟩ := Hc.out _ hb2
  clear hf hbc
  cases hv
  case' true =>
    go_wp2_with fail
    go_ret
    exact ⟨rfl, Hup.out _ hb2⟩
  obtain ⟨h40, hlt⟩ := HLm.out (Hf.out rfl)
  have Hlt := Lib.hid hlt
  clear Hf hlt HLm HHv
  go_wp2_with fail
  refine (HHm.out _ hb2).mono ?_
  rintro e w3 ⟨⟨hv, rfl, hf⟩, hb3'⟩
  have hb3 := bstep hb2 hb3'
  have Hf := Lib.hid hf
  clear hf y0 y1 hb2 hb3'
  cases hv
  case' true =>
    go_wp2_with fail
    go_ret
    exact ⟨rfl, Hup.out _ hb3⟩
  have HPr2 := Lib.hid (HPr.out (Hf.out rfl))
  have HLg2 := Lib.hid (HLg.out h40)
  clear Hf HPr HLg HHm
  go_wp2_with fail
  go_loopg [5, 6] n (fun g s5 s6 wr => ∃ i : Nat, i + g = n ∧ s5 = .int .i64 i ∧ Below W1.heap.size W1 wr)
  case atStart => exact ⟨0, by omega, rfl, hb3⟩
  case round =>
    clear hb3
    obtain ⟨i, hig, rfl, hbr⟩ := hrel
    have Hig := Lib.hid hig
    have hin : i ≤ n := by omega
    clear hig
    by_cases hlt : i < n
    · obtain ⟨b, off, p, rfl, hb, hmem, hpok, hrg⟩ := HE.out i hlt
      have hbw := Hup.out _ hbr
      have hrg' := range_below hrg hbw hb
      have hpk := hpok.below hbw hbw.size
      have hlp := Hlt.out p hmem
      have HTw : Hid (Calls Tryd.prog 12 #[.agg p.x.toArray] wr (TwinRPost p.r p.sn p.m p.rn p.sb p.es p.qs wr)) := TwinRaft_any p.r p.S p.sn p.sc p.A p.m p.c p.R p.rn p.rc p.sb p.es p.qs wr hpk.snap hpk.ent hpk.len hpk.rds hpk.rlen hlp.2 (by omega) hpk.rby
      have Hxl : Hid (p.x.length = 40) := rfl
      have HRF : Hid (∀ (S' : Option Addr) (sc' : Nat) (A' : Option Addr) (c' : Nat) (R' : Option Addr) (rc' : Nat) w, Below wr.heap.size wr w → By w w.heap.size S' p.sn sc' p.sb → EnRows w w.heap.size A' p.m c' p.es → RqRows w w.heap.size R' p.rn rc' p.qs → ∀ x, p.r.cells S' p.sn sc' A' p.m c' R' p.rn rc' = x → ∃ LB T, (∀ w', Below w.heap.size w w' → Calls Tryd.prog 13 #[.agg x.toArray] w' fun e w'' => e = .returned (.string LB) ∧ Below w'.heap.size w' w'') ∧
        (∀ w', Below w.heap.size w w' → Calls Tryd.prog 14 #[.agg p.x.toArray] w' fun e w'' => e = .returned (.string LB) ∧ Below w'.heap.size w' w'') ∧
        (∀ w', Below w.heap.size w w' → Calls Tryd.prog 16 #[.agg x.toArray] w' (SpPost T w')) ∧
        (∀ w', Below w.heap.size w w' → Calls Tryd.prog 17 #[.agg p.x.toArray] w' (SpPost T w')) ∧
        (∀ w', Below w.heap.size w w' → Calls Tryd.prog 18 #[.agg x.toArray, .agg p.x.toArray] w' fun e w'' => e = .returned (.bool true) ∧ Below w'.heap.size w' w'')) :=
        fun S' sc' A' c' R' rc' w hbq h1 h2 h3 x hx => rep_facts p S' sc' A' c' R' rc' w (hpk.below hbq hbq.size) h1 h2 h3 hlp.1 (HI.out.below (hbw.trans (hbq.mono hbw.size))) x hx
      have HR40 : Hid (∀ S' sc' A' c' R' rc', (p.r.cells S' p.sn sc' A' p.m c' R' p.rn rc').length = 40 ∧ ∀ v ∈ p.r.cells S' p.sn sc' A' p.m c' R' p.rn rc', v.oneCell' = true) := fun S' sc' A' c' R' rc' => ⟨rfl, (raft_at p.r S' p.sn sc' A' p.m c' R' p.rn rc').one⟩
      obtain ⟨px, hpx⟩ : ∃ px, p.x = px := ⟨_, rfl⟩
      rw [hpx] at hrg' HTw Hxl HRF
      have Hrg := Lib.hid hrg'
      have Hsz : Hid ((Tryd.prog.info? 33).map (·.size) = some px.length) := by unfold Hid; rw [Hxl.out]; exact size40
      have i0 : (0 : Int) ≤ (i : Int) := by omega
      have i1 : (i : Int) < (n : Int) := by omega
      clear hrg hrg' hpk hlp hpok hmem hpx HE hbw
      go_wp2_with (refine Go.wpList_load_mid rfl 33 (.tmp 25) rfl b (off + i * 40) rfl px _ Hrg.out Tryd.underlying33 rfl Hsz.out ?_)
      refine HTw.out.mono ?_
      rintro e w4 ⟨⟨S', sc', A', c', R', rc', rfl, q1, q2, q3⟩, hb4⟩
      obtain ⟨h40x, hone⟩ := HR40.out S' sc' A' c' R' rc'
      have hrf := HRF.out S' sc' A' c' R' rc'
      obtain ⟨tx, htx⟩ : ∃ tx, p.r.cells S' p.sn sc' A' p.m c' R' p.rn rc' = tx := ⟨_, rfl⟩
      rw [htx] at h40x hone hrf ⊢
      have Hrf := Lib.hid hrf
      have H40x := Lib.hid h40x
      have Hone := Lib.hid hone
      have Htsz : Hid ((Tryd.prog.info? 33).map (·.size) = some tx.length) := by unfold Hid; rw [h40x]; exact size40
      have Q1 := Lib.hid q1
      have Q2 := Lib.hid q2
      have Q3 := Lib.hid q3
      clear h40x hone hrf htx HR40 HRF q1 q2 q3
      go_wp2_with (
        (refine wpList_store_local rfl 33 (.tmp 6) _ rfl tx rfl rfl Htsz.out H40x.out.symm Hone.out ?_
         intro w5 q5 hb5 hz5
         have Q5 := Lib.hid q5
         clear q5))
      have hb45 := bstep hb4 hb5
      have hbr5 := bstep hbr hb45
      obtain ⟨LB, T, K1, K2, K3, K4, K5⟩ := Hrf.out w5 hb45 ((Rd.below Q1.out hb5 (Nat.le_refl _)).mono hb5.size) ((Rd.below Q2.out hb5 (Nat.le_refl _)).mono hb5.size) ((Rd.below Q3.out hb5 (Nat.le_refl _)).mono hb5.size) tx rfl
      have HK1 := Lib.hid K1
      have HK2 := Lib.hid K2
      have HK3 := Lib.hid K3
      have HK4 := Lib.hid K4
      have HK5 := Lib.hid K5
      have HT5 : Hid (∀ w', Below w5.heap.size w5 w' → w'.heap[w4.heap.size]? = some (.cells tx.toArray 33 (0, 0))) := fun w' hb' => (hb'.block _ (by omega)).trans Q5.out
      have HX5 : Hid (∀ w', Below w5.heap.size w5 w' → w'.rangeAt b (off + i * 40) px) := fun w' hb' => range_below Hrg.out (bstep hb45 hb') (Nat.lt_of_lt_of_le hb (Hup.out _ hbr).size)
      have Htsz2 : Hid ((Tryd.prog.info? 33).map (·.size) = some tx.toArray.size) := by unfold Hid; rw [List.size_toArray]; exact Htsz.out
      clear K1 K2 K3 K4 K5 Hrf Q1 Q2 Q3
      go_wp2_with fail
      with_reducible refine wp_region_told (by kernel_rfl) (by kernel_rfl) [.val (.agg tx.toArray),
      .val (.string LB),
      .val (.slice (some ⟨b, off, none⟩) n cap),
      .val (.int .i64 (i : Int)),
      .val (.pointer (some ⟨b, off + i * 40, none⟩)),
      .val (.agg px.toArray),
      .val (.string LB),
      .val (.bool false),
      .val (.bool false),
      .val (.agg tx.toArray),
      .rd (T.length) (T.map sV),
      .val (.slice (some ⟨b, off, none⟩) n cap),
      .val (.int .i64 (i : Int)),
      .val (.pointer (some ⟨b, off + i * 40, none⟩)),
      .val (.agg px.toArray),
      .rd (T.length) (T.map sV),
      .val (.bool true),
      .val (.bool false),
      .val (.bool false),
      .val (.bool false),
      .val (.agg tx.toArray),
      .val (.slice (some ⟨b, off, none⟩) n cap),
      .val (.int .i64 (i : Int)),
      .val (.pointer (some ⟨b, off + i * 40, none⟩)),
      .val (.agg px.toArray),
      .val (.bool true),
      .val (.bool false),
      .val (.bool false)] ?mk7 (fun f => ?hmk7) ?f07 ?h07 ?hput7 ?hstep7 ?hend7
      case hmk7 =>
        simp only [putOps, Act.put, List.setIfInBounds_toArray, List.set_cons_succ, List.set_cons_zero, Nat.zero_add, Nat.reduceAdd]
        rfl
      case f07 => exact fun k => ([u28, u29, u30, u31, u32, u33, u34, u35, u36, u37, u38, u39, u40, u41, u42, u43, u44, u45, u46, u47, u48, u49, u50, u51, u52, u53, u54, u55] : List Value).getD k undef
      case h07 => exact rfl
      case hput7 =>
        repeat (refine ⟨fun f v => rfl, ?_⟩)
        exact trivial
      case hstep7 =>
        refine ⟨fun f w1 hb1 hd => ?_, ?_⟩
        · clear hd
          have Y := Lib.hid (HT5.out w1 hb1)
          go_wp2_with (refine wpList_load_row rfl 33 (.tmp 6) rfl w4.heap.size rfl 33 tx.toArray (0, 0) _ Y.out Tryd.underlying33 rfl Htsz2.out ?_)
          exact ⟨_, by first | rfl | simp only [Act.put, List.setIfInBounds_toArray, List.set_cons_succ, List.set_cons_zero], Below.refl _ _, rfl⟩
        refine ⟨fun f w1 hb1 hd => ?_, ?_⟩
        · obtain ⟨d0, -⟩ := hd
          have q0 : f 0 = .agg tx.toArray := d0
          clear d0
          have HC := Lib.hid (HK1.out w1 hb1)
          rw [q0]
          go_wp2_with ((with_reducible refine HC.out.mono ?_); rintro e w2 ⟨rfl, hb2⟩)
          exact ⟨_, by first | rfl | simp only [q0, Act.put, List.setIfInBounds_toArray, List.set_cons_succ, List.set_cons_zero], hb2, rfl⟩
        refine ⟨fun f w1 hb1 hd => ?_, ?_⟩
        · clear hd
          go_wp2_with fail
          exact ⟨_, by first | rfl | simp only [Act.put, List.setIfInBounds_toArray, List.set_cons_succ, List.set_cons_zero], Below.refl _ _, rfl⟩
        refine ⟨fun f w1 hb1 hd => ?_, ?_⟩
        · clear hd
          go_wp2_with fail
          exact ⟨_, by first | rfl | simp only [Act.put, List.setIfInBounds_toArray, List.set_cons_succ, List.set_cons_zero], Below.refl _ _, rfl⟩
        refine ⟨fun f w1 hb1 hd => ?_, ?_⟩
        · obtain ⟨d0, d1, -⟩ := hd
          have q2 : f 2 = .slice (some ⟨b, off, none⟩) n cap := d0
          have q3 : f 3 = .int .i64 (i : Int) := d1
          clear d0 d1
          go_wp2_with fail
          exact ⟨_, by first | rfl | simp only [q2, q3, Act.put, List.setIfInBounds_toArray, List.set_cons_succ, List.set_cons_zero], Below.refl _ _, rfl⟩
        refine ⟨fun f w1 hb1 hd => ?_, ?_⟩
        · obtain ⟨d0, -⟩ := hd
          have q4 : f 4 = .pointer (some ⟨b, off + i * 40, none⟩) := d0
          clear d0
          have Y := Lib.hid (HX5.out w1 hb1)
          rw [q4]
          go_wp2_with (refine Go.wpList_load_mid rfl 33 (.tmp 32) rfl b (off + i * 40) rfl px _ Y.out Tryd.underlying33 rfl Hsz.out ?_)
          exact ⟨_, by first | rfl | simp only [q4, Act.put, List.setIfInBounds_toArray, List.set_cons_succ, List.set_cons_zero], Below.refl _ _, rfl⟩
        refine ⟨fun f w1 hb1 hd => ?_, ?_⟩
        · obtain ⟨d0, d1, -⟩ := hd
          have q5 : f 5 = .agg px.toArray := d0
          have q1 : f 1 = .string LB := d1
          clear d0 d1
          have HC := Lib.hid (HK2.out w1 hb1)
          rw [q5]
          go_wp2_with ((with_reducible refine HC.out.mono ?_); rintro e w2 ⟨rfl, hb2⟩)
          exact ⟨_, by first | rfl | simp only [q1, q5, Act.put, List.setIfInBounds_toArray, List.set_cons_succ, List.set_cons_zero], hb2, rfl⟩
        refine ⟨fun f w1 hb1 hd => ?_, ?_⟩
        · obtain ⟨d0, d1, -⟩ := hd
          have q1 : f 1 = .string LB := d0
          have q6 : f 6 = .string LB := d1
          clear d0 d1
          go_wp2_with fail
          exact ⟨_, by first | rfl | simp only [q1, q6, Act.put, List.setIfInBounds_toArray, List.set_cons_succ, List.set_cons_zero], Below.refl _ _, rfl⟩
        refine ⟨fun f w1 hb1 hd => ?_, ?_⟩
        · obtain ⟨d0, d1, -⟩ := hd
          have q7 : f 7 = .bool false := d0
          have q6 : f 6 = .string LB := d1
          clear d0 d1
          go_wp2_with fail
          exact ⟨_, by first | rfl | simp only [q6, q7, Act.put, List.setIfInBounds_toArray, List.set_cons_succ, List.set_cons_zero], Below.refl _ _, rfl⟩
        refine ⟨fun f w1 hb1 hd => ?_, ?_⟩
        · obtain ⟨d0, -⟩ := hd
          have q8 : f 8 = .bool false := d0
          clear d0
          have Y := Lib.hid (HT5.out w1 hb1)
          rw [q8]
          go_wp2_with (refine wpList_load_rowG rfl 33 (.tmp 6) rfl w4.heap.size rfl 33 tx.toArray (0, 0) _ Y.out Tryd.underlying33 rfl Htsz2.out ?_)
          exact ⟨_, by first | rfl | simp only [q8, Act.put, List.setIfInBounds_toArray, List.set_cons_succ, List.set_cons_zero], Below.refl _ _, rfl⟩
        refine ⟨fun f w1 hb1 hd => ?_, ?_⟩
        · obtain ⟨d0, d1, d2, -⟩ := hd
          have q9 : f 9 = .agg tx.toArray := d0
          have q8 : f 8 = .bool false := d1
          clear d0 d1 d2
          have HC := Lib.hid (HK3.out w1 hb1)
          rw [q9]
          go_wp2_with ((with_reducible refine HC.out.mono ?_); rintro e w2 ⟨⟨v, rfl, hv⟩, hb2⟩)
          exact ⟨_, by first | rfl | simp only [q8, q9, Act.put, List.setIfInBounds_toArray, List.set_cons_succ, List.set_cons_zero], hb2, hv⟩
        refine ⟨fun f w1 hb1 hd => ?_, ?_⟩
        · obtain ⟨d0, -⟩ := hd
          have q8 : f 8 = .bool false := d0
          clear d0
          go_wp2_with fail
          exact ⟨_, by first | rfl | simp only [q8, Act.put, List.setIfInBounds_toArray, List.set_cons_succ, List.set_cons_zero], Below.refl _ _, rfl⟩
        refine ⟨fun f w1 hb1 hd => ?_, ?_⟩
        · obtain ⟨d0, -⟩ := hd
          have q8 : f 8 = .bool false := d0
          clear d0
          go_wp2_with fail
          exact ⟨_, by first | rfl | simp only [q8, Act.put, List.setIfInBounds_toArray, List.set_cons_succ, List.set_cons_zero], Below.refl _ _, rfl⟩
        refine ⟨fun f w1 hb1 hd => ?_, ?_⟩
        · obtain ⟨d0, d1, d2, -⟩ := hd
          have q11 : f 11 = .slice (some ⟨b, off, none⟩) n cap := d0
          have q12 : f 12 = .int .i64 (i : Int) := d1
          have q8 : f 8 = .bool false := d2
          clear d0 d1 d2
          go_wp2_with fail
          exact ⟨_, by first | rfl | simp only [q8, q11, q12, Act.put, List.setIfInBounds_toArray, List.set_cons_succ, List.set_cons_zero], Below.refl _ _, rfl⟩
        refine ⟨fun f w1 hb1 hd => ?_, ?_⟩
        · obtain ⟨d0, d1, -⟩ := hd
          have q13 : f 13 = .pointer (some ⟨b, off + i * 40, none⟩) := d0
          have q8 : f 8 = .bool false := d1
          clear d0 d1
          have Y := Lib.hid (HX5.out w1 hb1)
          rw [q13, q8]
          go_wp2_with (refine wpList_load_midG rfl 33 (.tmp 41) rfl b (off + i * 40) rfl px _ Y.out Tryd.underlying33 rfl Hsz.out ?_)
          exact ⟨_, by first | rfl | simp only [q8, q13, Act.put, List.setIfInBounds_toArray, List.set_cons_succ, List.set_cons_zero], Below.refl _ _, rfl⟩
        refine ⟨fun f w1 hb1 hd => ?_, ?_⟩
        · obtain ⟨d0, d1, d2, -⟩ := hd
          have q14 : f 14 = .agg px.toArray := d0
          obtain ⟨A10, c10, q10, r10⟩ := d1
          have q8 : f 8 = .bool false := d2
          clear d0 d2
          have HC := Lib.hid (HK4.out w1 hb1)
          rw [q14]
          go_wp2_with ((with_reducible refine HC.out.mono ?_); rintro e w2 ⟨⟨v, rfl, hv⟩, hb2⟩)
          exact ⟨_, by first | rfl | simp only [q8, q10, q14, Act.put, List.setIfInBounds_toArray, List.set_cons_succ, List.set_cons_zero], hb2, hv⟩
        refine ⟨fun f w1 hb1 hd => ?_, ?_⟩
        · obtain ⟨d0, d1, d2, d3, -⟩ := hd
          obtain ⟨A10, c10, q10, r10⟩ := d0
          obtain ⟨A15, c15, q15, r15⟩ := d1
          have q8 : f 8 = .bool false := d3
          clear d2 d3
          have HC := Lib.hid (HTx.out A10 A15 _ c10 c15 T w1 r10 r15)
          rw [q10, q15]
          clear r10 r15
          go_wp2_with (with_reducible refine HC.out.mono ?_; rintro e w2 ⟨rfl, hb2⟩)
          exact ⟨_, by first | rfl | simp only [q8, q10, q15, Act.put, List.setIfInBounds_toArray, List.set_cons_succ, List.set_cons_zero], hb2, rfl⟩
        refine ⟨fun f w1 hb1 hd => ?_, ?_⟩
        · obtain ⟨d0, d1, -⟩ := hd
          have q16 : f 16 = .bool true := d0
          have q8 : f 8 = .bool false := d1
          clear d0 d1
          go_wp2_with fail
          exact ⟨_, by first | rfl | simp only [q8, q16, Act.put, List.setIfInBounds_toArray, List.set_cons_succ, List.set_cons_zero], Below.refl _ _, rfl⟩
        refine ⟨fun f w1 hb1 hd => ?_, ?_⟩
        · obtain ⟨d0, d1, -⟩ := hd
          have q8 : f 8 = .bool false := d0
          have q17 : f 17 = .bool false := d1
          clear d0 d1
          go_wp2_with fail
          exact ⟨_, by first | rfl | simp only [q8, q17, Act.put, List.setIfInBounds_toArray, List.set_cons_succ, List.set_cons_zero], Below.refl _ _, rfl⟩
        refine ⟨fun f w1 hb1 hd => ?_, ?_⟩
        · obtain ⟨d0, d1, -⟩ := hd
          have q18 : f 18 = .bool false := d0
          have q16 : f 16 = .bool true := d1
          clear d0 d1
          go_wp2_with fail
          exact ⟨_, by first | rfl | simp only [q16, q18, Act.put, List.setIfInBounds_toArray, List.set_cons_succ, List.set_cons_zero], Below.refl _ _, rfl⟩
        refine ⟨fun f w1 hb1 hd => ?_, ?_⟩
        · obtain ⟨d0, -⟩ := hd
          have q19 : f 19 = .bool false := d0
          clear d0
          have Y := Lib.hid (HT5.out w1 hb1)
          rw [q19]
          go_wp2_with (refine wpList_load_rowG rfl 33 (.tmp 6) rfl w4.heap.size rfl 33 tx.toArray (0, 0) _ Y.out Tryd.underlying33 rfl Htsz2.out ?_)
          exact ⟨_, by first | rfl | simp only [q19, Act.put, List.setIfInBounds_toArray, List.set_cons_succ, List.set_cons_zero], Below.refl _ _, rfl⟩
        refine ⟨fun f w1 hb1 hd => ?_, ?_⟩
        · obtain ⟨d0, -⟩ := hd
          have q19 : f 19 = .bool false := d0
          clear d0
          go_wp2_with fail
          exact ⟨_, by first | rfl | simp only [q19, Act.put, List.setIfInBounds_toArray, List.set_cons_succ, List.set_cons_zero], Below.refl _ _, rfl⟩
        refine ⟨fun f w1 hb1 hd => ?_, ?_⟩
        · obtain ⟨d0, -⟩ := hd
          have q19 : f 19 = .bool false := d0
          clear d0
          go_wp2_with fail
          exact ⟨_, by first | rfl | simp only [q19, Act.put, List.setIfInBounds_toArray, List.set_cons_succ, List.set_cons_zero], Below.refl _ _, rfl⟩
        refine ⟨fun f w1 hb1 hd => ?_, ?_⟩
        · obtain ⟨d0, d1, d2, -⟩ := hd
          have q21 : f 21 = .slice (some ⟨b, off, none⟩) n cap := d0
          have q22 : f 22 = .int .i64 (i : Int) := d1
          have q19 : f 19 = .bool false := d2
          clear d0 d1 d2
          go_wp2_with fail
          exact ⟨_, by first | rfl | simp only [q19, q21, q22, Act.put, List.setIfInBounds_toArray, List.set_cons_succ, List.set_cons_zero], Below.refl _ _, rfl⟩
        refine ⟨fun f w1 hb1 hd => ?_, ?_⟩
        · obtain ⟨d0, d1, -⟩ := hd
          have q23 : f 23 = .pointer (some ⟨b, off + i * 40, none⟩) := d0
          have q19 : f 19 = .bool false := d1
          clear d0 d1
          have Y := Lib.hid (HX5.out w1 hb1)
          rw [q23, q19]
          go_wp2_with (refine wpList_load_midG rfl 33 (.tmp 51) rfl b (off + i * 40) rfl px _ Y.out Tryd.underlying33 rfl Hsz.out ?_)
          exact ⟨_, by first | rfl | simp only [q19, q23, Act.put, List.setIfInBounds_toArray, List.set_cons_succ, List.set_cons_zero], Below.refl _ _, rfl⟩
        refine ⟨fun f w1 hb1 hd => ?_, ?_⟩
        · obtain ⟨d0, d1, d2, d3, -⟩ := hd
          have q20 : f 20 = .agg tx.toArray := d0
          have q24 : f 24 = .agg px.toArray := d1
          have q19 : f 19 = .bool false := d2
          clear d0 d1 d2 d3
          have HC := Lib.hid (HK5.out w1 hb1)
          rw [q20, q24]
          go_wp2_with ((with_reducible refine HC.out.mono ?_); rintro e w2 ⟨rfl, hb2⟩)
          exact ⟨_, by first | rfl | simp only [q19, q20, q24, Act.put, List.setIfInBounds_toArray, List.set_cons_succ, List.set_cons_zero], hb2, rfl⟩
        refine ⟨fun f w1 hb1 hd => ?_, ?_⟩
        · obtain ⟨d0, d1, -⟩ := hd
          have q25 : f 25 = .bool true := d0
          have q19 : f 19 = .bool false := d1
          clear d0 d1
          go_wp2_with fail
          exact ⟨_, by first | rfl | simp only [q19, q25, Act.put, List.setIfInBounds_toArray, List.set_cons_succ, List.set_cons_zero], Below.refl _ _, rfl⟩
        refine ⟨fun f w1 hb1 hd => ?_, ?_⟩
        · obtain ⟨d0, d1, -⟩ := hd
          have q19 : f 19 = .bool false := d0
          have q26 : f 26 = .bool false := d1
          clear d0 d1
          go_wp2_with fail
          exact ⟨_, by first | rfl | simp only [q19, q26, Act.put, List.setIfInBounds_toArray, List.set_cons_succ, List.set_cons_zero], Below.refl _ _, rfl⟩
        exact trivial
      case hend7 =>
        intro f w1 hb1 hd
        have q27 : f 27 = .bool false := hd 27 (by decide)
        clear hd
        have hbn := bstep hbr5 hb1
        rw [q27]
        go_wp2_with fail
        go_roundg (gk - 1)
        case rel => exact ⟨i + 1, by have := Hig.out; omega, by go_num, hbn⟩
        case measure => have := Hig.out; omega
    · obtain rfl : i = n := by omega
      go_wp2_with fail
      refine (HLg2.out _ hbr).1.mono ?_
      rintro e w4 h4
      obtain ⟨⟨A4, c4, rfl, r4⟩, hb4⟩ := lags_sp h4
      have hbr4 := bstep hbr hb4
      have R4 := Lib.hid r4
      clear h4 r4
      go_wp2_with fail
      refine (HLg2.out _ hbr4).2.mono ?_
      rintro e w5 h5
      obtain ⟨⟨A5, c5, rfl, r5⟩, hb5⟩ := lags_sp h5
      have hbr5 := bstep hbr4 hb5
      have R5 := Lib.hid r5
      clear h5 r5
      obtain ⟨LT, hLT⟩ : ∃ LT, lagT (ps.map fun p => p.r.id) (ps.map fun p => p.r.commit) (ksL (ps.map fun p => p.r.commit)) = LT := ⟨_, rfl⟩
      obtain ⟨LV, hLV⟩ : ∃ LV, lagV (ps.map fun p => p.r.commit) (ksL (ps.map fun p => p.r.commit)) = LV := ⟨_, rfl⟩
      rw [hLT] at R4 R5 ⊢
      rw [hLV]
      have R45 : Hid (Rd w5 w5.heap.size 1 A4 LT.length c4 (LT.map sV)) := (Rd.below R4.out hb5 (Nat.le_refl _)).mono hb5.size
      obtain ⟨PT, hPT⟩ : ∃ PT, linesP prs prs.length = PT := ⟨_, rfl⟩
      rw [hPT] at HPr2
      clear hLT hLV R4 HLg2 hPT
      go_wp2_with fail
      with_reducible refine wp_region_told (by kernel_rfl) (by kernel_rfl) [.val (.slice A4 LT.length c4),
      .val (.slice A5 LT.length c5),
      .val (.bool true),
      .val (.bool true),
      .val (.float .f64 LV),
      .val (.float .f64 LV),
      .val (.bool true),
      .val (.bool true),
      .val (.bool true),
      .val (.agg #[.slice PA pn pc, .slice SA sn sc]),
      .rd (PT.length) (PT.map sV),
      .val (.agg #[.slice PA pn pc, .slice SA sn sc]),
      .rd (PT.length) (PT.map sV),
      .val (.bool true),
      .val (.bool true),
      .val (.bool true),
      .val (.bool true),
      .val (.bool true),
      .val (.bool true)] ?mk11 (fun f => ?hmk11) ?f011 ?h011 ?hput11 ?hstep11 ?hend11
      case hmk11 =>
        simp only [putOps, Act.put, List.setIfInBounds_toArray, List.set_cons_succ, List.set_cons_zero, Nat.zero_add, Nat.reduceAdd]
        rfl
      case f011 => exact fun k => if k = 18 then u4 else undef
      case h011 => exact rfl
      case hput11 =>
        repeat (refine ⟨fun f v => rfl, ?_⟩)
        exact trivial
      case hstep11 =>
        refine ⟨fun f w1 hb1 hd => ?_, ?_⟩
        · clear hd
          go_wp2_with fail
          exact ⟨_, by first | rfl | simp only [Act.put, List.setIfInBounds_toArray, List.set_cons_succ, List.set_cons_zero], Below.refl _ _, rfl⟩
        refine ⟨fun f w1 hb1 hd => ?_, ?_⟩
        · clear hd
          go_wp2_with fail
          exact ⟨_, by first | rfl | simp only [Act.put, List.setIfInBounds_toArray, List.set_cons_succ, List.set_cons_zero], Below.refl _ _, rfl⟩
        refine ⟨fun f w1 hb1 hd => ?_, ?_⟩
        · obtain ⟨d0, d1, -⟩ := hd
          have q0 : f 0 = .slice A4 LT.length c4 := d0
          have q1 : f 1 = .slice A5 LT.length c5 := d1
          clear d0 d1
          have HC := Lib.hid (HTx.out A4 A5 _ c4 c5 LT w1 ((Rd.below R45.out hb1 (Nat.le_refl _)).mono hb1.size) ((Rd.below R5.out hb1 (Nat.le_refl _)).mono hb1.size))
          rw [q0, q1]
          go_wp2_with (with_reducible refine HC.out.mono ?_; rintro e w2 ⟨rfl, hb2⟩)
          exact ⟨_, by first | rfl | simp only [q0, q1, Act.put, List.setIfInBounds_toArray, List.set_cons_succ, List.set_cons_zero], hb2, rfl⟩
        refine ⟨fun f w1 hb1 hd => ?_, ?_⟩
        · obtain ⟨d0, d1, -⟩ := hd
          have q2 : f 2 = .bool true := d0
          clear d0 d1
          go_wp2_with fail
          exact ⟨_, by first | rfl | simp only [q2, Act.put, List.setIfInBounds_toArray, List.set_cons_succ, List.set_cons_zero], Below.refl _ _, rfl⟩
        refine ⟨fun f w1 hb1 hd => ?_, ?_⟩
        · obtain ⟨d0, -⟩ := hd
          have q3 : f 3 = .bool true := d0
          clear d0
          go_wp2_with fail
          exact ⟨_, by first | rfl | simp only [q3, Act.put, List.setIfInBounds_toArray, List.set_cons_succ, List.set_cons_zero], Below.refl _ _, rfl⟩
        refine ⟨fun f w1 hb1 hd => ?_, ?_⟩
        · obtain ⟨d0, -⟩ := hd
          have q3 : f 3 = .bool true := d0
          clear d0
          go_wp2_with fail
          exact ⟨_, by first | rfl | simp only [q3, Act.put, List.setIfInBounds_toArray, List.set_cons_succ, List.set_cons_zero], Below.refl _ _, rfl⟩
        refine ⟨fun f w1 hb1 hd => ?_, ?_⟩
        · obtain ⟨d0, d1, d2, d3, -⟩ := hd
          have q4 : f 4 = .float .f64 LV := d0
          have q5 : f 5 = .float .f64 LV := d1
          have q3 : f 3 = .bool true := d2
          clear d0 d1 d2 d3
          rw [q4, q5]
          go_wp2_with (with_reducible refine (HFl.out _ _).mono ?_; rintro e w2 ⟨rfl, rfl⟩)
          exact ⟨_, by first | rfl | simp only [q3, q4, q5, Act.put, List.setIfInBounds_toArray, List.set_cons_succ, List.set_cons_zero], Below.refl _ _, rfl⟩
        refine ⟨fun f w1 hb1 hd => ?_, ?_⟩
        · obtain ⟨d0, d1, -⟩ := hd
          have q3 : f 3 = .bool true := d0
          have q6 : f 6 = .bool true := d1
          clear d0 d1
          go_wp2_with fail
          exact ⟨_, by first | rfl | simp only [q3, q6, Act.put, List.setIfInBounds_toArray, List.set_cons_succ, List.set_cons_zero], Below.refl _ _, rfl⟩
        refine ⟨fun f w1 hb1 hd => ?_, ?_⟩
        · obtain ⟨d0, d1, -⟩ := hd
          have q7 : f 7 = .bool true := d0
          have q6 : f 6 = .bool true := d1
          clear d0 d1
          go_wp2_with fail
          exact ⟨_, by first | rfl | simp only [q6, q7, Act.put, List.setIfInBounds_toArray, List.set_cons_succ, List.set_cons_zero], Below.refl _ _, rfl⟩
        refine ⟨fun f w1 hb1 hd => ?_, ?_⟩
        · obtain ⟨d0, -⟩ := hd
          have q8 : f 8 = .bool true := d0
          clear d0
          obtain ⟨y0, y1⟩ := Hc.out w1 (bstep hbr5 hb1)
          rw [q8]
          go_wp2_with fail
          exact ⟨_, by first | rfl | simp only [q8, Act.put, List.setIfInBounds_toArray, List.set_cons_succ, List.set_cons_zero], Below.refl _ _, rfl⟩
        refine ⟨fun f w1 hb1 hd => ?_, ?_⟩
        · obtain ⟨d0, d1, d2, -⟩ := hd
          have q9 : f 9 = .agg #[.slice PA pn pc, .slice SA sn sc] := d0
          have q8 : f 8 = .bool true := d1
          clear d0 d1 d2
          have HC := Lib.hid ((HPr2.out w1 (bstep hbr5 hb1)).1)
          rw [q9]
          go_wp2_with ((with_reducible refine HC.out.mono ?_); rintro e w2 ⟨⟨v, rfl, hv⟩, hb2⟩)
          exact ⟨_, by first | rfl | simp only [q8, q9, Act.put, List.setIfInBounds_toArray, List.set_cons_succ, List.set_cons_zero], hb2, hv⟩
        refine ⟨fun f w1 hb1 hd => ?_, ?_⟩
        · obtain ⟨d0, -⟩ := hd
          have q8 : f 8 = .bool true := d0
          clear d0
          obtain ⟨y0, y1⟩ := Hc.out w1 (bstep hbr5 hb1)
          rw [q8]
          go_wp2_with fail
          exact ⟨_, by first | rfl | simp only [q8, Act.put, List.setIfInBounds_toArray, List.set_cons_succ, List.set_cons_zero], Below.refl _ _, rfl⟩
        refine ⟨fun f w1 hb1 hd => ?_, ?_⟩
        · obtain ⟨d0, d1, d2, -⟩ := hd
          have q11 : f 11 = .agg #[.slice PA pn pc, .slice SA sn sc] := d0
          obtain ⟨A10, c10, q10, r10⟩ := d1
          have q8 : f 8 = .bool true := d2
          clear d0 d2
          have HC := Lib.hid ((HPr2.out w1 (bstep hbr5 hb1)).2)
          rw [q11]
          go_wp2_with ((with_reducible refine HC.out.mono ?_); rintro e w2 ⟨⟨v, rfl, hv⟩, hb2⟩)
          exact ⟨_, by first | rfl | simp only [q8, q10, q11, Act.put, List.setIfInBounds_toArray, List.set_cons_succ, List.set_cons_zero], hb2, hv⟩
        refine ⟨fun f w1 hb1 hd => ?_, ?_⟩
        · obtain ⟨d0, d1, d2, d3, -⟩ := hd
          obtain ⟨A10, c10, q10, r10⟩ := d0
          obtain ⟨A12, c12, q12, r12⟩ := d1
          have q8 : f 8 = .bool true := d3
          clear d2 d3
          have HC := Lib.hid (HTx.out A10 A12 _ c10 c12 PT w1 r10 r12)
          rw [q10, q12]
          clear r10 r12
          go_wp2_with (with_reducible refine HC.out.mono ?_; rintro e w2 ⟨rfl, hb2⟩)
          exact ⟨_, by first | rfl | simp only [q8, q10, q12, Act.put, List.setIfInBounds_toArray, List.set_cons_succ, List.set_cons_zero], hb2, rfl⟩
        refine ⟨fun f w1 hb1 hd => ?_, ?_⟩
        · obtain ⟨d0, d1, -⟩ := hd
          have q8 : f 8 = .bool true := d0
          have q13 : f 13 = .bool true := d1
          clear d0 d1
          go_wp2_with fail
          exact ⟨_, by first | rfl | simp only [q8, q13, Act.put, List.setIfInBounds_toArray, List.set_cons_succ, List.set_cons_zero], Below.refl _ _, rfl⟩
        refine ⟨fun f w1 hb1 hd => ?_, ?_⟩
        · obtain ⟨d0, d1, -⟩ := hd
          have q14 : f 14 = .bool true := d0
          have q13 : f 13 = .bool true := d1
          clear d0 d1
          go_wp2_with fail
          exact ⟨_, by first | rfl | simp only [q13, q14, Act.put, List.setIfInBounds_toArray, List.set_cons_succ, List.set_cons_zero], Below.refl _ _, rfl⟩
        refine ⟨fun f w1 hb1 hd => ?_, ?_⟩
        · obtain ⟨d0, d1, -⟩ := hd
          have q15 : f 15 = .bool true := d0
          clear d0 d1
          have HC := Lib.hid (HWk.out w1 (bstep hbr5 hb1))
          go_wp2_with ((with_reducible refine HC.out.mono ?_); rintro e w2 ⟨rfl, hb2⟩)
          exact ⟨_, by first | rfl | simp only [q15, Act.put, List.setIfInBounds_toArray, List.set_cons_succ, List.set_cons_zero], hb2, rfl⟩
        refine ⟨fun f w1 hb1 hd => ?_, ?_⟩
        · obtain ⟨d0, d1, -⟩ := hd
          have q15 : f 15 = .bool true := d0
          have q16 : f 16 = .bool true := d1
          clear d0 d1
          go_wp2_with fail
          exact ⟨_, by first | rfl | simp only [q15, q16, Act.put, List.setIfInBounds_toArray, List.set_cons_succ, List.set_cons_zero], Below.refl _ _, rfl⟩
        refine ⟨fun f w1 hb1 hd => ?_, ?_⟩
        · obtain ⟨d0, d1, d2, d3, d4, d5, d6, d7, d8, d9, d10, d11, d12, d13, d14, d15, d16, d17, d18, d19, -⟩ := hd
          have q17 : f 17 = .bool true := d0
          have q16 : f 16 = .bool true := d1
          have q0 : f 0 = .slice A4 LT.length c4 := d2
          have q1 : f 1 = .slice A5 LT.length c5 := d3
          have q2 : f 2 = .bool true := d4
          have q3 : f 3 = .bool true := d5
          have q4 : f 4 = .float .f64 LV := d6
          have q5 : f 5 = .float .f64 LV := d7
          have q6 : f 6 = .bool true := d8
          have q7 : f 7 = .bool true := d9
          have q8 : f 8 = .bool true := d10
          have q9 : f 9 = .agg #[.slice PA pn pc, .slice SA sn sc] := d11
          obtain ⟨A10, c10, q10, r10⟩ := d12
          have q11 : f 11 = .agg #[.slice PA pn pc, .slice SA sn sc] := d13
          obtain ⟨A12, c12, q12, r12⟩ := d14
          have q13 : f 13 = .bool true := d15
          have q14 : f 14 = .bool true := d16
          have q15 : f 15 = .bool true := d17
          clear d0 d1 d2 d3 d4 d5 d6 d7 d8 d9 d10 d11 d13 d15 d16 d17 d18 d19
          go_wp2_with fail
          exact ⟨_, by first | rfl | simp only [q0, q1, q2, q3, q4, q5, q6, q7, q8, q9, q10, q11, q12, q13, q14, q15, q16, q17, Act.put, List.setIfInBounds_toArray, List.set_cons_succ, List.set_cons_zero], Below.refl _ _, rfl⟩
        exact trivial
      case hend11 =>
        intro f w1 hb1 hd
        have q18 : f 18 = .bool true := hd 18 (by decide)
        clear hd
        have hbn := Hup.out _ (bstep hbr5 hb1)
        rw [q18]
        go_wp2_with fail
        go_ret
        exact ⟨rfl, hbn⟩
end Go.Proofs.YtkckncggiicciaaDoor
