/-
  The walk of report.Pairs.
-/
import Derived.Test.YtkckncggiicciaaDoorRent
import Derived.Test.YtkckncggiicciaaDoorVtexts
namespace Go.Proofs.YtkckncggiicciaaDoor
open Go.RowKit
set_option maxRecDepth 100000
/-- A pair: a key, and what it has. -/
def prC (p : ByteArray × Va) : List Value := [.string p.1, .int .i64 p.2.k, .float .f64 p.2.x, .string p.2.s]
theorem size4 : (Tryd.prog.info? 66).map (·.size) = some 4 := by kernel_rfl
/-- A value's word. -/
def valT (v : Va) : List UInt8 := if chkVa v = 0 then (vtextV v).data.toList else [63]
/-- A pair's line. -/
def pairL (p : ByteArray × Va) : List UInt8 := wordsL [107 :: hexT p.1.data.toList, valT p.2]
theorem valT_len (v : Va) : (valT v).length ≤ 100 := by
  unfold valT
  split
  · rename_i h
    have hl : ∀ s : ByteArray, s.data.toList.length = s.size := fun s => Array.length_toList
    rw [hl]
    unfold vtextV
    split
    · unfold textV
      show (⟨[110].toArray⟩ ++ ⟨(hexL 16 (canon v.x)).toArray⟩ : ByteArray).size ≤ 100
      rw [bytes_app]
      show ([110] ++ hexL 16 (canon v.x)).toArray.size ≤ 100
      rw [List.size_toArray, List.length_append, hexL_len]
      simp
    · split
      · rename_i h2
        have h32 : v.s.size ≤ 32 := by
          unfold chkVa at h
          rw [if_neg (by omega), if_neg (by omega), if_pos h2] at h
          by_cases q : 32 < v.s.size
          · rw [if_pos q] at h; cases h
          · omega
        show (116 :: hexT v.s.data.toList).toArray.size ≤ 100
        rw [List.size_toArray, List.length_cons, hexT_len, hl]
        omega
      · decide
  · decide
theorem pairL_len {p : ByteArray × Va} (hk : p.1.size ≤ 2000) : (pairL p).length ≤ 10000 := by
  have h1 := valT_len p.2
  have hl : p.1.data.toList.length = p.1.size := Array.length_toList
  have h2 := hexT_len p.1.data.toList
  unfold pairL wordsL
  rw [Lib.join_cons]
  simp [Lib.joinTail]
  omega
/-- A value that is handed to Text: any. -/
theorem VTextP_any (v : Va) (w : World) (hx : v.x < 18446744073709551616) (hs : v.s.size ≤ maxLen) (hT : TzAt w) :
    Calls Tryd.prog 47 #[v.v] w fun e w' => (∃ t, e = .returned (.tuple #[.string t, .int .i64 (chkVa v)]) ∧ (chkVa v = 0 → t = vtextV v)) ∧ Below w.heap.size w w' :=
  (VText_any v w hx hs hT).mono fun _ _ ⟨h1, h2⟩ => ⟨⟨_, h1, fun h => if_pos h⟩, h2⟩
def p0 : ByteArray × Va := (⟨#[]⟩, ⟨0, 0, ⟨#[]⟩⟩)
def linesP (ps : List (ByteArray × Va)) (n : Nat) : List (List UInt8) := (List.range n).map fun (i : Nat) => pairL (ps.getD i p0)
theorem linesP_succ (ps : List (ByteArray × Va)) (n : Nat) : linesP ps (n + 1) = linesP ps n ++ [pairL (ps.getD n p0)] := by
  unfold linesP
  rw [List.range_succ, List.map_append]
  rfl
theorem linesP_len (ps : List (ByteArray × Va)) (n : Nat) : (linesP ps n).length = n := by simp [linesP]
def PrRows (w : World) (B : Nat) (A : Option Addr) (n c : Nat) (ps : List (ByteArray × Va)) : Prop := Rd w B 4 A n c (ps.map prC).flatten
/-- A pair that may be told: its key is short enough. -/
structure PrOk (p : ByteArray × Va) : Prop where
  key : p.1.size ≤ 2000
  num : p.2.x < 18446744073709551616
  txt : p.2.s.size ≤ maxLen
theorem pr_row {w : World} {B n c : Nat} {A : Option Addr} {ps : List (ByteArray × Va)} (h : PrRows w B A n c ps) (hl : ps.length = n) {k : Nat} (hk : k < n) :
    ∃ b off p, A = some ⟨b, off, none⟩ ∧ b < B ∧ ps.getD k p0 = p ∧ p ∈ ps ∧ w.rangeAt b (off + k * 4) (prC p) := by
  obtain ⟨b, off, x, h1, h2, h3, h4, h5⟩ := rd_row (xss := ps.map prC) h (fun x hx => by
    obtain ⟨e, _, rfl⟩ := List.mem_map.1 hx
    rfl) (by rw [List.length_map]; exact hl) hk
  rw [List.getElem?_map] at h3
  cases hq : ps[k]? with
  | none => rw [hq] at h3; cases h3
  | some e =>
    rw [hq] at h3
    injection h3 with h3
    subst h3
    exact ⟨b, off, e, h1, h2, by simp [List.getD, hq], List.mem_of_getElem? hq, h5⟩
theorem prC_one (p : ByteArray × Va) : ∀ v ∈ prC p, v.oneCell' = true := by
  intro v hv
  have : (prC p).all (·.oneCell') = true := rfl
  exact List.all_eq_true.1 this v hv
def RPairsPost (ps : List (ByteArray × Va)) (w : World) (e : Ending) (w' : World) : Prop := (∃ v, e = .returned v ∧ OwnS w' w.heap.size v (linesP ps ps.length)) ∧ Below w.heap.size w w'
set_option maxHeartbeats 12800000 in
theorem RPairs_any (A : Option Addr) (n c : Nat) (S : Option Addr) (sn sc : Nat) (ps : List (ByteArray × Va)) (w : World) (hy : PrRows w w.heap.size A n c ps) (hl : ps.length = n) (hn : n ≤ 10000) (hok : ∀ p ∈ ps, PrOk p) (hT : TzAt w) :
    Calls Tryd.prog 21 #[.agg #[.slice A n c, .slice S sn sc]] w (RPairsPost ps w) := by
  have hcap : n ≤ c := hy.2.1
  obtain ⟨W1, hW1⟩ : ∃ W1, w.alloc (.cells #[.slice A n c, .slice S sn sc] 44) = W1 := ⟨_, rfl⟩
  have hb1 : Below w.heap.size w W1 := by rw [← hW1]; exact alloc_below w _
  have hz1 : W1.heap.size = w.heap.size + 1 := by rw [← hW1]; simp
  have HP : Hid (∀ w' v, OwnS w' w.heap.size v (linesP ps n) → Below w.heap.size w w' → RPairsPost ps w (.returned v) w') := fun w' v ho hb => by
    unfold RPairsPost
    rw [hl]
    exact ⟨⟨v, rfl, ho⟩, hb⟩
  have HE : Hid (∀ i, i < n → ∃ b off p, A = some ⟨b, off, none⟩ ∧ b < w.heap.size ∧ ps.getD i p0 = p ∧ PrOk p ∧ w.rangeAt b (off + i * 4) (prC p)) := fun i hi => by
    obtain ⟨b, off, p, q1, q2, q3, q4, q5⟩ := pr_row hy hl hi
    exact ⟨b, off, p, q1, q2, q3, hok p q4, q5⟩
  obtain ⟨J, hJ⟩ : ∃ J, RPairsPost ps w = J := ⟨_, rfl⟩
  rw [hJ] at HP ⊢
  have HT := Lib.hid hT
  have HW1 := Lib.hid hW1
  clear hW1 hJ hT hy hl hok
  go_enter Tryd.func21, Tryd.ntmps21
  go_wp2_with fail
  rw [HW1.out]
  go_loopg [3, 5, 6, 8, 9, 10, 14] n (fun g s3 _ _ _ _ _ s14 wr => ∃ i : Nat, i + g = n ∧ s14 = .int .i64 i ∧ OwnS wr W1.heap.size s3 (linesP ps i) ∧ Below W1.heap.size W1 wr)
  case atStart => exact ⟨0, by omega, rfl, ownS_nil _ _, Below.refl _ _⟩
  case round =>
    obtain ⟨i, hig, rfl, ho, hbr⟩ := hrel
    have Hig := Lib.hid hig
    have Ho := Lib.hid ho
    have hin : i ≤ n := by omega
    clear hig ho
    by_cases hlt : i < n
    · obtain ⟨b, off, p, rfl, hb, hge, hpk, hrg⟩ := HE.out i hlt
      have hrg' := range_below hrg (hb1.trans (hbr.mono (by omega))) hb
      have Hrg := Lib.hid hrg'
      have Hls : Hid (linesP ps (i + 1) = linesP ps i ++ [pairL p]) := by
        unfold Hid
        rw [linesP_succ, hge]
      have hpl := pairL_len (p := p) hpk.key
      obtain ⟨key, ⟨vk, vx, vs⟩⟩ := p
      have Hpl := Lib.hid hpl
      have hk2 : key.size ≤ 2000 := hpk.key
      have HTx : Hid (∀ w', Below W1.heap.size W1 w' → Calls Tryd.prog 47 #[.agg #[.int .i64 vk, .float .f64 vx, .string vs]] w' fun e w'' => (∃ t, e = .returned (.tuple #[.string t, .int .i64 (chkVa ⟨vk, vx, vs⟩)]) ∧ (chkVa ⟨vk, vx, vs⟩ = 0 → t = vtextV ⟨vk, vx, vs⟩)) ∧ Below w'.heap.size w' w'') := fun w' h =>
        VTextP_any ⟨vk, vx, vs⟩ w' hpk.num hpk.txt (HT.out.below (hb1.trans (h.mono (by omega))))
      have hcv := fun w => Lib.run_convert_string_bytes (P := Tryd.prog) w 9 26 5 key Tryd.underlying9 Tryd.underlying26 Tryd.underlying5
      clear hrg hrg' hge hpl hpk
      go_wp2_with (first
        | (refine Go.wpList_load_mid rfl 66 (.tmp 16) rfl b (off + i * 4) rfl (prC (key, ⟨vk, vx, vs⟩)) _ Hrg.out Tryd.underlying66 rfl size4 ?_)
        | (refine wpList_store_local rfl 66 (.tmp 5) _ rfl (prC (key, ⟨vk, vx, vs⟩)) rfl rfl size4 rfl (prC_one _) ?_
           intro w5 q5 hb5 hz5
           have HS : Hid (∀ w', Below w5.heap.size w5 w' → w'.cell? ⟨wr.heap.size, 0, none⟩ = some (.string key) ∧ w'.cell? ⟨wr.heap.size, 1, none⟩ = some (.int .i64 vk) ∧ w'.cell? ⟨wr.heap.size, 2, none⟩ = some (.float .f64 vx) ∧ w'.cell? ⟨wr.heap.size, 3, none⟩ = some (.string vs)) := fun w' hb' => by
             have q := (hb'.block wr.heap.size (by omega)).trans q5
             exact ⟨cell_list q 0 _ rfl, cell_list q 1 _ rfl, cell_list q 2 _ rfl, cell_list q 3 _ rfl⟩
           obtain ⟨y0, y1, y2, y3⟩ := HS.out w5 (Below.refl _ _)
           have hnb : wr.heap.size < w5.heap.size := by omega
           clear q5 hz5))
      obtain ⟨gk0, rfl⟩ : ∃ g0, g0 = gk := ⟨_, rfl⟩
      obtain ⟨wo, rfl⟩ : ∃ w0, w0 = wr := ⟨_, rfl⟩
      obtain ⟨l, hl⟩ : ∃ l, key.data.toList = l := ⟨_, rfl⟩
      have hlen : l.length = key.size := by rw [← hl]; exact Array.length_toList
      have hbw5 : Below W1.heap.size W1 w5 := bstep hbr hb5
      obtain ⟨w6, hw6⟩ : ∃ w6, w5.alloc (.cells #[.int .u8 107] 5) = w6 := ⟨_, rfl⟩
      have hz6 : w6.heap.size = w5.heap.size + 1 := by rw [← hw6]; simp
      have hb6 : Below w5.heap.size w5 w6 := by rw [← hw6]; exact alloc_below w5 _
      have ho6 : OwnB w6 w5.heap.size (.slice (some ⟨w5.heap.size, 0, none⟩) 1 1) [107] := by rw [← hw6]; exact own_lit (Nat.le_refl _) 107
      have hrow : ∀ j (hj : j < l.length), (Lib.bytesWorld w6 5 key).cell? ⟨w5.heap.size + 1, j, none⟩ = some (.int .u8 (l[j].toNat : Int)) := by
        subst hl
        intro j hj
        rw [← hz6]
        exact str_cell w6 key j hj
      have hb7 : Below w6.heap.size w6 (Lib.bytesWorld w6 5 key) := str_below w6 key
      have hz7 : (Lib.bytesWorld w6 5 key).heap.size = w5.heap.size + 2 := by rw [Lib.bytesWorld_size, hz6]
      rw [hw6]
      obtain ⟨w7, hw7⟩ : ∃ w7, Lib.bytesWorld w6 5 key = w7 := ⟨_, rfl⟩
      rw [hw7] at hrow hb7 hz7 ⊢
      have ho7 : OwnB w7 w5.heap.size (.slice (some ⟨w5.heap.size, 0, none⟩) 1 1) [107] := ho6.below hb7
      have hbw7 : Below w5.heap.size w5 w7 := bstep hb6 hb7
      obtain ⟨C, hC⟩ : ∃ C, grownCap w6 key.size 0 5 = C := ⟨_, rfl⟩
      rw [hC]
      have Hrow := Lib.hid hrow
      have Hlen := Lib.hid hlen
      have Hl := Lib.hid hl
      clear hw6 hw7 hC y0 y1 y2 y3 hcv hrow hlen hl ho6 hb6 hb7 hz6
      go_loopg [6, 8, 23] key.size (fun g s6 _ s23 wr => ∃ j : Nat, j + g = key.size ∧ s23 = .int .i64 j ∧ OwnB wr w5.heap.size s6 (107 :: hexT (l.take j)) ∧ s6.ownBlock ≠ some (w5.heap.size + 1) ∧ Below w5.heap.size w5 wr ∧ w5.heap.size + 2 ≤ wr.heap.size ∧ wr.heap[w5.heap.size + 1]? = w7.heap[w5.heap.size + 1]?)
      case atStart => exact ⟨0, by omega, rfl, ho7, by simp [Value.ownBlock], hbw7, by omega, rfl⟩
      case round =>
        obtain ⟨j, hjg, rfl, hoq, hneq, hbq, hzq, hkq⟩ := hrel
        have hjn : j ≤ key.size := by omega
        have Hjg := Lib.hid hjg
        have Hoq := Lib.hid hoq
        have Hne := Lib.hid hneq
        have Hk := Lib.hid hkq
        clear hjg hoq hneq hkq
        by_cases hjt : j < key.size
        · have hil : j < l.length := by rw [Hlen.out]; exact hjt
          obtain ⟨ch, hc⟩ : ∃ ch, l[j]'hil = ch := ⟨_, rfl⟩
          have hcell : wr.cell? ⟨w5.heap.size + 1, j, none⟩ = some (.int .u8 (ch.toNat : Int)) := by
            rw [← hc]
            exact (World.cell?_of_block (a := ⟨w5.heap.size + 1, j, none⟩) Hk.out).trans (Hrow.out j hil)
          have Hst : Hid (l.take (j + 1) = l.take j ++ [ch]) := by
            unfold Hid
            rw [← hc]
            exact List.take_succ_eq_append_getElem hil
          clear hc
          have hc256 := ch.toNat_lt
          obtain ⟨d1, hd1⟩ : ∃ d, ch.toNat / 16 = d := ⟨_, rfl⟩
          obtain ⟨d2, hd2⟩ : ∃ d, ch.toNat % 16 = d := ⟨_, rfl⟩
          have hq : (ch.toNat : Int) / 16 = (d1 : Int) := by omega
          have hand := and_15b ch.toNat hc256
          rw [hd2] at hand
          have h1 : d1 < 16 := by omega
          have h2 : d2 < 16 := by omega
          have g1 := fun h => digs16_at h1 h
          have g2 := fun h => digs16_at h2 h
          have Hd : Hid (ch.toNat / 16 = d1 ∧ ch.toNat % 16 = d2) := ⟨hd1, hd2⟩
          clear hd1 hd2
          go_wp2_with fail
          go_region_held3 (fun w' => Below w5.heap.size w5 w') ((first | assumption | exact Below.drew (by assumption) | exact Below.alloc (Below.drew (by assumption)) (Below.size (by assumption)) _)) ((first
            | (refine step_appBAt rfl (.tmp 27) (.tmp 34) rfl w5.heap.size u6 _ rfl (World.ownsRow.alloc Hoq.out _) (wr.heap.size + 1) (some ⟨wr.heap.size, 0, none⟩) 2 2 [hexd d1, hexd d2] rfl (by_two wr (hexd d1) (hexd d2)) (by rw [List.length_cons, hexT_len, List.length_take]; omega) (by simp; have := hbq.size; omega) ?_
               intro v4 w4 ho4 hg4 hw4
               have hb4 : Below w5.heap.size w5 w4 := (Below.alloc (Below.drew hbq) hbq.size _).grown hg4 (by simp; have := hbq.size; omega) (fun k hk => (World.ownsRow.lt Hoq.out k hk).1))))
          all_goals
            have hR : w5.heap.size + 1 < wr.heap.size := by omega
            have hne4 : v4.ownBlock ≠ some (w5.heap.size + 1) := by
              rcases hw4 with h | h
              · rw [h]; exact Hne.out
              · rw [h]
                intro e
                injection e with e
                simp at e
                omega
            have hk4 : w4.heap[w5.heap.size + 1]? = w7.heap[w5.heap.size + 1]? := by
              rw [hg4.block _ (by simp; omega) (fun e => Hne.out e.symm)]
              exact (Below.heap_alloc _ _ _ hR).trans Hk.out
            have hz4 : w5.heap.size + 2 ≤ w4.heap.size := by have := hg4.size; simp at this; omega
            have Hne4 := Lib.hid hne4
            have Hk4 := Lib.hid hk4
            have Ho4 : Hid (OwnB w4 w5.heap.size v4 (107 :: hexT (l.take (j + 1)))) := by
              unfold Hid
              rw [Hst.out, hexT_snoc, Hd.out.1, Hd.out.2]
              exact ho4
            clear hw4 hg4 hne4 hk4 ho4 hcell hq hand g1 g2
            go_wp2_with fail
            go_roundg (gk - 1)
          all_goals first
            | exact ⟨j + 1, by have := Hjg.out; omega, by go_num, Ho4.out, Hne4.out, hb4, hz4, Hk4.out⟩
            | (have := Hjg.out; omega)
        · obtain rfl : j = key.size := by omega
          have hoA := Hoq.out
          rw [List.take_of_length_le (by rw [Hlen.out]; exact Nat.le_refl _)] at hoA
          have HoA := Lib.hid hoA
          have HeK : Hid ((107 :: hexT l) = 107 :: hexT key.data.toList) := by unfold Hid; rw [Hl.out]
          obtain ⟨y0, y1, y2, y3⟩ := HS.out wr hbq
          have hbw := bstep hbw5 hbq
          clear hoA Hoq Hne Hk hzq hjt
          go_wp2_with fail
          refine (HTx.out _ hbw).mono ?_
          rintro e8 w8 ⟨⟨t, rfl, ht⟩, hb8⟩
          have hbq8 := bstep hbq hb8
          have HoB := Lib.hid (OwnB.below HoA.out hb8)
          have Ht := Lib.hid ht
          obtain ⟨A9, C9, rfl, hy9⟩ := own_by HoB.out (n := 1 + 2 * key.size) (by rw [List.length_cons, hexT_len, Hlen.out]; omega)
          have hcv9 := conv_by hy9
          have hcc := chk_vals ⟨vk, vx, vs⟩
          have hbw8 := bstep hbw hb8
          have HZ : Hid (∀ us : List (List UInt8), pairL (key, ⟨vk, vx, vs⟩) = wordsL us → 0 < us.length → us.length ≤ 1000 → ∀ w6 : World, Calls Tryd.prog 30 #[.slice (some ⟨w6.heap.size, 0, none⟩) us.length us.length] (w6.alloc (.cells (us.map sV).toArray 9)) fun e' w' => e' = .returned (.string ⟨(pairL (key, ⟨vk, vx, vs⟩)).toArray⟩) ∧ Below w6.heap.size w6 w') := fun us h1 h2 h3 w6 => by
            have := words_lit us w6 h2 h3 (by rw [← h1]; have := Hpl.out; omega)
            rw [← h1] at this
            exact this
          have Hpe : Hid (pairL (key, ⟨vk, vx, vs⟩) = wordsL [107 :: hexT key.data.toList, valT ⟨vk, vx, vs⟩]) := rfl
          have Hvt : Hid (valT ⟨vk, vx, vs⟩ = if chkVa ⟨vk, vx, vs⟩ = 0 then (vtextV ⟨vk, vx, vs⟩).data.toList else [63]) := rfl
          obtain ⟨cv, hcve⟩ : ∃ cv, chkVa ⟨vk, vx, vs⟩ = cv := ⟨_, rfl⟩
          obtain ⟨tv, htv⟩ : ∃ tv, vtextV ⟨vk, vx, vs⟩ = tv := ⟨_, rfl⟩
          obtain ⟨vt, hvt⟩ : ∃ vt, valT ⟨vk, vx, vs⟩ = vt := ⟨_, rfl⟩
          obtain ⟨pl, hpl⟩ : ∃ pl, pairL (key, ⟨vk, vx, vs⟩) = pl := ⟨_, rfl⟩
          rw [hcve] at hcc Ht Hvt ⊢
          rw [htv] at Ht Hvt
          rw [hvt] at Hvt Hpe
          rw [hpl] at HZ Hpe Hls
          clear hy9 ht hb8 hcve htv hvt hpl HTx y0 y1 y2 y3 hbw hbq hbw7 HoA Hpl
          obtain ⟨KB, hKB⟩ : ∃ KB, (⟨(107 :: hexT l).toArray⟩ : ByteArray) = KB := ⟨_, rfl⟩
          rw [hKB] at hcv9
          obtain ⟨LB, hLB⟩ : ∃ LB, (⟨pl.toArray⟩ : ByteArray) = LB := ⟨_, rfl⟩
          rw [hLB] at HZ
          have HoS : Hid (OwnS w8 W1.heap.size u3 (linesP ps i)) := own_below Ho.out (bstep hb5 hbq8)
          have HRd : Hid (∀ w7 : World, Rd (w7.alloc (.cells #[.string LB] 9)) (w7.heap.size + 1) 1 (some ⟨w7.heap.size, 0, none⟩) 1 1 [sV pl]) := fun w7 => by
            rw [← hLB]
            exact rd_one w7 _ _
          rcases hcc with rfl | hcc
          case' inl =>
            have htt : t = tv := Ht.out rfl
            have HWz : Hid (∀ w6 : World, Calls Tryd.prog 30 #[.slice (some ⟨w6.heap.size, 0, none⟩) 2 2] (w6.alloc (.cells #[.string KB, .string t] 9)) fun e' w' => e' = .returned (.string LB) ∧ Below w6.heap.size w6 w') := fun w6 => by
              have e1 : (⟨(vt).toArray⟩ : ByteArray) = t := by
                rw [Hvt.out, if_pos rfl, htt]
              rw [← hKB, HeK.out, ← e1]
              exact HZ.out [107 :: hexT key.data.toList, vt] Hpe.out (Nat.zero_lt_succ _) (show 2 ≤ 1000 by decide) w6
            clear htt
          case' inr =>
            have hc0 : (cv == 0) = false := by simp; omega
            have hcn : cv ≠ 0 := by omega
            have HWz : Hid (∀ w6 : World, Calls Tryd.prog 30 #[.slice (some ⟨w6.heap.size, 0, none⟩) 2 2] (w6.alloc (.cells #[.string KB, .string ⟨#[63]⟩] 9)) fun e' w' => e' = .returned (.string LB) ∧ Below w6.heap.size w6 w') := fun w6 => by
              have e1 : vt = [63] := by
                rw [Hvt.out, if_neg hcn]
              rw [← hKB, HeK.out]
              have := HZ.out [107 :: hexT key.data.toList, vt] Hpe.out (Nat.zero_lt_succ _) (show 2 ≤ 1000 by decide) w6
              rw [e1] at this
              exact this
            clear hcc hcn
          all_goals
            clear hKB hLB Ht
            go_wp2_with fail
            refine (HWz.out _).mono ?_
            rintro e9 wz ⟨rfl, hbz⟩
            have Hbz := Lib.hid (bstep hbw8 hbz)
            have Hoz : Hid (OwnS wz W1.heap.size u3 (linesP ps i)) := own_below HoS.out hbz
            clear hbz hcv9
            go_wp2_with (at_builtin
                         refine wpList_appS rfl (.tmp 45) (.tmp 51) rfl W1.heap.size u3 _ rfl (World.ownsRow.alloc Hoz.out _) (wz.heap.size + 1) wz.heap.size _ rfl (HRd.out wz) ?c1 ?c2 ?_
                         case c1 => rw [linesP_len]; omega
                         case c2 => simp; have := Hbz.out.size; omega
                         intro v10 w10 ho10 hg10 ha10
                         have hbw10 : Below W1.heap.size W1 w10 := (Hbz.out.alloc Hbz.out.size _).grown hg10 (by simp; have := Hbz.out.size; omega) (fun q hq => (World.ownsRow.lt Hoz.out q hq).1)
                         have Ho10 := Lib.hid ho10
                         clear ho10 hg10 ha10)
            go_roundg (gk0 - 1)
          all_goals first
            | exact ⟨i + 1, by have := Hig.out; omega, by go_num, by rw [Hls.out]; exact Ho10.out, hbw10⟩
            | (have := Hig.out; omega)
    · obtain rfl : i = n := by omega
      go_wp2_with fail
      exact HP.out _ _ (own_base Ho.out (by omega)) (hb1.trans (hbr.mono (by omega)))
end Go.Proofs.YtkckncggiicciaaDoor
