/-
  The walk of ReportLags.
-/
import Derived.Test.YtkckncggiicciaaDoorRlag
import Derived.Test.YtkckncggiicciaaDoorText
namespace Go.Proofs.YtkckncggiicciaaDoor
open Go.RowKit
set_option maxRecDepth 100000
def iV (c : Int) : Value := .int .i64 c
theorem line_app (id lag : Int) : (⟨(lineL id lag).toArray⟩ : ByteArray) = ((⟨#[108, 97, 103, 32]⟩ ++ ⟨(Lib.itoa id).toArray⟩ : ByteArray) ++ ⟨#[32]⟩) ++ ⟨(Lib.itoa lag).toArray⟩ := by
  show _ = ((⟨[108, 97, 103, 32].toArray⟩ ++ ⟨(Lib.itoa id).toArray⟩ : ByteArray) ++ ⟨[32].toArray⟩) ++ ⟨(Lib.itoa lag).toArray⟩
  rw [bytes_app, bytes_app, bytes_app]
  congr 1
  unfold lineL wordsL
  rw [Lib.join_cons]
  simp [Lib.joinTail]
theorem linesL_at {ids : List Int} {ks : List Nat} {j : Nat} {id : Int} {k : Nat} (h1 : ids[j]? = some id) (h2 : ks[j]? = some k) : ((linesL ids ks).map sV)[j]? = some (sV (lineL id (k : Int))) := by
  unfold linesL
  rw [List.getElem?_map, List.getElem?_zipWith, h1, h2]
  rfl
set_option maxHeartbeats 6400000 in
theorem lags_walk (A : Option Addr) (n cap : Nat) (cs : List Int) (W : World) (hy : Rd W W.heap.size 1 A n cap (cs.map iV)) (h64 : ∀ c ∈ cs, In64 c) (hI : ItAt W) :
    Calls Tryd.prog 3 #[.slice A n cap] W fun e w' => e = .returned (.bool true) ∧ Below W.heap.size W w' := by
  have hlen : cs.length = n := by simpa using hy.1
  have hcap : n ≤ cap := hy.2.1
  rcases Nat.eq_zero_or_pos n with rfl | hpos
  · clear hy h64 hI hlen
    go_enter Tryd.func3, Tryd.ntmps3
    go_wp2_with fail
    go_ret
    exact ⟨rfl, Below.refl _ _⟩
  have hz : ((n : Int) == 0) = false := by simp; omega
  rcases Decidable.em (40 < n) with h40 | h40
  · clear hy h64 hI hlen
    go_enter Tryd.func3, Tryd.ntmps3
    go_wp2_with fail
    go_ret
    exact ⟨rfl, Below.refl _ _⟩
  obtain ⟨_, _, _, h4⟩ := hy
  obtain ⟨b, off, rfl, hb, hcell⟩ := h4 hpos
  have HC : Hid (∀ i, i < n → ∃ c, cs[i]? = some c ∧ cs.getD i 0 = c ∧ In64 c ∧ W.cell? ⟨b, off + i, none⟩ = some (.int .i64 c)) := fun i hi => by
    have hi' : i < cs.length := by omega
    refine ⟨cs[i], List.getElem?_eq_getElem hi', by simp [List.getD, hi'], h64 _ (List.getElem_mem hi'), hcell i _ ?_⟩
    rw [List.getElem?_map, List.getElem?_eq_getElem hi']
    rfl
  obtain ⟨c0, hc0, hg0, h640, hw0⟩ := HC.out 0 hpos
  rw [Nat.add_zero] at hw0
  have HI := Lib.hid hI
  have Hlen := Lib.hid hlen
  have H64 := Lib.hid h64
  have Hc0 := Lib.hid hc0
  clear hI hlen hcell h4 h64 hc0 hg0 h640
  go_enter Tryd.func3, Tryd.ntmps3
  go_wp2_with fail
  go_loopg [3, 4, 5] n (fun g s3 s4 s5 wr => ∃ i : Nat, i + g = n ∧ s5 = .int .i64 i ∧ s4 = .int .i64 (topL c0 (cs.take i)) ∧ OwnR wr W.heap.size s3 (raftsL cs i) ∧ (∀ c ∈ cs.take i, 0 ≤ c ∧ c ≤ 549755813888) ∧ Below W.heap.size W wr)
  case atStart => exact ⟨0, by omega, rfl, rfl, ownR_nil _ _, fun c h => by simp at h, Below.refl _ _⟩
  case round =>
    obtain ⟨i, hig, rfl, rfl, ho, hbd, hbr⟩ := hrel
    have Hig := Lib.hid hig
    have Ho := Lib.hid ho
    have Hbd := Lib.hid hbd
    have hin : i ≤ n := by omega
    clear hig ho hbd
    by_cases hlt : i < n
    · obtain ⟨ci, hce, hgd, h64i, hci⟩ := HC.out i hlt
      have hcell : wr.cell? ⟨b, off + i, none⟩ = some (.int .i64 ci) := (hbr.cell (p := ⟨b, off + i, none⟩) hb).trans hci
      have Htk : Hid (cs.take (i + 1) = cs.take i ++ [ci]) := by
        unfold Hid
        rw [List.take_add_one, hce]
        rfl
      have Hrl : Hid (raftsL cs (i + 1) = raftsL cs i ++ [mkR ((i : Int) % 7) ci]) := by
        unfold Hid
        rw [raftsL_succ, hgd]
      obtain ⟨tp, htp⟩ : ∃ tp, topL c0 (cs.take i) = tp := ⟨_, rfl⟩
      have Htp : Hid (topL c0 (cs.take (i + 1)) = max tp ci) := by
        unfold Hid
        rw [Htk.out, topL_snoc, htp]
      rw [htp]
      have Hci := Lib.hid hci
      clear hce hgd h64i hci htp
      rcases Decidable.em (0 ≤ ci ∧ ci ≤ 549755813888) with hb2 | hb2
      · have Hbd2 : Hid (∀ c ∈ cs.take (i + 1), 0 ≤ c ∧ c ≤ 549755813888) := fun c h => by
          rw [Htk.out, List.mem_append] at h
          rcases h with h | h
          · exact Hbd.out c h
          · simp at h; subst h; exact hb2
        obtain ⟨hlo, hhi⟩ := hb2
        go_wp2_with (at_builtin
                     refine wpList_appR rfl (.tmp 39) (.tmp 47) rfl W.heap.size u3 _ rfl (World.ownsRow.alloc Ho.out _) (wr.heap.size + 1) wr.heap.size (mkR ((i : Int) % 7) ci) rfl rfl (rd_struct wr (mkR ((i : Int) % 7) ci) _) (mkR_one _ _) ?c1 ?c2 ?_
                     case c1 => rw [raftsL_len]; omega
                     case c2 => simp; have := hbr.size; omega
                     intro v4 w4 ho4 hg4
                     have hb4 : Below W.heap.size W w4 := (hbr.alloc hbr.size _).grown hg4 (by simp; have := hbr.size; omega) (fun q hq => (World.ownsRow.lt Ho.out q hq).1)
                     have hcell4 : w4.cell? ⟨b, off + i, none⟩ = some (.int .i64 ci) := (hb4.cell (p := ⟨b, off + i, none⟩) hb).trans Hci.out
                     have Ho4 := Lib.hid ho4
                     clear ho4 hg4)
        have Hon : Hid (OwnR w4 W.heap.size v4 (raftsL cs (i + 1))) := by
          unfold Hid
          rw [Hrl.out]
          exact Ho4.out
        go_roundg (gk - 1)
        case rel => exact ⟨i + 1, by have := Hig.out; omega, by go_num, by rw [Htp.out], Hon.out, Hbd2.out, hb4⟩
        case measure => have := Hig.out; omega
      · rcases Decidable.em (ci < 0) with hlo | hlo
        case' inr => have hhi : 549755813888 < ci := by omega
        all_goals
          clear hb2
          go_wp2_with fail
          go_ret
          exact ⟨rfl, hbr⟩
    · obtain rfl : i = n := by omega
      have hall : cs.take i = cs := List.take_of_length_le (by rw [Hlen.out]; exact Nat.le_refl _)
      have hbd := Hbd.out
      rw [hall] at hbd ⊢
      have htm : topL c0 cs ∈ cs := by
        rcases topL_mem c0 cs with h | h
        · rw [h]; exact List.mem_of_getElem? Hc0.out
        · exact h
      have htg := (topL_ge c0 cs).2
      have hhd : cs.headD 0 = c0 := by
        have h := Hc0.out
        cases cs with
        | nil => simp at h
        | cons a r => simp at h ⊢; exact h
      obtain ⟨T, hT⟩ : ∃ T, topL c0 cs = T := ⟨_, rfl⟩
      rw [hT] at htm htg ⊢
      obtain ⟨tN, htN⟩ : ∃ tN : Nat, T = (tN : Int) := ⟨T.toNat, by have := hbd T htm; omega⟩
      subst htN
      have htb := hbd _ htm
      -- the lags
      obtain ⟨ks, hks⟩ : ∃ ks : List Nat, ks = cs.map fun c => ((tN : Int) - c).toNat := ⟨_, rfl⟩
      have hkl : ks.length = i := by rw [hks, List.length_map, Hlen.out]
      have hkat : ∀ (j : Nat) c, cs[j]? = some c → ∃ k : Nat, ks[j]? = some k ∧ (k : Int) = (tN : Int) - c := fun j c hj => by
        refine ⟨((tN : Int) - c).toNat, by rw [hks, List.getElem?_map, hj]; rfl, ?_⟩
        have := htg c (List.mem_of_getElem? hj)
        omega
      have hkle : ∀ k ∈ ks, k ≤ tN := fun k hk => by
        rw [hks] at hk
        obtain ⟨c, hc, rfl⟩ := List.mem_map.1 hk
        have := (hbd c hc).1
        omega
      have hk0 : 0 ∈ ks := by
        rw [hks]
        exact List.mem_map.2 ⟨_, htm, by omega⟩
      have hokc : okC cs = true := by
        unfold okC
        rw [List.all_eq_true]
        intro c hc
        have := hbd c hc
        simp
        omega
      have hmean : meanV (ks.map fi) ≤ fi tN := mean_fi (by omega) (by omega) (by omega) hkle
      have hfi := fi_le (m := tN) (by omega)
      obtain ⟨hn1, hr1⟩ := small_right (x := meanV (ks.map fi)) (by omega)
      obtain ⟨hn2, hr2⟩ := small_right (x := fi tN) hfi
      have hge := cmp_ge (meanV (ks.map fi)) 0
      have hle := cmp_le (meanV (ks.map fi)) (fi tN)
      rw [hn1, hr1, show isNan 0 = false from rfl, rk_zero] at hge
      rw [hn1, hn2, hr1, hr2] at hle
      have hge' : (!false && !false && decide ((0 : Int) ≤ (meanV (ks.map fi) : Int))) = true := by simp
      have hle' : (!false && !false && decide ((meanV (ks.map fi) : Int) ≤ (fi tN : Int))) = true := by simpa using hmean
      rw [hge'] at hge
      rw [hle'] at hle
      have HLG : Hid (∀ A' c', Rd wr wr.heap.size 40 A' i c' (raftsL cs i).flatten → Calls Tryd.prog 7 #[.slice A' i c'] wr fun e w' => (∃ A6 c6, e = .returned (.tuple #[.slice A6 i c6, .float .f64 (meanV (ks.map fi))]) ∧ Rd w' w'.heap.size 1 A6 i c6 ((linesL (idsL i) ks).map sV)) ∧ Below wr.heap.size wr w') := fun A' c' hrd => by
        refine (RLags_any A' i c' (raftsL cs i) (idsL i) cs ks wr hrd (raftsL_len _ _) (by simp [idsL]) Hlen.out hkl ?_ ?_ H64.out ?_ (by omega) (HI.out.below hbr)).mono ?_
        · intro j x hj
          obtain ⟨h1, rfl⟩ := raftsL_at hj
          obtain ⟨cj, q1, q2, _, _⟩ := HC.out j h1
          exact ⟨_, _, idsL_at h1, q1, by rw [q2]; exact mkR_ok _ _⟩
        · intro id hid
          unfold idsL at hid
          obtain ⟨q, _, rfl⟩ := List.mem_map.1 hid
          unfold In64
          omega
        · intro _ j c hj
          rw [hhd, hT]
          exact hkat j c hj
        · intro e w' h
          unfold LagsPost at h
          rw [if_pos hokc] at h
          obtain ⟨⟨v, he, ho⟩, hb'⟩ := h
          obtain ⟨A6, c6, rfl, hr6⟩ := ownS_rd ho (n := i) (by rw [linesL_len _ _ (by rw [hkl]; simp [idsL]), hkl])
          exact ⟨⟨A6, c6, he, hr6⟩, hb'⟩
      have Hmin := Lib.hid (minL_mem 1099511627776 ks (by omega) hk0)
      have Hkat := Lib.hid hkat
      have Hkl := Lib.hid hkl
      have hfe := fi_eq tN
      obtain ⟨mv, hmv⟩ : ∃ mv, meanV (ks.map fi) = mv := ⟨_, rfl⟩
      rw [hmv] at hge hle HLG
      obtain ⟨A', c', rfl, hrd⟩ := Rd.of_own Ho.out
      rw [raftsL_len] at hrd ⊢
      have HLG2 := Lib.hid (HLG.out A' c' hrd)
      have Htg := Lib.hid htg
      have Hbd1 := Lib.hid hbd
      have htb2 : (tN : Int) ≤ 549755813888 := htb.2
      have htb0 : (0 : Int) ≤ (tN : Int) := htb.1
      clear hall hbd htm htg hhd hT htb hks hkl hkat hkle hk0 hokc hmean hfi hn1 hr1 hn2 hr2 hge' hle' hmv hrd HLG Ho Hbd Hig
      go_wp2_with fail
      refine HLG2.out.mono ?_
      rintro e w2 ⟨⟨A6, c6, rfl, hr6⟩, hb2⟩
      have hbw2 := hbr.trans (hb2.mono hbr.size)
      obtain ⟨_, _, _, hr64⟩ := hr6
      obtain ⟨b6, off6, rfl, hb6, hcell6⟩ := hr64 hpos
      have Hcell6 := Lib.hid hcell6
      clear hr64 hcell6 hb2 HLG2
      go_wp2_with fail
      go_loopg [8, 9] i (fun g s8 s9 wr2 => ∃ j : Nat, j + g = i ∧ s9 = .int .i64 j ∧ s8 = .int .i64 (minL 1099511627776 (ks.take j)) ∧ Below w2.heap.size w2 wr2)
      case atStart => exact ⟨0, by omega, rfl, rfl, Below.refl _ _⟩
      case round =>
        obtain ⟨j, hjg, rfl, rfl, hb3⟩ := hrel
        have Hjg := Lib.hid hjg
        have hjn : j ≤ i := by omega
        clear hjg
        by_cases hlt : j < i
        · obtain ⟨cj, hce, _, _, hcj⟩ := HC.out j hlt
          obtain ⟨k, hke, hkv⟩ := Hkat.out j cj hce
          have hline := Hcell6.out j _ (linesL_at (idsL_at hlt) hke)
          have hi7 : In64 ((j : Int) % 7) := by unfold In64; omega
          have hcj64 := H64.out cj (List.mem_of_getElem? hce)
          have hkge := Htg.out cj (List.mem_of_getElem? hce)
          have hcj0 := (Hbd1.out cj (List.mem_of_getElem? hce)).1
          have hkb : (k : Int) ≤ 549755813888 := by omega
          have hk64 : In64 (k : Int) := by
            unfold In64
            omega
          have HS : Hid (∀ w', Below w2.heap.size w2 w' → w'.cell? ⟨b6, off6 + j, none⟩ = some (.string ⟨(lineL ((j : Int) % 7) (k : Int)).toArray⟩) ∧ w'.cell? ⟨b, off + j, none⟩ = some (.int .i64 cj)) := fun w' h =>
            ⟨(h.cell (p := ⟨b6, off6 + j, none⟩) hb6).trans hline, (h.cell (p := ⟨b, off + j, none⟩) (Nat.lt_of_lt_of_le hb hbw2.size)).trans ((hbw2.cell (p := ⟨b, off + j, none⟩) hb).trans hcj)⟩
          have HN1 : Hid (∀ w', Below w2.heap.size w2 w' → Calls Tryd.prog 8 #[.int .i64 ((j : Int) % 7)] w' fun e w'' => e = .returned (.string ⟨(Lib.itoa ((j : Int) % 7)).toArray⟩) ∧ Below w'.heap.size w' w'') := fun w' h => Itoa_any _ w' hi7 (HI.out.below (hbw2.trans (h.mono hbw2.size)))
          have HN2 : Hid (∀ w', Below w2.heap.size w2 w' → Calls Tryd.prog 8 #[.int .i64 (k : Int)] w' fun e w'' => e = .returned (.string ⟨(Lib.itoa (k : Int)).toArray⟩) ∧ Below w'.heap.size w' w'') := fun w' h => Itoa_any _ w' hk64 (HI.out.below (hbw2.trans (h.mono hbw2.size)))
          have hla := line_app ((j : Int) % 7) (k : Int)
          have q1 := Lib.itoa_length_le _ hi7.1 hi7.2
          have q2 := Lib.itoa_length_le _ hk64.1 hk64.2
          obtain ⟨B1, hB1⟩ : ∃ B1, (⟨(Lib.itoa ((j : Int) % 7)).toArray⟩ : ByteArray) = B1 := ⟨_, rfl⟩
          obtain ⟨B2, hB2⟩ : ∃ B2, (⟨(Lib.itoa (k : Int)).toArray⟩ : ByteArray) = B2 := ⟨_, rfl⟩
          obtain ⟨LB, hLB⟩ : ∃ LB, (⟨(lineL ((j : Int) % 7) (k : Int)).toArray⟩ : ByteArray) = LB := ⟨_, rfl⟩
          have z1 : B1.size ≤ 21 := by rw [← hB1]; show (Lib.itoa _).toArray.size ≤ 21; rw [List.size_toArray]; exact q1
          have z2 : B2.size ≤ 21 := by rw [← hB2]; show (Lib.itoa _).toArray.size ≤ 21; rw [List.size_toArray]; exact q2
          rw [hB1] at HN1 hla
          rw [hB2] at HN2 hla
          rw [hLB] at HS hla
          have hq : (LB.toList == ((⟨#[108, 97, 103, 32]⟩ ++ B1 ++ ⟨#[32]⟩ ++ B2 : ByteArray)).toList) = true := by rw [hla]; simp
          have hsub : (tN : Int) - cj = (k : Int) := hkv.symm
          have Hks : Hid (ks.take (j + 1) = ks.take j ++ [k]) := by unfold Hid; rw [List.take_add_one, hke]; rfl
          have hk0 : (0 : Int) ≤ (k : Int) := by omega
          obtain ⟨ml, hml⟩ : ∃ ml, minL 1099511627776 (ks.take j) = ml := ⟨_, rfl⟩
          have Hml : Hid (minL 1099511627776 (ks.take (j + 1)) = min ml (k : Int)) := by
            unfold Hid
            rw [Hks.out, minL_snoc, hml]
          rw [hml]
          obtain ⟨y0, y1⟩ := HS.out _ hb3
          clear hce hcj hke hkv hline hi7 hk64 q1 q2 hB1 hB2 hLB hla hml hcj64 hkge hcj0
          go_wp2_with fail
          have htm : (j : Int).tmod 7 = (j : Int) % 7 := Int.tmod_eq_emod_of_nonneg (by omega)
          have m1 : ¬ 9223372036854775807 < 4 + B1.size := by omega
          have m2 : ¬ 9223372036854775807 < 4 + B1.size + 1 := by omega
          have m3 : ¬ 9223372036854775807 < 4 + B1.size + 1 + B2.size := by omega
          have hwr : IntKind.i64.wrap (k : Int) = (k : Int) := IntWalk.i64_in _ (by omega)
          go_region_held3 (fun w' => w'.cell? ⟨b6, off6 + j, none⟩ = some (.string LB) ∧ w'.cell? ⟨b, off + j, none⟩ = some (.int .i64 cj))
            ((first | assumption | exact HS.out _ (by assumption) | exact HS.out _ (Below.drew (by assumption))))
            ((first
              | (go_at_call 8
                 (with_reducible refine (HN1.out _ (by first | assumption | exact Below.drew (by assumption))).mono ?_)
                 rintro e w6 ⟨rfl, hb6'⟩
                 have hb6q : Below w2.heap.size w2 w6 := Below.trans (by first | assumption | exact Below.drew (by assumption)) (hb6'.mono (Below.size (by first | assumption | exact Below.drew (by assumption)))))
              | (go_at_call 8
                 (with_reducible refine (HN2.out _ (by first | assumption | exact Below.drew (by assumption))).mono ?_)
                 rintro e w7 ⟨rfl, hb7'⟩
                 have hb7q : Below w2.heap.size w2 w7 := Below.trans (by first | assumption | exact Below.drew (by assumption)) (hb7'.mono (Below.size (by first | assumption | exact Below.drew (by assumption)))))))
          all_goals
            obtain ⟨x0, x1⟩ := HS.out _ hb7q
            clear y0 y1 htm hwr m1 m2 m3
            go_wp2_with fail
            go_roundg (gk - 1)
          all_goals first
            | exact ⟨j + 1, by have := Hjg.out; omega, by go_num, by rw [Hml.out], hb7q⟩
            | (have := Hjg.out; omega)
        · obtain rfl : j = i := by omega
          have hmin : minL 1099511627776 (ks.take j) = 0 := by
            rw [List.take_of_length_le (by rw [Hkl.out]; exact Nat.le_refl _)]
            exact Hmin.out
          rw [hmin]
          have hbf := hbw2.trans (hb3.mono hbw2.size)
          have HWK : Hid (∀ w', Below W.heap.size W w' → Calls Tryd.prog 9 #[] w' fun e w'' => e = .returned (.bool true) ∧ Below w'.heap.size w' w'') := fun w' h => rwakes_any w' (HI.out.below h)
          clear hmin
          go_wp2_with (refine (HWK.out _ hbf).mono ?_; rintro e w9 ⟨rfl, hb9⟩)
          go_ret
          exact ⟨rfl, hbf.trans (hb9.mono hbf.size)⟩
end Go.Proofs.YtkckncggiicciaaDoor
