/-
  A line, cut at each blank: the page's Words.
-/
import Derived.Test.YtkckncggiicciaaDoorRow
import Derived.Test.YtkckncggiicciaaDoorText
namespace Go.Proofs.YtkckncggiicciaaDoor
open Go.RowKit
set_option maxRecDepth 100000
/-- Cut at each blank. -/
def cutW : List UInt8 → List UInt8 → List (List UInt8)
  | cur, [] => [cur]
  | cur, c :: r => if c = 32 then cur :: cutW [] r else cutW (cur ++ [c]) r
def splitL (l : List UInt8) : List (List UInt8) := cutW [] l
theorem cutW_pos (r : List UInt8) : ∀ cur, 0 < (cutW cur r).length := by
  induction r with
  | nil => intro cur; exact Nat.zero_lt_succ _
  | cons c r ih =>
    intro cur
    unfold cutW
    split
    · simp
    · exact ih _
theorem cutW_word (a r : List UInt8) (h : ∀ c ∈ a, c ≠ 32) : ∀ cur, cutW cur (a ++ 32 :: r) = (cur ++ a) :: cutW [] r := by
  induction a with
  | nil => intro cur; simp [cutW]
  | cons c a ih =>
    intro cur
    rw [List.cons_append, cutW, if_neg (h c (by simp)), ih (fun d hd => h d (by simp [hd])), List.append_assoc]
    rfl
theorem cutW_last (a : List UInt8) (h : ∀ c ∈ a, c ≠ 32) : ∀ cur, cutW cur a = [cur ++ a] := by
  induction a with
  | nil => intro cur; simp [cutW]
  | cons c a ih =>
    intro cur
    rw [cutW, if_neg (h c (by simp)), ih (fun d hd => h d (by simp [hd])), List.append_assoc]
    rfl
theorem dec_digit (u : Nat) : ∀ c ∈ Lib.decDigits u, c ≠ 32 := by
  induction u using Nat.strongRecOn with
  | _ u ih =>
    intro c hc
    rw [Lib.decDigits] at hc
    have hd : ∀ d : Nat, d < 10 → UInt8.ofNat (48 + d) ≠ 32 := by decide
    split at hc
    · rename_i h
      rw [List.mem_singleton] at hc
      rw [hc]
      exact hd u h
    · rename_i h
      rw [List.mem_append] at hc
      rcases hc with hc | hc
      · exact ih (u / 10) (by omega) c hc
      · rw [List.mem_singleton] at hc
        rw [hc]
        exact hd (u % 10) (Nat.mod_lt _ (by decide))
theorem itoa_digit (n : Int) : ∀ c ∈ Lib.itoa n, c ≠ 32 := by
  intro c hc
  unfold Lib.itoa at hc
  split at hc
  · rcases List.mem_cons.1 hc with h | h
    · rw [h]; decide
    · exact dec_digit _ c h
  · exact dec_digit _ c hc
/-- A part of a string. -/
theorem cut_list (s : ByteArray) (a b : Nat) : (s.extract a b) = ⟨((s.data.toList.take b).drop a).toArray⟩ := bytes_ext (by rw [ext_list])
def WordsPost (l : List UInt8) (w : World) (e : Ending) (w' : World) : Prop := (∃ v, e = .returned v ∧ OwnS w' w.heap.size v (splitL l)) ∧ Below w.heap.size w w'
set_option maxHeartbeats 3200000 in
theorem Words_any (s : ByteArray) (w : World) (hs : s.size ≤ 4000) : Calls Tryd.prog 24 #[.string s] w (WordsPost s.data.toList w) := by
  obtain ⟨l, hl⟩ : ∃ l, s.data.toList = l := ⟨_, rfl⟩
  have hlen : l.length = s.size := by rw [← hl]; exact Array.length_toList
  rw [hl]
  have HP : Hid (∀ w' v, OwnS w' w.heap.size v (splitL l) → Below w.heap.size w w' → WordsPost l w (.returned v) w') := fun w' v ho hb => ⟨⟨v, rfl, ho⟩, hb⟩
  obtain ⟨J, hJ⟩ : ∃ J, WordsPost l w = J := ⟨_, rfl⟩
  rw [hJ] at HP ⊢
  have Hlen := Lib.hid hlen
  have Hl := Lib.hid hl
  clear hJ hlen hl
  go_enter Tryd.func24, Tryd.ntmps24
  go_wp2_with fail
  go_loopg [3, 4, 5] (s.size + 1) (fun g s3 s4 s5 wr => ∃ (i fr : Nat) (done : List (List UInt8)), i + g = s.size + 1 ∧ s5 = .int .i64 i ∧ s4 = .int .i64 fr ∧ fr ≤ i ∧ done.length ≤ i ∧ OwnS wr w.heap.size s3 done ∧ (i ≤ s.size → splitL l = done ++ cutW ((l.take i).drop fr) (l.drop i)) ∧ (s.size < i → splitL l = done) ∧ Below w.heap.size w wr)
  case atStart => exact ⟨0, 0, [], by omega, rfl, rfl, Nat.le_refl _, Nat.le_refl _, ownS_nil _ _, fun _ => rfl, fun h => by omega, Below.refl _ _⟩
  case round =>
    obtain ⟨i, fr, done, hig, rfl, rfl, hfr, hdl, ho, h1, h2, hb⟩ := hrel
    have Hig := Lib.hid hig
    have Ho := Lib.hid ho
    have H1 := Lib.hid h1
    have H2 := Lib.hid h2
    have hin : i ≤ s.size + 1 := by omega
    clear hig ho h1 h2
    by_cases hlt : i ≤ s.size
    · have hspl := H1.out hlt
      rcases Decidable.em (i = s.size) with he | he
      · subst he
        have hq : ((s.size : Int) == (s.size : Int)) = true := by simp
        have hdrop : l.drop s.size = [] := List.drop_of_length_le (by rw [Hlen.out]; exact Nat.le_refl _)
        have hs2 : splitL l = done ++ [(l.take s.size).drop fr] := by rw [hspl, hdrop]; rfl
        have hex : s.extract fr s.size = ⟨((l.take s.size).drop fr).toArray⟩ := by rw [← Hl.out]; exact cut_list s fr s.size
        obtain ⟨pc, hpc⟩ : ∃ pc, (l.take s.size).drop fr = pc := ⟨_, rfl⟩
        rw [hpc] at hs2 hex
        have HRd : Hid (∀ w7 : World, Rd (w7.alloc (.cells #[.string (s.extract fr s.size)] 9)) (w7.heap.size + 1) 1 (some ⟨w7.heap.size, 0, none⟩) 1 1 [sV pc]) := fun w7 => by
          rw [hex]
          exact rd_one w7 _ _
        have Hs2 := Lib.hid hs2
        have hfr0 : (0 : Int) ≤ (fr : Int) := by omega
        have hfr1 : (fr : Int) ≤ (s.size : Int) := by omega
        clear hspl hdrop hs2 hex hpc
        go_wp2_with (at_builtin
                     refine wpList_appS rfl (.tmp 22) (.tmp 27) rfl w.heap.size u3 _ rfl (World.ownsRow.alloc Ho.out _) (wr.heap.size + 1) wr.heap.size _ rfl (HRd.out wr) ?c1 ?c2 ?_
                     case c1 => omega
                     case c2 => simp; have := hb.size; omega
                     intro v10 w10 ho10 hg10 ha10
                     have hbw10 : Below w.heap.size w w10 := (hb.alloc hb.size _).grown hg10 (by simp; have := hb.size; omega) (fun q hq => (World.ownsRow.lt Ho.out q hq).1)
                     have Ho10 := Lib.hid ho10
                     clear ho10 hg10 ha10)
        go_roundg (gk - 1)
        case rel => exact ⟨s.size + 1, s.size + 1, done ++ [pc], by have := Hig.out; omega, by go_num, by go_num, Nat.le_refl _, by rw [List.length_append]; simp; omega, Ho10.out, fun h => by omega, fun _ => Hs2.out, hbw10⟩
        case measure => have := Hig.out; omega
      · have hlt2 : i < s.size := by omega
        have hil : i < l.length := by rw [Hlen.out]; exact hlt2
        have hq : ((i : Int) == (s.size : Int)) = false := by simp; omega
        obtain ⟨c, hc⟩ : ∃ c, s[i] = c := ⟨_, rfl⟩
        have hlc : l[i]'hil = c := by
          have := Hl.out
          subst this
          rw [← hc]
          exact (Array.getElem_toList _)
        have hdr : l.drop i = c :: l.drop (i + 1) := by rw [List.drop_eq_getElem_cons hil, hlc]
        have htk : (l.take (i + 1)).drop fr = (l.take i).drop fr ++ [c] := by
          rw [List.take_succ_eq_append_getElem hil, hlc, List.drop_append_of_le_length (by rw [List.length_take]; omega)]
        rcases Decidable.em (c.toNat = 32) with h32 | h32
        · have hc32 : c = 32 := UInt8.toNat_inj.1 h32
          have hs2 : splitL l = (done ++ [(l.take i).drop fr]) ++ cutW [] (l.drop (i + 1)) := by
            rw [hspl, hdr, hc32, cutW, if_pos rfl, List.append_assoc]
            rfl
          have hex : s.extract fr i = ⟨((l.take i).drop fr).toArray⟩ := by rw [← Hl.out]; exact cut_list s fr i
          have hnx : ((l.take (i + 1)).drop (i + 1)) = [] := List.drop_of_length_le (by rw [List.length_take]; omega)
          obtain ⟨pc, hpc⟩ : ∃ pc, (l.take i).drop fr = pc := ⟨_, rfl⟩
          rw [hpc] at hs2 hex
          have HRd : Hid (∀ w7 : World, Rd (w7.alloc (.cells #[.string (s.extract fr i)] 9)) (w7.heap.size + 1) 1 (some ⟨w7.heap.size, 0, none⟩) 1 1 [sV pc]) := fun w7 => by
            rw [hex]
            exact rd_one w7 _ _
          have Hs2 : Hid (splitL l = (done ++ [pc]) ++ cutW ((l.take (i + 1)).drop (i + 1)) (l.drop (i + 1))) := by unfold Hid; rw [hnx]; exact hs2
          have hc' : (c.toNat : Int) = 32 := by omega
          have hfr0 : (0 : Int) ≤ (fr : Int) := by omega
          have hfr1 : (fr : Int) ≤ (i : Int) := by omega
          have hfr2 : (i : Int) ≤ (s.size : Int) := by omega
          clear hspl hdr htk hs2 hex hnx hpc hlc h32 hc32
          go_wp2_with (at_builtin
                       refine wpList_appS rfl (.tmp 22) (.tmp 27) rfl w.heap.size u3 _ rfl (World.ownsRow.alloc Ho.out _) (wr.heap.size + 1) wr.heap.size _ rfl (HRd.out wr) ?c1 ?c2 ?_
                       case c1 => omega
                       case c2 => simp; have := hb.size; omega
                       intro v10 w10 ho10 hg10 ha10
                       have hbw10 : Below w.heap.size w w10 := (hb.alloc hb.size _).grown hg10 (by simp; have := hb.size; omega) (fun q hq => (World.ownsRow.lt Ho.out q hq).1)
                       have Ho10 := Lib.hid ho10
                       clear ho10 hg10 ha10)
          go_roundg (gk - 1)
          case rel => exact ⟨i + 1, i + 1, done ++ [pc], by have := Hig.out; omega, by go_num, by go_num, Nat.le_refl _, by rw [List.length_append]; simp; omega, Ho10.out, fun _ => Hs2.out, fun h => by omega, hbw10⟩
          case measure => have := Hig.out; omega
        · have hne : c ≠ 32 := fun e => h32 (by rw [e]; rfl)
          have Hs2 : Hid (splitL l = done ++ cutW ((l.take (i + 1)).drop fr) (l.drop (i + 1))) := by
            unfold Hid
            rw [hspl, hdr, cutW, if_neg hne, htk]
          have hc' : ((c.toNat : Int) == 32) = false := by simp; omega
          clear hspl hdr htk hlc h32 hne
          go_wp2_with fail
          go_roundg (gk - 1)
          case rel => exact ⟨i + 1, fr, done, by have := Hig.out; omega, by go_num, rfl, by omega, by omega, Ho.out, fun _ => Hs2.out, fun h => by omega, hb⟩
          case measure => have := Hig.out; omega
    · have hsd := H2.out (by omega)
      have Hfin : Hid (OwnS wr w.heap.size u3 (splitL l)) := by unfold Hid; rw [hsd]; exact Ho.out
      clear hsd
      go_wp2_with fail
      exact HP.out _ _ Hfin.out hb
end Go.Proofs.YtkckncggiicciaaDoor
