/-
  Joined texts, part 3: the lemmas and walks that the row stands on.
-/
import Derived.Test.YtkckncggiicciaaDoorV2
import Derived.Test.YtkckncggiicciaaDoorV1
import Derived.WalkSpells
import Derived.WalkLawsBesides
import Derived.BigQuiet
import Derived.Deep.QuietTactic
import Derived.Deep.LoopGhost
import Derived.Deep.MidRow
import Derived.Lib.ConvBytes
import Derived.IntWalk
/-
  ReportPairs, plain: right pairs; what a put key leaves of them; the lines' order.
-/
namespace Go.Proofs.YtkckncggiicciaaDoor
open Go.RowKit
set_option maxRecDepth 100000
theorem bl_cons (a b : UInt8) (x y : List UInt8) : Op.bytesLess (a :: x) (b :: y) = (decide (a < b) || (a == b && Op.bytesLess x y)) := rfl
theorem bl_tri : ∀ x y : List UInt8, (Op.bytesLess x y = true → Op.bytesLess y x = false ∧ x ≠ y) ∧ (Op.bytesLess x y = false → Op.bytesLess y x = false → x = y) ∧ (x = y → Op.bytesLess x y = false)
  | [], [] => by simp [Op.bytesLess]
  | [], b :: y => by simp [Op.bytesLess]
  | a :: x, [] => by simp [Op.bytesLess]
  | a :: x, b :: y => by
    have ih := bl_tri x y
    rw [bl_cons, bl_cons]
    by_cases h1 : a < b
    · have h2 : ¬ b < a := by rw [UInt8.lt_iff_toNat_lt] at *; omega
      have h3 : a ≠ b := by rintro rfl; rw [UInt8.lt_iff_toNat_lt] at h1; omega
      have h4 : b ≠ a := fun e => h3 e.symm
      simp [h1, h2, h3, h4]
    · by_cases h2 : b < a
      · have h3 : a ≠ b := by rintro rfl; rw [UInt8.lt_iff_toNat_lt] at h2; omega
        simp [h1, h2, h3]
      · have h3 : a = b := by
          apply UInt8.toNat_inj.1
          rw [UInt8.lt_iff_toNat_lt] at *
          omega
        subst h3
        simp only [h1, decide_false, Bool.false_or, beq_self_eq_true, Bool.true_and, List.cons.injEq, true_and, ne_eq]
        exact ih
theorem bl_trans : ∀ x y z : List UInt8, Op.bytesLess x y = true → Op.bytesLess y z = true → Op.bytesLess x z = true
  | x, [], z, h, _ => by cases x <;> simp [Op.bytesLess] at h
  | x, b :: y, [], _, h => by simp [Op.bytesLess] at h
  | [], b :: y, c :: z, _, _ => by simp [Op.bytesLess]
  | a :: x, b :: y, c :: z, h1, h2 => by
    have ih := bl_trans x y z
    rw [bl_cons] at *
    simp only [Bool.or_eq_true, decide_eq_true_eq, Bool.and_eq_true, beq_iff_eq] at *
    rcases h1 with h1 | ⟨rfl, h1⟩
    · rcases h2 with h2 | ⟨rfl, h2⟩
      · left
        rw [UInt8.lt_iff_toNat_lt] at *
        omega
      · exact .inl h1
    · rcases h2 with h2 | ⟨rfl, h2⟩
      · exact .inl h2
      · exact .inr ⟨rfl, ih h1 h2⟩
/-- A pair that a right machine may hold. -/
structure PairOk (p : ByteArray × Va) : Prop where
  lo : 1 ≤ p.1.size
  hi : p.1.size ≤ 8
  kind : p.2.k ≠ 0
  chk : chkVa p.2 = 0
  num : p.2.x < 18446744073709551616
def ltK (a b : ByteArray × Va) : Prop := Op.bytesLess a.1.toList b.1.toList = true
structure SortP (ps : List (ByteArray × Va)) : Prop where
  each : ∀ p ∈ ps, PairOk p
  sorted : ps.Pairwise ltK
structure RightP (ps : List (ByteArray × Va)) : Prop extends SortP ps where
  few : ps.length ≤ 32
theorem right_nil : RightP [] := ⟨⟨by simp, List.Pairwise.nil⟩, by simp⟩
theorem PairOk.ok {p : ByteArray × Va} (h : PairOk p) : PrOk p := ⟨by have := h.hi; omega, h.num, by have := (chk_sz h.chk).2; unfold maxLen; omega⟩
theorem drop_at {α : Type} {l : List α} {i : Nat} {a : α} (h : l[i]? = some a) : l.drop i = a :: l.drop (i + 1) := by
  obtain ⟨hi, rfl⟩ := List.getElem?_eq_some_iff.1 h
  exact List.drop_eq_getElem_cons hi
/-- What stands of the pairs before the i-th, a key being put; is it put? -/
structure SetI (ps : List (ByteArray × Va)) (key : ByteArray) (i : Nat) (l : List (ByteArray × Va)) (d : Bool) : Prop where
  each : ∀ p ∈ l, PairOk p
  sorted : l.Pairwise ltK
  rest : ∀ x ∈ l, ∀ q ∈ ps.drop i, ltK x q
  todo : d = false → ∀ x ∈ l, Op.bytesLess x.1.toList key.toList = true
  len : l.length ≤ i + 1
  len0 : d = false → l.length ≤ i
theorem set_start (ps : List (ByteArray × Va)) (key : ByteArray) (d : Bool) : SetI ps key 0 [] d := ⟨by simp, List.Pairwise.nil, by simp, by simp, by simp, by simp⟩
theorem pw_snoc {l : List (ByteArray × Va)} {p : ByteArray × Va} (h : l.Pairwise ltK) (hp : ∀ x ∈ l, ltK x p) : (l ++ [p]).Pairwise ltK := by
  rw [List.pairwise_append]
  exact ⟨h, List.pairwise_singleton _ _, fun a ha b hb => by simp at hb; subst hb; exact hp a ha⟩
theorem rest_next {ps : List (ByteArray × Va)} {i : Nat} {p q : ByteArray × Va} (hs : ps.Pairwise ltK) (hp : ps[i]? = some p) (hq : q ∈ ps.drop (i + 1)) : ltK p q := by
  have h := List.Pairwise.drop (i := i) hs
  rw [drop_at hp, List.pairwise_cons] at h
  exact h.1 q hq
/-- The key is put ahead of the i-th. -/
theorem set_ins {ps : List (ByteArray × Va)} {key : ByteArray} {i : Nat} {l : List (ByteArray × Va)} {p : ByteArray × Va} {v : Va} (hs : ps.Pairwise ltK) (hp : ps[i]? = some p) (h : SetI ps key i l false) (hk : PairOk (key, v))
    (hle : (Op.bytesLess key.toList p.1.toList || key.toList == p.1.toList) = true) :
    (∀ x ∈ l ++ [(key, v)], PairOk x) ∧ (l ++ [(key, v)]).Pairwise ltK ∧ (∀ x ∈ l ++ [(key, v)], ∀ q ∈ ps.drop (i + 1), ltK x q) ∧ (p.1.toList ≠ key.toList → ∀ x ∈ l ++ [(key, v)], ltK x p) ∧ (l ++ [(key, v)]).length ≤ i + 1 := by
  have hlk : ∀ q ∈ ps.drop (i + 1), ltK (key, v) q := fun q hq => by
    have h1 := rest_next hs hp hq
    rw [Bool.or_eq_true] at hle
    rcases hle with h2 | h2
    · exact bl_trans _ _ _ h2 h1
    · have e : key.toList = p.1.toList := by simpa using h2
      unfold ltK at h1 ⊢
      show Op.bytesLess key.toList q.1.toList = true
      rw [e]
      exact h1
  refine ⟨fun x hx => ?_, pw_snoc h.sorted (h.todo rfl), fun x hx q hq => ?_, fun hne x hx => ?_, ?_⟩
  · rw [List.mem_append] at hx
    rcases hx with hx | hx
    · exact h.each x hx
    · simp at hx; subst hx; exact hk
  · rw [List.mem_append] at hx
    rcases hx with hx | hx
    · exact h.rest x hx q (by rw [drop_at hp]; exact List.mem_cons_of_mem _ hq)
    · simp at hx; subst hx; exact hlk q hq
  · rw [List.mem_append] at hx
    rcases hx with hx | hx
    · exact h.rest x hx p (by rw [drop_at hp]; exact List.mem_cons_self)
    · simp at hx
      subst hx
      rw [Bool.or_eq_true] at hle
      rcases hle with h2 | h2
      · exact h2
      · exact absurd (by simpa using h2 : key.toList = p.1.toList).symm hne
  · rw [List.length_append]
    have := h.len0 rfl
    simp
    omega
/-- .. and the i-th goes. -/
theorem set_ins_eq {ps : List (ByteArray × Va)} {key : ByteArray} {i : Nat} {l : List (ByteArray × Va)} {p : ByteArray × Va} {v : Va} (hs : ps.Pairwise ltK) (hp : ps[i]? = some p) (h : SetI ps key i l false) (hk : PairOk (key, v))
    (hle : (Op.bytesLess key.toList p.1.toList || key.toList == p.1.toList) = true) : SetI ps key (i + 1) (l ++ [(key, v)]) true := by
  obtain ⟨h1, h2, h3, _, h5⟩ := set_ins hs hp h hk hle
  exact ⟨h1, h2, h3, (fun e => by cases e), by omega, fun e => by cases e⟩
/-- .. and the i-th stays. -/
theorem set_ins_ne {ps : List (ByteArray × Va)} {key : ByteArray} {i : Nat} {l : List (ByteArray × Va)} {p : ByteArray × Va} {v : Va} (hs : ps.Pairwise ltK) (hp : ps[i]? = some p) (hpo : PairOk p) (h : SetI ps key i l false) (hk : PairOk (key, v))
    (hle : (Op.bytesLess key.toList p.1.toList || key.toList == p.1.toList) = true) (hne : p.1.toList ≠ key.toList) : SetI ps key (i + 1) ((l ++ [(key, v)]) ++ [p]) true := by
  obtain ⟨h1, h2, h3, h4, h5⟩ := set_ins hs hp h hk hle
  refine ⟨fun x hx => ?_, pw_snoc h2 (h4 hne), fun x hx q hq => ?_, (fun e => by cases e), ?_, fun e => by cases e⟩
  · rw [List.mem_append] at hx
    rcases hx with hx | hx
    · exact h1 x hx
    · simp at hx; subst hx; exact hpo
  · rw [List.mem_append] at hx
    rcases hx with hx | hx
    · exact h3 x hx q hq
    · simp at hx; subst hx; exact rest_next hs hp hq
  · rw [List.length_append]
    simp at h5 ⊢
    omega
/-- Nothing is put, the i-th goes. -/
theorem set_eq {ps : List (ByteArray × Va)} {key : ByteArray} {i : Nat} {l : List (ByteArray × Va)} {p : ByteArray × Va} {d : Bool} (hp : ps[i]? = some p) (h : SetI ps key i l d) : SetI ps key (i + 1) l d :=
  ⟨h.each, h.sorted, fun x hx q hq => h.rest x hx q (by rw [drop_at hp]; exact List.mem_cons_of_mem _ hq), h.todo, by have := h.len; omega, fun e => by have := h.len0 e; omega⟩
/-- Nothing is put, the i-th stays. -/
theorem set_ne {ps : List (ByteArray × Va)} {key : ByteArray} {i : Nat} {l : List (ByteArray × Va)} {p : ByteArray × Va} {d : Bool} (hs : ps.Pairwise ltK) (hp : ps[i]? = some p) (hpo : PairOk p) (h : SetI ps key i l d)
    (hle : d = false → (Op.bytesLess key.toList p.1.toList || key.toList == p.1.toList) = false) : SetI ps key (i + 1) (l ++ [p]) d := by
  refine ⟨fun x hx => ?_, pw_snoc h.sorted fun x hx => h.rest x hx p (by rw [drop_at hp]; exact List.mem_cons_self), fun x hx q hq => ?_, fun hd x hx => ?_, ?_, fun hd => ?_⟩
  · rw [List.mem_append] at hx
    rcases hx with hx | hx
    · exact h.each x hx
    · simp at hx; subst hx; exact hpo
  · rw [List.mem_append] at hx
    rcases hx with hx | hx
    · exact h.rest x hx q (by rw [drop_at hp]; exact List.mem_cons_of_mem _ hq)
    · simp at hx; subst hx; exact rest_next hs hp hq
  · rw [List.mem_append] at hx
    rcases hx with hx | hx
    · exact h.todo hd x hx
    · simp at hx
      subst hx
      have h2 := hle hd
      rw [Bool.or_eq_false_iff] at h2
      cases h3 : Op.bytesLess x.1.toList key.toList with
      | true => rfl
      | false =>
        have := (bl_tri key.toList x.1.toList).2.1 h2.1 h3
        rw [this] at h2
        simp at h2
  · rw [List.length_append]
    have := h.len
    simp
    omega
  · rw [List.length_append]
    have := h.len0 hd
    simp
    omega
theorem set_end {ps : List (ByteArray × Va)} {key : ByteArray} {i : Nat} {l : List (ByteArray × Va)} {d : Bool} (h : SetI ps key i l d) : SortP l := ⟨h.each, h.sorted⟩
theorem set_end_put {ps : List (ByteArray × Va)} {key : ByteArray} {i : Nat} {l : List (ByteArray × Va)} {v : Va} (h : SetI ps key i l false) (hk : PairOk (key, v)) : SortP (l ++ [(key, v)]) := by
  refine ⟨fun x hx => ?_, pw_snoc h.sorted (h.todo rfl)⟩
  rw [List.mem_append] at hx
  rcases hx with hx | hx
  · exact h.each x hx
  · simp at hx; subst hx; exact hk
theorem hexd_lt : ∀ a : Nat, a < 16 → ∀ b : Nat, b < 16 → a < b → hexd a < hexd b := by decide
theorem hexT_cons (a : UInt8) (x : List UInt8) : hexT (a :: x) = hexd (a.toNat / 16) :: hexd (a.toNat % 16) :: hexT x := by simp [hexT]
theorem hex_less : ∀ (x y r s : List UInt8), x.length = y.length → Op.bytesLess x y = true → Op.bytesLess (hexT x ++ r) (hexT y ++ s) = true
  | [], [], r, s, _, h => by simp [Op.bytesLess] at h
  | [], b :: y, _, _, h, _ => by simp at h
  | a :: x, [], _, _, h, _ => by simp at h
  | a :: x, b :: y, r, s, hl, h => by
    have ih := hex_less x y r s (by simpa using hl)
    rw [bl_cons] at h
    rw [hexT_cons, hexT_cons, List.cons_append, List.cons_append, List.cons_append, List.cons_append, bl_cons, bl_cons]
    have ha := a.toNat_lt
    have hb := b.toNat_lt
    simp only [Bool.or_eq_true, decide_eq_true_eq, Bool.and_eq_true, beq_iff_eq] at h ⊢
    rcases h with h | ⟨rfl, h⟩
    · rw [UInt8.lt_iff_toNat_lt] at h
      rcases Nat.lt_or_ge (a.toNat / 16) (b.toNat / 16) with h1 | h1
      · exact .inl (hexd_lt _ (by omega) _ (by omega) h1)
      · have e : a.toNat / 16 = b.toNat / 16 := by omega
        right
        refine ⟨by rw [e], .inl (hexd_lt _ (by omega) _ (by omega) (by omega))⟩
    · exact .inr ⟨rfl, .inr ⟨rfl, ih h⟩⟩
theorem pair_list (p : ByteArray × Va) : pairL p = 107 :: (hexT p.1.data.toList ++ 32 :: valT p.2) := by
  unfold pairL wordsL
  rw [Lib.join_cons]
  simp [Lib.joinTail]
/-- Lines of pairs in order are in order, where the keys are as long. -/
theorem line_less {a b : ByteArray × Va} (h : ltK a b) (hl : a.1.size = b.1.size) : (Op.bytesLess (pairL b) (pairL a) || pairL b == pairL a) = false := by
  have e1 : a.1.data.toList.length = b.1.data.toList.length := by
    have h1 : a.1.data.toList.length = a.1.size := Array.length_toList
    have h2 : b.1.data.toList.length = b.1.size := Array.length_toList
    omega
  unfold ltK at h
  rw [ByteArray.toList_eq, ByteArray.toList_eq] at h
  have h1 : Op.bytesLess (pairL a) (pairL b) = true := by
    rw [pair_list, pair_list, bl_cons]
    have := hex_less a.1.data.toList b.1.data.toList (32 :: valT a.2) (32 :: valT b.2) e1 h
    rw [this]
    simp
  obtain ⟨h2, h3⟩ := (bl_tri (pairL a) (pairL b)).1 h1
  rw [h2, Bool.false_or]
  have : pairL b ≠ pairL a := fun e => h3 e.symm
  simpa using this
end Go.Proofs.YtkckncggiicciaaDoor
/-
  The walks of skerrykeep.Bytes, Twin, SpoilBytes.
-/
namespace Go.Proofs.YtkckncggiicciaaDoor
open Go.RowKit
def TwinPost (w : World) (l : List UInt8) (e : Ending) (w' : World) : Prop := ∃ v, e = .returned v ∧ OwnB w' w.heap.size v l ∧ Below w.heap.size w w'
set_option maxHeartbeats 400000 in
theorem Twin_any (A : Option Addr) (n cap : Nat) (l : List UInt8) (w : World) (B : Nat) (hb : By w B A n cap l) (hn : n ≤ 140737488355328) :
    Calls Tryd.prog 63 #[.slice A n cap] w (TwinPost w l) := by
  go_enter Tryd.func63, Tryd.ntmps63
  go_wp2_with (
    (at_builtin
     refine wpList_appB rfl (.tmp 4) (.tmp 5) rfl w.heap.size (.slice none 0 0) [] rfl (World.ownsRow_nil _ _ _ _) B A n cap l rfl hb (by simp; omega) (Nat.le_refl _) ?_
     intro v' w' ho hg))
  go_ret
  exact ⟨v', rfl, ho, (Below.refl _ _).grown hg (Nat.le_refl _) (by intro k hk; simp [Value.ownBlock] at hk)⟩

set_option maxHeartbeats 800000 in
theorem Bytes_any (A A' : Option Addr) (n cap n' cap' : Nat) (l l' : List UInt8) (w : World) (B B' : Nat) (hb : By w B A n cap l) (hb' : By w B' A' n' cap' l') :
    Calls Tryd.prog 66 #[.slice A n cap, .slice A' n' cap'] w (Qt w (.bool (decide (l = l')))) := by
  have h1 : n ≤ 9223372036854775807 := by have := hb.2.1; have := hb.2.2.1; unfold maxLen at this; omega
  have h2 : n' ≤ 9223372036854775807 := by have := hb'.2.1; have := hb'.2.2.1; unfold maxLen at this; omega
  by_cases hne : n = n'
  case neg =>
    have hr : decide (l = l') = false := by
      have := hb.len; have := hb'.len
      simp only [decide_eq_false_iff_not]
      rintro rfl
      omega
    rw [hr]
    have hd : ((n : Int) != (n' : Int)) = true := by simp; omega
    clear hr hne
    go_enter Tryd.func66, Tryd.ntmps66
    go_wp2_with fail
    go_ret
    exact ⟨rfl, 0, rfl⟩
  subst hne
  have hd : ((n : Int) != (n : Int)) = false := by simp
  go_enter Tryd.func66, Tryd.ntmps66
  go_wp2_with fail
  go_loopg [5] n (fun m s5 wr => ∃ k : Nat, k + m = n ∧ s5 = .int .i64 k ∧ l.take k = l'.take k ∧ ∃ q, wr = w.drewN q)
  case atStart => exact ⟨0, by omega, rfl, rfl, 0, rfl⟩
  case round =>
    obtain ⟨k, hk, rfl, he, q, rfl⟩ := hrel
    have He := Lib.hid he
    clear he
    have Hk := Lib.hid hk
    have hkn : k ≤ n := by omega
    clear hk
    by_cases hlt : k < n
    · obtain ⟨b, off, c, rfl, hbB, hc, Hc⟩ := hb.step hlt
      obtain ⟨b', off', c', rfl, hbB', hc', Hc'⟩ := hb'.step hlt
      have hki : (k : Int) < (n : Int) := by omega
      have hk0 : (0 : Int) ≤ (k : Int) := by omega
      by_cases hcc : c = c'
      · have hx : ((c.toNat : Int) != (c'.toNat : Int)) = false := by simp [hcc]
        have Hcc := Lib.hid hcc
        clear hcc
        go_wp2_with fail
        go_quiet (fail)
        go_wp2_with fail
        go_roundg (gk - 1)
        case rel => exact ⟨k + 1, by have := Hk.out; omega, by go_num, by rw [Hc.out.2, Hc'.out.2, He.out, Hcc.out], _, rfl⟩
        case measure => have := Hk.out; omega
      · have hx : ((c.toNat : Int) != (c'.toNat : Int)) = true := by
          have : c.toNat ≠ c'.toNat := fun e => hcc (UInt8.toNat_inj.1 e)
          simp; omega
        have Hcc := Lib.hid hcc
        clear hcc
        go_wp2_with fail
        go_quiet (fail)
        go_wp2_with fail
        go_ret
        refine ⟨ret_bool ?_, _, World.drewN_drewN _ _ _⟩
        have hcc := Hcc.out
        have e1 := Hc.out.1
        have e2 := Hc'.out.1
        symm
        simp only [decide_eq_false_iff_not]
        rintro rfl
        rw [e1] at e2
        exact hcc (Option.some.inj e2)
    · go_wp2_with fail
      go_ret
      refine ⟨ret_bool ?_, _, rfl⟩
      have e1 : l.take k = l := List.take_of_length_le (by have := hb.len; omega)
      have e2 : l'.take k = l' := List.take_of_length_le (by have := hb'.len; omega)
      have := He.out
      rw [e1, e2] at this
      simp [this]

theorem Bytes_same (A A' : Option Addr) (n cap n' cap' : Nat) (l : List UInt8) (w : World) (B B' : Nat) (hb : By w B A n cap l) (hb' : By w B' A' n' cap' l) :
    Calls Tryd.prog 66 #[.slice A n cap, .slice A' n' cap'] w (Qt w (.bool true)) := by
  have h := Bytes_any A A' n cap n' cap' l l w B B' hb hb'
  rwa [show decide (l = l) = true by simp] at h
end Go.Proofs.YtkckncggiicciaaDoor
/-
  What skerrykeep says of two kept logs that are alike.
-/
namespace Go.Proofs.YtkckncggiicciaaDoor
open Go.RowKit
set_option maxRecDepth 100000
set_option maxHeartbeats 3200000 in
theorem kHard_self (h : Hd) (S S' : Option Addr) (sn sc sc' : Nat) (A A' : Option Addr) (m c c' : Nat) (sb : List UInt8) (es : List En) (w : World) (hs : By w w.heap.size S sn sc sb) (hs' : By w w.heap.size S' sn sc' sb)
    (he : EnRows w w.heap.size A m c es) (he' : EnRows w w.heap.size A' m c' es) (hl : es.length = m) :
    Calls Tryd.prog 41 #[.agg #[.int .i64 h.term, .int .i64 h.vote, .int .i64 h.base, .int .i64 h.bt, .int .i64 h.full, .int .i64 h.wit, .int .i64 h.learn, .int .i64 h.lw, .slice S sn sc, .slice A m c], .agg #[.int .i64 h.term, .int .i64 h.vote, .int .i64 h.base, .int .i64 h.bt, .int .i64 h.full, .int .i64 h.wit, .int .i64 h.learn, .int .i64 h.lw, .slice S' sn sc', .slice A' m c']] w
      fun e w' => e = .returned (.bool true) ∧ Below w.heap.size w w' := by
  obtain ⟨W2, hW2⟩ : ∃ W2, (w.alloc (.cells #[.int .i64 h.term, .int .i64 h.vote, .int .i64 h.base, .int .i64 h.bt, .int .i64 h.full, .int .i64 h.wit, .int .i64 h.learn, .int .i64 h.lw, .slice S sn sc, .slice A m c] 29)).alloc (.cells #[.int .i64 h.term, .int .i64 h.vote, .int .i64 h.base, .int .i64 h.bt, .int .i64 h.full, .int .i64 h.wit, .int .i64 h.learn, .int .i64 h.lw, .slice S' sn sc', .slice A' m c'] 29) = W2 := ⟨_, rfl⟩
  have hb2 : Below w.heap.size w W2 := by rw [← hW2]; exact two_below _ _ _
  have hz2 : W2.heap.size = w.heap.size + 2 := by rw [← hW2]; simp
  have hr0 : W2.heap[w.heap.size]? = some (.cells #[.int .i64 h.term, .int .i64 h.vote, .int .i64 h.base, .int .i64 h.bt, .int .i64 h.full, .int .i64 h.wit, .int .i64 h.learn, .int .i64 h.lw, .slice S sn sc, .slice A m c] 29 (0, 0)) := by
    rw [← hW2, Below.heap_alloc _ _ _ (by simp)]
    exact heap_alloc_new w _
  have hr1 : W2.heap[w.heap.size + 1]? = some (.cells #[.int .i64 h.term, .int .i64 h.vote, .int .i64 h.base, .int .i64 h.bt, .int .i64 h.full, .int .i64 h.wit, .int .i64 h.learn, .int .i64 h.lw, .slice S' sn sc', .slice A' m c'] 29 (0, 0)) := by
    rw [← hW2]
    exact heap_alloc2_new w _ _
  have Hrow : Hid (∀ w', Below W2.heap.size W2 w' → (w'.cell? ⟨w.heap.size, 8, none⟩ = some (.slice S sn sc) ∧ w'.cell? ⟨w.heap.size, 9, none⟩ = some (.slice A m c)) ∧ w'.cell? ⟨w.heap.size + 1, 8, none⟩ = some (.slice S' sn sc') ∧ w'.cell? ⟨w.heap.size + 1, 9, none⟩ = some (.slice A' m c')) := fun w' hb => by
    have q0 := (hb.block w.heap.size (by omega)).trans hr0
    have q1 := (hb.block (w.heap.size + 1) (by omega)).trans hr1
    exact ⟨⟨cell_of_row _ _ _ _ _ _ q0, cell_of_row _ _ _ _ _ _ q0⟩, cell_of_row _ _ _ _ _ _ q1, cell_of_row _ _ _ _ _ _ q1⟩
  have Hup : Hid (∀ w', Below W2.heap.size W2 w' → Below w.heap.size w w') := fun w' hb => hb2.trans (hb.mono (by omega))
  have HB : Hid (∀ w', Below W2.heap.size W2 w' → Calls Tryd.prog 66 #[.slice S sn sc, .slice S' sn sc'] w' fun e w'' => e = .returned (.bool true) ∧ Below w'.heap.size w' w'') := fun w' hb =>
    (Bytes_same S S' sn sc sn sc' sb w' w.heap.size w.heap.size (hs.below (Hup.out w' hb) (Nat.le_refl _)) (hs'.below (Hup.out w' hb) (Nat.le_refl _))).mono fun e w'' ⟨h1, q, h2⟩ => ⟨h1, by rw [h2]; exact below_drewN (Below.refl _ _) _⟩
  have HEn : Hid (∀ w', Below W2.heap.size W2 w' → Calls Tryd.prog 67 #[.slice A m c, .slice A' m c'] w' fun e w'' => e = .returned (.bool true) ∧ Below w'.heap.size w' w'') := fun w' hb =>
    kEntries_self A A' m c c' es w' ((Rd.below he (Hup.out w' hb) (Nat.le_refl _)).mono (Hup.out w' hb).size) ((Rd.below he' (Hup.out w' hb) (Nat.le_refl _)).mono (Hup.out w' hb).size) hl
  have HW2 := Lib.hid hW2
  have hbq : Below W2.heap.size W2 W2 := Below.refl _ _
  clear hW2 hr0 hr1 hs hs' he he' hl hz2
  go_enter Tryd.func41, Tryd.ntmps41
  go_wp2_with fail
  rw [HW2.out]
  refine (kConf_self _ _ _ _ _).mono ?_
  rintro e w3 ⟨rfl, hb3⟩
  have hbq3 := bstep hbq hb3
  obtain ⟨⟨y0, y1⟩, y2, y3⟩ := Hrow.out _ hbq3
  clear hb3 hbq
  go_wp2_with fail
  refine (HB.out _ hbq3).mono ?_
  rintro e w4 ⟨rfl, hb4⟩
  have hbq4 := bstep hbq3 hb4
  clear y0 y1 y2 y3 hb4
  obtain ⟨⟨y0, y1⟩, y2, y3⟩ := Hrow.out _ hbq4
  go_wp2_with fail
  refine (HEn.out _ hbq4).mono ?_
  rintro e w5 ⟨rfl, hb5⟩
  have hbq5 := bstep hbq4 hb5
  clear y0 y1 y2 y3 hb5
  go_wp2_with fail
  go_ret
  exact ⟨ret_bool (by simp), Hup.out _ hbq5⟩
end Go.Proofs.YtkckncggiicciaaDoor
/-
  The walk of skerrykeep.TwinHard.
-/
namespace Go.Proofs.YtkckncggiicciaaDoor
open Go.RowKit
set_option maxRecDepth 100000
theorem setRow_ne (w : World) (g k : Nat) (cs : Array Value) (h : k ≠ g) : (w.setRow g cs).heap[k]? = w.heap[k]? := by
  unfold World.setRow
  simp [Array.getElem?_modify, Ne.symm h]
theorem own_keep {w w' : World} {base : Nat} {e : TypeId} {size : Nat} {v : Value} {n : Nat} {xs : List Value} (h : w.ownsRow base e size v n xs) (hk : ∀ g, base ≤ g → g < w.heap.size → w'.heap[g]? = w.heap[g]?) : w'.ownsRow base e size v n xs := by
  obtain ⟨h1, h2 | ⟨g, cap, cur, e1, hb, hg, hr⟩⟩ := h
  · exact ⟨h1, .inl h2⟩
  · exact ⟨h1, .inr ⟨g, cap, cur, e1, hb, (hk g hb (Array.getElem?_eq_some_iff.1 hg).1).trans hg, hr⟩⟩
def zeroHd : Value := .agg (Hd.cells ⟨0, 0, 0, 0, 0, 0, 0, 0⟩ none 0 0 none 0 0).toArray
theorem info_hard : (Tryd.prog.info? 29).map (·.zero) = some (some zeroHd) := by kernel_rfl
def TwinHPost (x : List Value) (sn m : Nat) (sb : List UInt8) (es : List En) (w : World) (e : Ending) (w' : World) : Prop :=
  (∃ S' sc' A' c', e = .returned (.agg ((x.set 8 (.slice S' sn sc')).set 9 (.slice A' m c')).toArray) ∧ OwnB w' w.heap.size (.slice S' sn sc') sb ∧ OwnE w' w.heap.size (.slice A' m c') es) ∧ Below w.heap.size w w'
set_option maxHeartbeats 3200000 in
theorem TwinHard_any (x : List Value) (base bt : Int) (S : Option Addr) (sn sc : Nat) (A : Option Addr) (m c : Nat) (sb : List UInt8) (es : List En) (w : World) (hx : HdAt x base bt A m c S sn sc) (hs : By w w.heap.size S sn sc sb) (he : EnRows w w.heap.size A m c es) (hl : es.length = m) (hsn : sn ≤ 32768) (hm : m ≤ 1000) :
    Calls Tryd.prog 34 #[.agg x.toArray] w (TwinHPost x sn m sb es w) := by
  obtain ⟨W2, hW2⟩ : ∃ W2, (w.alloc (.cells x.toArray 29)).alloc (.cells #[.int .i64 0, .int .i64 0, .int .i64 0, .int .i64 0, .int .i64 0, .int .i64 0, .int .i64 0, .int .i64 0, .slice none 0 0, .slice none 0 0] 29) = W2 := ⟨_, rfl⟩
  have hb2 : Below w.heap.size w W2 := by rw [← hW2]; exact two_below _ _ _
  have hz2 : W2.heap.size = w.heap.size + 2 := by rw [← hW2]; simp
  have hr0 : W2.heap[w.heap.size]? = some (.cells x.toArray 29 (0, 0)) := by
    rw [← hW2, Below.heap_alloc _ _ _ (by simp)]
    exact heap_alloc_new w _
  have hr1 : W2.heap[w.heap.size + 1]? = some (.cells #[.int .i64 0, .int .i64 0, .int .i64 0, .int .i64 0, .int .i64 0, .int .i64 0, .int .i64 0, .int .i64 0, .slice none 0 0, .slice none 0 0] 29 (0, 0)) := by
    rw [← hW2]
    exact heap_alloc2_new w _ _
  have Hr1 := Lib.hid hr1
  have Hz2 := Lib.hid hz2
  clear hr1
  have Hsz : Hid ((Tryd.prog.info? 29).map (·.size) = some x.toArray.size) := by unfold Hid; rw [List.size_toArray, hx.len]; exact size10
  have Hsz2 : Hid ((Tryd.prog.info? 29).map (·.size) = some x.length) := by unfold Hid; rw [hx.len]; exact size10
  have Hx10 : Hid (x.length = 10) := hx.len
  have Hone : Hid (∀ v ∈ x, v.oneCell' = true) := hx.one
  have Hup : Hid (∀ w', Below W2.heap.size W2 w' → Below w.heap.size w w') := fun w' hb => hb2.trans (hb.mono (by omega))
  have HY : Hid (∀ w', Below W2.heap.size W2 w' → w'.cell? ⟨w.heap.size, 8, none⟩ = some (.slice S sn sc) ∧ w'.cell? ⟨w.heap.size, 9, none⟩ = some (.slice A m c)) := fun w' hb => by
    have q := (hb.block w.heap.size (by omega)).trans hr0
    exact ⟨cell_list q _ _ hx.snap, cell_list q _ _ hx.log⟩
  have Hsnap : Hid (x[8]? = some (.slice S sn sc)) := hx.snap
  have Hlog : Hid (x[9]? = some (.slice A m c)) := hx.log
  have Hs := Lib.hid hs
  have He := Lib.hid he
  have Hl := Lib.hid hl
  have Hsl : Hid (sb.length = sn) := hs.len
  have HW2 := Lib.hid hW2
  have Hr0 := Lib.hid hr0
  clear hW2 hr0 hz2 hx hs he hl
  go_enter Tryd.func34, Tryd.ntmps34
  go_wp2_with (first
    | (refine wpList_load_row rfl 29 (.tmp 1) rfl w.heap.size rfl 29 x.toArray (0, 0) _ (by first | exact Hr0.out | (rw [Below.heap_alloc _ _ _ (by simp)]; exact heap_alloc_new w _)) Tryd.underlying29 rfl Hsz.out ?_; rw [HW2.out])
    | (refine wpList_store_local rfl 29 (.tmp 3) _ rfl x rfl rfl Hsz2.out ?zz Hone.out ?_
       case zz => exact Hx10.out.symm
       intro w5 q5 hb5 hz5
       have Q5 := Lib.hid q5
       have Hz5 := Lib.hid hz5
       clear q5 hz5
       obtain ⟨y8, y9⟩ := HY.out _ hb5))
  have hbw5 : Below w.heap.size w w5 := Hup.out _ hb5
  refine (Twin_any S sn sc sb w5 w.heap.size (Hs.out.below hbw5 (Nat.le_refl _)) (by omega)).mono ?_
  rintro e w6 ⟨v6, rfl, ho6, hb6⟩
  have hrow6 : w6.heap[W2.heap.size]? = some (.cells x.toArray 29 (0, 0)) := (hb6.block _ (by have := Hz5.out; omega)).trans Q5.out
  have z8 : w6.cell? ⟨W2.heap.size, 8, none⟩ = some (.slice S sn sc) := cell_list hrow6 _ _ Hsnap.out
  have f8 : w6.frozen? ⟨W2.heap.size, 8, none⟩ = false := frozen_of_row _ _ _ _ _ hrow6
  have hbq6 := bstep hb5 hb6
  have Hrow6 := Lib.hid hrow6
  obtain ⟨S', sc', rfl, hs6⟩ := own_by ho6 (n := sn) Hsl.out
  obtain ⟨y8', y9'⟩ := HY.out _ hbq6
  clear y8 y9 hrow6
  go_wp2_with fail
  obtain ⟨W7, hW7⟩ : ∃ W7, w6.setCell ⟨W2.heap.size, 8, none⟩ (.slice S' sn sc') = W7 := ⟨_, rfl⟩
  have hb7 : Below W2.heap.size W2 W7 := by rw [← hW7]; exact hbq6.setCell (Nat.le_refl _) _
  have ho7 : OwnB W7 w5.heap.size (.slice S' sn sc') sb := by
    rw [← hW7]
    exact ownsRow_setCell_below ho6 (by have := Hz5.out; show W2.heap.size < _; omega) _
  have hrow7 : W7.heap[W2.heap.size]? = some (.cells (x.set 8 (.slice S' sn sc')).toArray 29 (0, 0)) := by
    rw [← hW7, heap_setCell_same _ _ _ _ _ _ Hrow6.out, List.setIfInBounds_toArray]
  have hz7 : w5.heap.size ≤ W7.heap.size := by
    rw [← hW7]
    have := hb6.size
    simpa [World.setCell] using this
  rw [hW7]
  clear hW7 z8 f8 y8' y9' hs6 ho6
  have Ho7 := Lib.hid ho7
  have Hz7 := Lib.hid hz7
  refine (TwinEntries_any A m c es W7 ((Rd.below He.out (Hup.out _ hb7) (Nat.le_refl _)).mono (Hup.out _ hb7).size) Hl.out hm).mono ?_
  rintro e w8 ⟨⟨v8, rfl, ho8⟩, hb8⟩
  have hrow8 : w8.heap[W2.heap.size]? = some (.cells (x.set 8 (.slice S' sn sc')).toArray 29 (0, 0)) := (hb8.block _ (by have := Hz5.out; have := Hz7.out; omega)).trans hrow7
  have z9 : w8.cell? ⟨W2.heap.size, 9, none⟩ = some (.slice A m c) := cell_list hrow8 _ _ (by rw [List.getElem?_set_ne (by decide)]; exact Hlog.out)
  have f9 : w8.frozen? ⟨W2.heap.size, 9, none⟩ = false := frozen_of_row _ _ _ _ _ hrow8
  obtain ⟨A', c', rfl, _⟩ := ownE_rows ho8 Hl.out
  have hb8q := bstep hb7 hb8
  have Hrow8 := Lib.hid hrow8
  have Ho8 := Lib.hid ho8
  clear hrow7 hrow8 ho7 hz7 ho8
  obtain ⟨W9, hW9⟩ : ∃ W9, w8.setCell ⟨W2.heap.size, 9, none⟩ (.slice A' m c') = W9 := ⟨_, rfl⟩
  have hb9 : Below W2.heap.size W2 W9 := by rw [← hW9]; exact hb8q.setCell (Nat.le_refl _) _
  obtain ⟨xc, hxc⟩ : ∃ xc, (x.set 8 (.slice S' sn sc')).set 9 (.slice A' m c') = xc := ⟨_, rfl⟩
  have hxl : xc.length = 10 := by rw [← hxc, List.length_set, List.length_set]; exact Hx10.out
  have hrow9 : W9.heap[W2.heap.size]? = some (.cells xc.toArray 29 (0, 0)) := by
    rw [← hW9, heap_setCell_same _ _ _ _ _ _ Hrow8.out, List.setIfInBounds_toArray, hxc]
  have HW9 := Lib.hid hW9
  have Hrow9 : Hid ((w8.setCell ⟨W2.heap.size, 9, none⟩ (.slice A' m c')).heap[W2.heap.size]? = some (.cells xc.toArray 29 (0, 0))) := by rw [hW9]; exact hrow9
  have Hz9 : Hid (W9.heap[w.heap.size + 1]? = some (.cells #[.int .i64 0, .int .i64 0, .int .i64 0, .int .i64 0, .int .i64 0, .int .i64 0, .int .i64 0, .int .i64 0, .slice none 0 0, .slice none 0 0] 29 (0, 0))) := (hb9.block _ (by have := Hz2.out; omega)).trans Hr1.out
  have Hsz3 : Hid ((Tryd.prog.info? 29).map (·.size) = some xc.toArray.size) := by unfold Hid; rw [List.size_toArray, hxl]; exact size10
  have Hone3 : Hid (∀ u ∈ xc, u.oneCell' = true) := fun u hu => by
    rw [← hxc] at hu
    rcases List.mem_or_eq_of_mem_set hu with h | rfl
    · rcases List.mem_or_eq_of_mem_set h with h | rfl
      · exact Hone.out u h
      · rfl
    · rfl
  have Hxl : Hid (xc.length = 10) := hxl
  clear hW9 hrow9 hxl
  have Hsz4 : Hid (10 = xc.toArray.size) := by unfold Hid; rw [List.size_toArray, Hxl.out]
  go_wp2_with (first
    | (refine wpList_load_row rfl 29 (.tmp 3) rfl W2.heap.size rfl 29 xc.toArray (0, 0) _ Hrow9.out Tryd.underlying29 rfl Hsz3.out ?_; rw [HW9.out])
    | (refine wpList_store_row rfl 29 (.tmp 2) (.tmp 13) rfl (w.heap.size + 1) xc.toArray rfl rfl 29 #[.int .i64 0, .int .i64 0, .int .i64 0, .int .i64 0, .int .i64 0, .int .i64 0, .int .i64 0, .int .i64 0, .slice none 0 0, .slice none 0 0] Hz9.out Hsz3.out Hsz4.out (all_one Hone3.out) ?_))
  have hxe := hxc
  have hb10 : Below w.heap.size w (W9.setRow (w.heap.size + 1) xc.toArray) := below_setRow (Hup.out _ hb9) (by omega) _
  have hkeep : ∀ g, w5.heap.size ≤ g → g < w8.heap.size → (W9.setRow (w.heap.size + 1) xc.toArray).heap[g]? = w8.heap[g]? := fun g h1 _ => by
    have a1 := Hz5.out
    have a2 := Hz2.out
    rw [setRow_ne _ _ _ _ (by omega), ← HW9.out]
    exact Below.heap_setCell _ _ _ _ (by show g ≠ W2.heap.size; omega)
  have o1 : OwnB (W9.setRow (w.heap.size + 1) xc.toArray) w5.heap.size (.slice S' sn sc') sb := own_keep (own_below Ho7.out hb8) hkeep
  have o2 : OwnE (W9.setRow (w.heap.size + 1) xc.toArray) W7.heap.size (.slice A' m c') es := own_keep Ho8.out (fun g h1 h2 => hkeep g (by have := Hz7.out; omega) h2)
  obtain ⟨S1, sc1, e1, p1⟩ := own_by o1 (n := sn) Hsl.out
  obtain ⟨A1, c1, e2, p2⟩ := ownE_rows o2 Hl.out
  injection e1 with e3 _ e4
  injection e2 with e5 _ e6
  subst e3 e4 e5 e6
  refine bodyPost_ret (results_cell_row Tryd.results34 _ _ (w.heap.size + 1) _ xc.toArray (0, 0) _ rfl (setRow_heap _ _ _ _ _ _ Hz9.out) Tryd.underlying29 rfl Hsz3.out) rfl ?_
  exact ⟨⟨_, _, _, _, by rw [hxe], own_base o1 (by have := Hz5.out; have := Hz2.out; omega), own_base o2 (by have := Hz7.out; have := Hz5.out; have := Hz2.out; omega)⟩, hb10⟩
end Go.Proofs.YtkckncggiicciaaDoor
/-
  What skerrykeep says of two rows of seven, of two lists of reads, that are alike.
-/
namespace Go.Proofs.YtkckncggiicciaaDoor
open Go.RowKit
set_option maxRecDepth 100000
def sevenC (x : Nat → Int) : List Value := [.int .i64 (x 0), .int .i64 (x 1), .int .i64 (x 2), .int .i64 (x 3), .int .i64 (x 4), .int .i64 (x 5), .int .i64 (x 6)]
theorem sevenC_at (x : Nat → Int) {i : Nat} (h : i < 7) : (sevenC x)[i]? = some (.int .i64 (x i)) := by
  match i, h with
  | 0, _ | 1, _ | 2, _ | 3, _ | 4, _ | 5, _ | 6, _ => rfl
set_option maxHeartbeats 1600000 in
theorem nodes_self (x : Nat → Int) (w : World) : Calls Tryd.prog 42 #[.agg #[.int .i64 (x 0), .int .i64 (x 1), .int .i64 (x 2), .int .i64 (x 3), .int .i64 (x 4), .int .i64 (x 5), .int .i64 (x 6)], .agg #[.int .i64 (x 0), .int .i64 (x 1), .int .i64 (x 2), .int .i64 (x 3), .int .i64 (x 4), .int .i64 (x 5), .int .i64 (x 6)]] w
    fun e w' => e = .returned (.bool true) ∧ Below w.heap.size w w' := by
  obtain ⟨W2, hW2⟩ : ∃ W2, (w.alloc (.cells #[.int .i64 (x 0), .int .i64 (x 1), .int .i64 (x 2), .int .i64 (x 3), .int .i64 (x 4), .int .i64 (x 5), .int .i64 (x 6)] 30)).alloc (.cells #[.int .i64 (x 0), .int .i64 (x 1), .int .i64 (x 2), .int .i64 (x 3), .int .i64 (x 4), .int .i64 (x 5), .int .i64 (x 6)] 30) = W2 := ⟨_, rfl⟩
  have hb2 : Below w.heap.size w W2 := by rw [← hW2]; exact two_below _ _ _
  have hz2 : W2.heap.size = w.heap.size + 2 := by rw [← hW2]; simp
  have hr0 : W2.heap[w.heap.size]? = some (.cells (sevenC x).toArray 30 (0, 0)) := by
    rw [← hW2, Below.heap_alloc _ _ _ (by simp)]
    exact heap_alloc_new w _
  have hr1 : W2.heap[w.heap.size + 1]? = some (.cells (sevenC x).toArray 30 (0, 0)) := by
    rw [← hW2]
    exact heap_alloc2_new w _ _
  have HC : Hid (∀ w' (i : Nat), i < 7 → Below W2.heap.size W2 w' → w'.cell? ⟨w.heap.size, i, none⟩ = some (.int .i64 (x i)) ∧ w'.cell? ⟨w.heap.size + 1, i, none⟩ = some (.int .i64 (x i))) := fun w' i hi hb => by
    have q0 := (hb.block w.heap.size (by omega)).trans hr0
    have q1 := (hb.block (w.heap.size + 1) (by omega)).trans hr1
    exact ⟨cell_list q0 _ _ (sevenC_at x hi), cell_list q1 _ _ (sevenC_at x hi)⟩
  have Hup : Hid (∀ w', Below W2.heap.size W2 w' → Below w.heap.size w w') := fun w' hb => hb2.trans (hb.mono (by omega))
  have HW2 := Lib.hid hW2
  clear hW2 hr0 hr1 hz2
  go_enter Tryd.func42, Tryd.ntmps42
  go_wp2_with fail
  rw [HW2.out]
  go_loopg [5] 7 (fun g s5 wr => ∃ i : Nat, i + g = 7 ∧ s5 = .int .i64 i ∧ Below W2.heap.size W2 wr)
  case atStart => exact ⟨0, by omega, rfl, Below.refl _ _⟩
  case round =>
    obtain ⟨i, hig, rfl, hbr⟩ := hrel
    have Hig := Lib.hid hig
    have hin : i ≤ 7 := by omega
    clear hig
    by_cases hlt : i < 7
    · obtain ⟨y0, y1⟩ := HC.out wr i hlt hbr
      have i0 : (0 : Int) ≤ (i : Int) := by omega
      have i1 : (i : Int) < 7 := by omega
      obtain ⟨xi, hxi⟩ : ∃ xi, x i = xi := ⟨_, rfl⟩
      rw [hxi] at y0 y1
      clear hxi
      have hd : (xi != xi) = false := by simp
      go_wp2_with fail
      go_quiet (fail)
      go_wp2_with fail
      go_roundg (gk - 1)
      case rel => exact ⟨i + 1, by have := Hig.out; omega, by go_num, (by first | exact hbr | exact below_drewN hbr _)⟩
      case measure => have := Hig.out; omega
    · obtain rfl : i = 7 := by omega
      go_wp2_with fail
      go_ret
      exact ⟨rfl, Hup.out _ hbr⟩
end Go.Proofs.YtkckncggiicciaaDoor
/-
  What skerrykeep says of two lists of reads that are alike.
-/
namespace Go.Proofs.YtkckncggiicciaaDoor
open Go.RowKit
set_option maxRecDepth 100000
/-- A read that waits. -/
structure Rq where
  cl : Int
  sq : Int
  k : Int
  y : ByteArray
  ok : Int
  ox : Nat
  os : ByteArray
  vk : Int
  vx : Nat
  vs : ByteArray
  ix : Int
  ro : Int
  ac : Int
def Rq.call (r : Rq) : List Value := [.int .i64 r.cl, .int .i64 r.sq, .int .i64 r.k, .string r.y, .int .i64 r.ok, .float .f64 r.ox, .string r.os, .int .i64 r.vk, .float .f64 r.vx, .string r.vs]
def Rq.cells (r : Rq) : List Value := [.int .i64 r.cl, .int .i64 r.sq, .int .i64 r.k, .string r.y, .int .i64 r.ok, .float .f64 r.ox, .string r.os, .int .i64 r.vk, .float .f64 r.vx, .string r.vs, .int .i64 r.ix, .int .i64 r.ro, .int .i64 r.ac]
def rq0 : Rq := ⟨0, 0, 0, ⟨#[]⟩, 0, 0, ⟨#[]⟩, 0, 0, ⟨#[]⟩, 0, 0, 0⟩
theorem size10c : (Tryd.prog.info? 62).map (·.size) = some 10 := by kernel_rfl
def RqRows (w : World) (B : Nat) (A : Option Addr) (n c : Nat) (rs : List Rq) : Prop := Rd w B 13 A n c (rs.map Rq.cells).flatten
theorem rq_row {w : World} {B n c : Nat} {A : Option Addr} {rs : List Rq} (h : RqRows w B A n c rs) (hl : rs.length = n) {k : Nat} (hk : k < n) :
    ∃ b off r, A = some ⟨b, off, none⟩ ∧ b < B ∧ rs.getD k rq0 = r ∧ w.rangeAt b (off + k * 13) (Rq.cells r) := by
  obtain ⟨b, off, x, h1, h2, h3, h4, h5⟩ := rd_row (xss := rs.map Rq.cells) h (fun x hx => by
    obtain ⟨e, _, rfl⟩ := List.mem_map.1 hx
    rfl) (by rw [List.length_map]; exact hl) hk
  rw [List.getElem?_map] at h3
  cases hq : rs[k]? with
  | none => rw [hq] at h3; cases h3
  | some e =>
    rw [hq] at h3
    injection h3 with h3
    subst h3
    exact ⟨b, off, e, h1, h2, by simp [List.getD, hq], h5⟩
theorem call_range {w : World} {b o : Nat} {r : Rq} (h : w.rangeAt b o r.cells) : w.rangeAt b o r.call := fun j v hj => by
  refine h j v ?_
  have hj10 : j < 10 := (List.getElem?_eq_some_iff.1 hj).1
  rw [← hj]
  match j, hj10 with
  | 0, _ | 1, _ | 2, _ | 3, _ | 4, _ | 5, _ | 6, _ | 7, _ | 8, _ | 9, _ => rfl
set_option maxHeartbeats 6400000 in
theorem kReads_self (A A' : Option Addr) (m c c' : Nat) (rs : List Rq) (w : World) (h1 : RqRows w w.heap.size A m c rs) (h2 : RqRows w w.heap.size A' m c' rs) (hl : rs.length = m) :
    Calls Tryd.prog 43 #[.slice A m c, .slice A' m c'] w fun e w' => e = .returned (.bool true) ∧ Below w.heap.size w w' := by
  have hc1 : m ≤ c := h1.2.1
  have hc2 : m ≤ c' := h2.2.1
  have hmx : c ≤ maxLen := h1.2.2.1
  unfold maxLen at hmx
  have HE : Hid (∀ i, i < m → ∃ b off b' off', ∃ r : Rq, A = some ⟨b, off, none⟩ ∧ A' = some ⟨b', off', none⟩ ∧ b < w.heap.size ∧ b' < w.heap.size ∧ w.rangeAt b (off + i * 13) r.cells ∧ w.rangeAt b' (off' + i * 13) r.cells) := fun i hi => by
    obtain ⟨b, off, e, q1, q2, q4, q6⟩ := rq_row h1 hl hi
    obtain ⟨b', off', e', p1, p2, p4, p6⟩ := rq_row h2 hl hi
    rw [q4] at p4
    subst p4
    exact ⟨b, off, b', off', e, q1, p1, q2, p2, q6, p6⟩
  have hd : ((m : Int) != (m : Int)) = false := by simp
  clear h1 h2 hl
  go_enter Tryd.func43, Tryd.ntmps43
  go_wp2_with fail
  go_loopg [5] m (fun g s5 wr => ∃ i : Nat, i + g = m ∧ s5 = .int .i64 i ∧ Below w.heap.size w wr)
  case atStart => exact ⟨0, by omega, rfl, Below.refl _ _⟩
  case round =>
    obtain ⟨i, hig, rfl, hbr⟩ := hrel
    have Hig := Lib.hid hig
    have hin : i ≤ m := by omega
    clear hig
    by_cases hlt : i < m
    · obtain ⟨b, off, b', off', r, rfl, rfl, hb, hb', y0, y1⟩ := HE.out i hlt
      have v0 := range_below y0 hbr hb
      have v1 := range_below y1 hbr hb'
      have x0 := Lib.hid (call_range v0)
      have x1 := Lib.hid (call_range v1)
      have r0 := cell_regrown (v0 10 _ rfl)
      have r1 := cell_regrown (v0 11 _ rfl)
      have r2 := cell_regrown (v0 12 _ rfl)
      have q0 := cell_regrown (v1 10 _ rfl)
      have q1 := cell_regrown (v1 11 _ rfl)
      have q2 := cell_regrown (v1 12 _ rfl)
      have z0 : b < wr.heap.size := Nat.lt_of_lt_of_le hb hbr.size
      have z1 : b' < wr.heap.size := Nat.lt_of_lt_of_le hb' hbr.size
      have HC : Hid (∀ w', Calls Tryd.prog 68 #[.agg r.call.toArray, .agg r.call.toArray] w' fun e' w'' => e' = .returned (.bool true) ∧ Below w'.heap.size w' w'') := fun w' => kCall_self _ _ _ _ _ _ _ _ _ _ w'
      obtain ⟨rx, hrx⟩ : ∃ rx, r.ix = rx := ⟨_, rfl⟩
      obtain ⟨ro, hro⟩ : ∃ ro, r.ro = ro := ⟨_, rfl⟩
      obtain ⟨ra, hra⟩ : ∃ ra, r.ac = ra := ⟨_, rfl⟩
      rw [hrx] at r0 q0
      rw [hro] at r1 q1
      rw [hra] at r2 q2
      have d0 : (rx != rx) = false := by simp
      have d1 : (ro != ro) = false := by simp
      have d2 : (ra != ra) = false := by simp
      have i0 : (0 : Int) ≤ (i : Int) := by omega
      have i1 : (i : Int) < (m : Int) := by omega
      clear y0 y1 HE v0 v1 hrx hro hra
      go_wp2_with fail
      with_reducible refine wp_region_quiet_below (by kernel_rfl) (by kernel_rfl) ?_
      iterate 4 (with_reducible refine wpQuiet_step ?_; intro K hK; go_simp; with_reducible refine hK _ ?_; clear hK K)
      with_reducible refine wpQuiet_step ?_
      intro K hK
      refine quiet_load_mid rfl 62 (.tmp 20) rfl b (off + i * 13) rfl r.call _ x0.out z0 Tryd.underlying62 rfl size10c (hK _ ?_)
      clear hK
      iterate 4 (with_reducible refine wpQuiet_step ?_; intro K hK; go_simp; with_reducible refine hK _ ?_; clear hK K)
      with_reducible refine wpQuiet_step ?_
      intro K hK
      refine quiet_load_mid rfl 62 (.tmp 25) rfl b' (off' + i * 13) rfl r.call _ x1.out z1 Tryd.underlying62 rfl size10c (hK _ ?_)
      clear hK
      with_reducible refine wpQuiet_step ?_
      intro K hK
      go_simp
      apply Exists.intro
      with_reducible refine ⟨fun _ => ?_, hK _ ?_⟩
      with_reducible exact Calls.regrown_of (HC.out _)
      clear hK
      repeat (with_reducible refine wpQuiet_step ?_; intro K hK; go_simp; with_reducible refine hK _ ?_; clear hK K)
      with_reducible refine wpQuiet_nil ?_
      intro w9 hw9
      have hbn : Below w.heap.size w w9 := hbr.trans (by
        obtain ⟨⟨dq, osq⟩, hw''⟩ := hw9
        rw [hw'']
        exact (below_regrown _ _ _).mono hbr.size)
      clear hw9
      go_wp2_with fail
      go_roundg (gk - 1)
      case rel => exact ⟨i + 1, by have := Hig.out; omega, by go_num, hbn⟩
      case measure => have := Hig.out; omega
    · obtain rfl : i = m := by omega
      clear HE
      go_wp2_with fail
      go_ret
      exact ⟨rfl, hbr⟩
end Go.Proofs.YtkckncggiicciaaDoor
/-
  What skerrykeep says of two replicas that are alike but for where their slices lie; written by genraft.py.
-/
namespace Go.Proofs.YtkckncggiicciaaDoor
open Go.RowKit
set_option maxRecDepth 100000
/-- A replica, all but its slices. -/
structure Rf where
  id : Int
  h : Hd
  commit : Int
  role : Int
  lead : Int
  wait : Int
  quiet : Int
  votes : Int
  round : Int
  next : Nat → Int
  mat : Nat → Int
  silent : Nat → Int
/-- Its cells. -/
def Rf.cells (r : Rf) (S : Option Addr) (sn sc : Nat) (A : Option Addr) (m c : Nat) (R : Option Addr) (rn rc : Nat) : List Value := [.int .i64 r.id, .int .i64 r.h.term, .int .i64 r.h.vote, .int .i64 r.h.base, .int .i64 r.h.bt, .int .i64 r.h.full, .int .i64 r.h.wit, .int .i64 r.h.learn, .int .i64 r.h.lw, .slice S sn sc, .slice A m c, .int .i64 r.commit, .int .i64 r.role, .int .i64 r.lead, .int .i64 r.wait, .int .i64 r.quiet, .int .i64 r.votes, .int .i64 r.round, .int .i64 (r.next 0), .int .i64 (r.next 1), .int .i64 (r.next 2), .int .i64 (r.next 3), .int .i64 (r.next 4), .int .i64 (r.next 5), .int .i64 (r.next 6), .int .i64 (r.mat 0), .int .i64 (r.mat 1), .int .i64 (r.mat 2), .int .i64 (r.mat 3), .int .i64 (r.mat 4), .int .i64 (r.mat 5), .int .i64 (r.mat 6), .int .i64 (r.silent 0), .int .i64 (r.silent 1), .int .i64 (r.silent 2), .int .i64 (r.silent 3), .int .i64 (r.silent 4), .int .i64 (r.silent 5), .int .i64 (r.silent 6), .slice R rn rc]
set_option maxHeartbeats 12800000 in
theorem kRaft_self (r : Rf) (S S' : Option Addr) (sn sc sc' : Nat) (A A' : Option Addr) (m c c' : Nat) (R R' : Option Addr) (rn rc rc' : Nat) (sb : List UInt8) (es : List En) (qs : List Rq) (w : World) (hs : By w w.heap.size S sn sc sb) (hs' : By w w.heap.size S' sn sc' sb)
    (he : EnRows w w.heap.size A m c es) (he' : EnRows w w.heap.size A' m c' es) (hl : es.length = m) (hq : RqRows w w.heap.size R rn rc qs) (hq' : RqRows w w.heap.size R' rn rc' qs) (hql : qs.length = rn) :
    Calls Tryd.prog 18 #[.agg #[.int .i64 r.id, .int .i64 r.h.term, .int .i64 r.h.vote, .int .i64 r.h.base, .int .i64 r.h.bt, .int .i64 r.h.full, .int .i64 r.h.wit, .int .i64 r.h.learn, .int .i64 r.h.lw, .slice S sn sc, .slice A m c, .int .i64 r.commit, .int .i64 r.role, .int .i64 r.lead, .int .i64 r.wait, .int .i64 r.quiet, .int .i64 r.votes, .int .i64 r.round, .int .i64 (r.next 0), .int .i64 (r.next 1), .int .i64 (r.next 2), .int .i64 (r.next 3), .int .i64 (r.next 4), .int .i64 (r.next 5), .int .i64 (r.next 6), .int .i64 (r.mat 0), .int .i64 (r.mat 1), .int .i64 (r.mat 2), .int .i64 (r.mat 3), .int .i64 (r.mat 4), .int .i64 (r.mat 5), .int .i64 (r.mat 6), .int .i64 (r.silent 0), .int .i64 (r.silent 1), .int .i64 (r.silent 2), .int .i64 (r.silent 3), .int .i64 (r.silent 4), .int .i64 (r.silent 5), .int .i64 (r.silent 6), .slice R rn rc], .agg #[.int .i64 r.id, .int .i64 r.h.term, .int .i64 r.h.vote, .int .i64 r.h.base, .int .i64 r.h.bt, .int .i64 r.h.full, .int .i64 r.h.wit, .int .i64 r.h.learn, .int .i64 r.h.lw, .slice S' sn sc', .slice A' m c', .int .i64 r.commit, .int .i64 r.role, .int .i64 r.lead, .int .i64 r.wait, .int .i64 r.quiet, .int .i64 r.votes, .int .i64 r.round, .int .i64 (r.next 0), .int .i64 (r.next 1), .int .i64 (r.next 2), .int .i64 (r.next 3), .int .i64 (r.next 4), .int .i64 (r.next 5), .int .i64 (r.next 6), .int .i64 (r.mat 0), .int .i64 (r.mat 1), .int .i64 (r.mat 2), .int .i64 (r.mat 3), .int .i64 (r.mat 4), .int .i64 (r.mat 5), .int .i64 (r.mat 6), .int .i64 (r.silent 0), .int .i64 (r.silent 1), .int .i64 (r.silent 2), .int .i64 (r.silent 3), .int .i64 (r.silent 4), .int .i64 (r.silent 5), .int .i64 (r.silent 6), .slice R' rn rc']] w fun e w' => e = .returned (.bool true) ∧ Below w.heap.size w w' := by
  obtain ⟨W2, hW2⟩ : ∃ W2, (w.alloc (.cells #[.int .i64 r.id, .int .i64 r.h.term, .int .i64 r.h.vote, .int .i64 r.h.base, .int .i64 r.h.bt, .int .i64 r.h.full, .int .i64 r.h.wit, .int .i64 r.h.learn, .int .i64 r.h.lw, .slice S sn sc, .slice A m c, .int .i64 r.commit, .int .i64 r.role, .int .i64 r.lead, .int .i64 r.wait, .int .i64 r.quiet, .int .i64 r.votes, .int .i64 r.round, .int .i64 (r.next 0), .int .i64 (r.next 1), .int .i64 (r.next 2), .int .i64 (r.next 3), .int .i64 (r.next 4), .int .i64 (r.next 5), .int .i64 (r.next 6), .int .i64 (r.mat 0), .int .i64 (r.mat 1), .int .i64 (r.mat 2), .int .i64 (r.mat 3), .int .i64 (r.mat 4), .int .i64 (r.mat 5), .int .i64 (r.mat 6), .int .i64 (r.silent 0), .int .i64 (r.silent 1), .int .i64 (r.silent 2), .int .i64 (r.silent 3), .int .i64 (r.silent 4), .int .i64 (r.silent 5), .int .i64 (r.silent 6), .slice R rn rc] 33)).alloc (.cells #[.int .i64 r.id, .int .i64 r.h.term, .int .i64 r.h.vote, .int .i64 r.h.base, .int .i64 r.h.bt, .int .i64 r.h.full, .int .i64 r.h.wit, .int .i64 r.h.learn, .int .i64 r.h.lw, .slice S' sn sc', .slice A' m c', .int .i64 r.commit, .int .i64 r.role, .int .i64 r.lead, .int .i64 r.wait, .int .i64 r.quiet, .int .i64 r.votes, .int .i64 r.round, .int .i64 (r.next 0), .int .i64 (r.next 1), .int .i64 (r.next 2), .int .i64 (r.next 3), .int .i64 (r.next 4), .int .i64 (r.next 5), .int .i64 (r.next 6), .int .i64 (r.mat 0), .int .i64 (r.mat 1), .int .i64 (r.mat 2), .int .i64 (r.mat 3), .int .i64 (r.mat 4), .int .i64 (r.mat 5), .int .i64 (r.mat 6), .int .i64 (r.silent 0), .int .i64 (r.silent 1), .int .i64 (r.silent 2), .int .i64 (r.silent 3), .int .i64 (r.silent 4), .int .i64 (r.silent 5), .int .i64 (r.silent 6), .slice R' rn rc'] 33) = W2 := ⟨_, rfl⟩
  have hb2 : Below w.heap.size w W2 := by rw [← hW2]; exact two_below _ _ _
  have hz2 : W2.heap.size = w.heap.size + 2 := by rw [← hW2]; simp
  have hr0 : W2.heap[w.heap.size]? = some (.cells #[.int .i64 r.id, .int .i64 r.h.term, .int .i64 r.h.vote, .int .i64 r.h.base, .int .i64 r.h.bt, .int .i64 r.h.full, .int .i64 r.h.wit, .int .i64 r.h.learn, .int .i64 r.h.lw, .slice S sn sc, .slice A m c, .int .i64 r.commit, .int .i64 r.role, .int .i64 r.lead, .int .i64 r.wait, .int .i64 r.quiet, .int .i64 r.votes, .int .i64 r.round, .int .i64 (r.next 0), .int .i64 (r.next 1), .int .i64 (r.next 2), .int .i64 (r.next 3), .int .i64 (r.next 4), .int .i64 (r.next 5), .int .i64 (r.next 6), .int .i64 (r.mat 0), .int .i64 (r.mat 1), .int .i64 (r.mat 2), .int .i64 (r.mat 3), .int .i64 (r.mat 4), .int .i64 (r.mat 5), .int .i64 (r.mat 6), .int .i64 (r.silent 0), .int .i64 (r.silent 1), .int .i64 (r.silent 2), .int .i64 (r.silent 3), .int .i64 (r.silent 4), .int .i64 (r.silent 5), .int .i64 (r.silent 6), .slice R rn rc] 33 (0, 0)) := by
    rw [← hW2, Below.heap_alloc _ _ _ (by simp)]
    exact heap_alloc_new w _
  have hr1 : W2.heap[w.heap.size + 1]? = some (.cells #[.int .i64 r.id, .int .i64 r.h.term, .int .i64 r.h.vote, .int .i64 r.h.base, .int .i64 r.h.bt, .int .i64 r.h.full, .int .i64 r.h.wit, .int .i64 r.h.learn, .int .i64 r.h.lw, .slice S' sn sc', .slice A' m c', .int .i64 r.commit, .int .i64 r.role, .int .i64 r.lead, .int .i64 r.wait, .int .i64 r.quiet, .int .i64 r.votes, .int .i64 r.round, .int .i64 (r.next 0), .int .i64 (r.next 1), .int .i64 (r.next 2), .int .i64 (r.next 3), .int .i64 (r.next 4), .int .i64 (r.next 5), .int .i64 (r.next 6), .int .i64 (r.mat 0), .int .i64 (r.mat 1), .int .i64 (r.mat 2), .int .i64 (r.mat 3), .int .i64 (r.mat 4), .int .i64 (r.mat 5), .int .i64 (r.mat 6), .int .i64 (r.silent 0), .int .i64 (r.silent 1), .int .i64 (r.silent 2), .int .i64 (r.silent 3), .int .i64 (r.silent 4), .int .i64 (r.silent 5), .int .i64 (r.silent 6), .slice R' rn rc'] 33 (0, 0)) := by
    rw [← hW2]
    exact heap_alloc2_new w _ _
  have Hrow : Hid (∀ w', Below W2.heap.size W2 w' → (w'.cell? ⟨w.heap.size, 11, none⟩ = some (.int .i64 r.commit) ∧ w'.cell? ⟨w.heap.size, 12, none⟩ = some (.int .i64 r.role) ∧ w'.cell? ⟨w.heap.size, 13, none⟩ = some (.int .i64 r.lead) ∧ w'.cell? ⟨w.heap.size, 14, none⟩ = some (.int .i64 r.wait) ∧ w'.cell? ⟨w.heap.size, 15, none⟩ = some (.int .i64 r.quiet) ∧ w'.cell? ⟨w.heap.size, 16, none⟩ = some (.int .i64 r.votes) ∧ w'.cell? ⟨w.heap.size, 17, none⟩ = some (.int .i64 r.round) ∧ w'.cell? ⟨w.heap.size, 18, none⟩ = some (.int .i64 (r.next 0)) ∧ w'.cell? ⟨w.heap.size, 19, none⟩ = some (.int .i64 (r.next 1)) ∧ w'.cell? ⟨w.heap.size, 20, none⟩ = some (.int .i64 (r.next 2)) ∧ w'.cell? ⟨w.heap.size, 21, none⟩ = some (.int .i64 (r.next 3)) ∧ w'.cell? ⟨w.heap.size, 22, none⟩ = some (.int .i64 (r.next 4)) ∧ w'.cell? ⟨w.heap.size, 23, none⟩ = some (.int .i64 (r.next 5)) ∧ w'.cell? ⟨w.heap.size, 24, none⟩ = some (.int .i64 (r.next 6)) ∧ w'.cell? ⟨w.heap.size, 25, none⟩ = some (.int .i64 (r.mat 0)) ∧ w'.cell? ⟨w.heap.size, 26, none⟩ = some (.int .i64 (r.mat 1)) ∧ w'.cell? ⟨w.heap.size, 27, none⟩ = some (.int .i64 (r.mat 2)) ∧ w'.cell? ⟨w.heap.size, 28, none⟩ = some (.int .i64 (r.mat 3)) ∧ w'.cell? ⟨w.heap.size, 29, none⟩ = some (.int .i64 (r.mat 4)) ∧ w'.cell? ⟨w.heap.size, 30, none⟩ = some (.int .i64 (r.mat 5)) ∧ w'.cell? ⟨w.heap.size, 31, none⟩ = some (.int .i64 (r.mat 6)) ∧ w'.cell? ⟨w.heap.size, 32, none⟩ = some (.int .i64 (r.silent 0)) ∧ w'.cell? ⟨w.heap.size, 33, none⟩ = some (.int .i64 (r.silent 1)) ∧ w'.cell? ⟨w.heap.size, 34, none⟩ = some (.int .i64 (r.silent 2)) ∧ w'.cell? ⟨w.heap.size, 35, none⟩ = some (.int .i64 (r.silent 3)) ∧ w'.cell? ⟨w.heap.size, 36, none⟩ = some (.int .i64 (r.silent 4)) ∧ w'.cell? ⟨w.heap.size, 37, none⟩ = some (.int .i64 (r.silent 5)) ∧ w'.cell? ⟨w.heap.size, 38, none⟩ = some (.int .i64 (r.silent 6)) ∧ w'.cell? ⟨w.heap.size, 39, none⟩ = some (.slice R rn rc)) ∧ (w'.cell? ⟨w.heap.size + 1, 11, none⟩ = some (.int .i64 r.commit) ∧ w'.cell? ⟨w.heap.size + 1, 12, none⟩ = some (.int .i64 r.role) ∧ w'.cell? ⟨w.heap.size + 1, 13, none⟩ = some (.int .i64 r.lead) ∧ w'.cell? ⟨w.heap.size + 1, 14, none⟩ = some (.int .i64 r.wait) ∧ w'.cell? ⟨w.heap.size + 1, 15, none⟩ = some (.int .i64 r.quiet) ∧ w'.cell? ⟨w.heap.size + 1, 16, none⟩ = some (.int .i64 r.votes) ∧ w'.cell? ⟨w.heap.size + 1, 17, none⟩ = some (.int .i64 r.round) ∧ w'.cell? ⟨w.heap.size + 1, 18, none⟩ = some (.int .i64 (r.next 0)) ∧ w'.cell? ⟨w.heap.size + 1, 19, none⟩ = some (.int .i64 (r.next 1)) ∧ w'.cell? ⟨w.heap.size + 1, 20, none⟩ = some (.int .i64 (r.next 2)) ∧ w'.cell? ⟨w.heap.size + 1, 21, none⟩ = some (.int .i64 (r.next 3)) ∧ w'.cell? ⟨w.heap.size + 1, 22, none⟩ = some (.int .i64 (r.next 4)) ∧ w'.cell? ⟨w.heap.size + 1, 23, none⟩ = some (.int .i64 (r.next 5)) ∧ w'.cell? ⟨w.heap.size + 1, 24, none⟩ = some (.int .i64 (r.next 6)) ∧ w'.cell? ⟨w.heap.size + 1, 25, none⟩ = some (.int .i64 (r.mat 0)) ∧ w'.cell? ⟨w.heap.size + 1, 26, none⟩ = some (.int .i64 (r.mat 1)) ∧ w'.cell? ⟨w.heap.size + 1, 27, none⟩ = some (.int .i64 (r.mat 2)) ∧ w'.cell? ⟨w.heap.size + 1, 28, none⟩ = some (.int .i64 (r.mat 3)) ∧ w'.cell? ⟨w.heap.size + 1, 29, none⟩ = some (.int .i64 (r.mat 4)) ∧ w'.cell? ⟨w.heap.size + 1, 30, none⟩ = some (.int .i64 (r.mat 5)) ∧ w'.cell? ⟨w.heap.size + 1, 31, none⟩ = some (.int .i64 (r.mat 6)) ∧ w'.cell? ⟨w.heap.size + 1, 32, none⟩ = some (.int .i64 (r.silent 0)) ∧ w'.cell? ⟨w.heap.size + 1, 33, none⟩ = some (.int .i64 (r.silent 1)) ∧ w'.cell? ⟨w.heap.size + 1, 34, none⟩ = some (.int .i64 (r.silent 2)) ∧ w'.cell? ⟨w.heap.size + 1, 35, none⟩ = some (.int .i64 (r.silent 3)) ∧ w'.cell? ⟨w.heap.size + 1, 36, none⟩ = some (.int .i64 (r.silent 4)) ∧ w'.cell? ⟨w.heap.size + 1, 37, none⟩ = some (.int .i64 (r.silent 5)) ∧ w'.cell? ⟨w.heap.size + 1, 38, none⟩ = some (.int .i64 (r.silent 6)) ∧ w'.cell? ⟨w.heap.size + 1, 39, none⟩ = some (.slice R' rn rc'))) := fun w' hb => by
    have q0 := (hb.block w.heap.size (by omega)).trans hr0
    have q1 := (hb.block (w.heap.size + 1) (by omega)).trans hr1
    exact ⟨⟨cell_of_row _ _ _ _ _ _ q0, cell_of_row _ _ _ _ _ _ q0, cell_of_row _ _ _ _ _ _ q0, cell_of_row _ _ _ _ _ _ q0, cell_of_row _ _ _ _ _ _ q0, cell_of_row _ _ _ _ _ _ q0, cell_of_row _ _ _ _ _ _ q0, cell_of_row _ _ _ _ _ _ q0, cell_of_row _ _ _ _ _ _ q0, cell_of_row _ _ _ _ _ _ q0, cell_of_row _ _ _ _ _ _ q0, cell_of_row _ _ _ _ _ _ q0, cell_of_row _ _ _ _ _ _ q0, cell_of_row _ _ _ _ _ _ q0, cell_of_row _ _ _ _ _ _ q0, cell_of_row _ _ _ _ _ _ q0, cell_of_row _ _ _ _ _ _ q0, cell_of_row _ _ _ _ _ _ q0, cell_of_row _ _ _ _ _ _ q0, cell_of_row _ _ _ _ _ _ q0, cell_of_row _ _ _ _ _ _ q0, cell_of_row _ _ _ _ _ _ q0, cell_of_row _ _ _ _ _ _ q0, cell_of_row _ _ _ _ _ _ q0, cell_of_row _ _ _ _ _ _ q0, cell_of_row _ _ _ _ _ _ q0, cell_of_row _ _ _ _ _ _ q0, cell_of_row _ _ _ _ _ _ q0, cell_of_row _ _ _ _ _ _ q0⟩, ⟨cell_of_row _ _ _ _ _ _ q1, cell_of_row _ _ _ _ _ _ q1, cell_of_row _ _ _ _ _ _ q1, cell_of_row _ _ _ _ _ _ q1, cell_of_row _ _ _ _ _ _ q1, cell_of_row _ _ _ _ _ _ q1, cell_of_row _ _ _ _ _ _ q1, cell_of_row _ _ _ _ _ _ q1, cell_of_row _ _ _ _ _ _ q1, cell_of_row _ _ _ _ _ _ q1, cell_of_row _ _ _ _ _ _ q1, cell_of_row _ _ _ _ _ _ q1, cell_of_row _ _ _ _ _ _ q1, cell_of_row _ _ _ _ _ _ q1, cell_of_row _ _ _ _ _ _ q1, cell_of_row _ _ _ _ _ _ q1, cell_of_row _ _ _ _ _ _ q1, cell_of_row _ _ _ _ _ _ q1, cell_of_row _ _ _ _ _ _ q1, cell_of_row _ _ _ _ _ _ q1, cell_of_row _ _ _ _ _ _ q1, cell_of_row _ _ _ _ _ _ q1, cell_of_row _ _ _ _ _ _ q1, cell_of_row _ _ _ _ _ _ q1, cell_of_row _ _ _ _ _ _ q1, cell_of_row _ _ _ _ _ _ q1, cell_of_row _ _ _ _ _ _ q1, cell_of_row _ _ _ _ _ _ q1, cell_of_row _ _ _ _ _ _ q1⟩⟩
  have Hup : Hid (∀ w', Below W2.heap.size W2 w' → Below w.heap.size w w') := fun w' hb => hb2.trans (hb.mono (by omega))
  have HH : Hid (Calls Tryd.prog 41 #[.agg #[.int .i64 r.h.term, .int .i64 r.h.vote, .int .i64 r.h.base, .int .i64 r.h.bt, .int .i64 r.h.full, .int .i64 r.h.wit, .int .i64 r.h.learn, .int .i64 r.h.lw, .slice S sn sc, .slice A m c], .agg #[.int .i64 r.h.term, .int .i64 r.h.vote, .int .i64 r.h.base, .int .i64 r.h.bt, .int .i64 r.h.full, .int .i64 r.h.wit, .int .i64 r.h.learn, .int .i64 r.h.lw, .slice S' sn sc', .slice A' m c']] W2 fun e w'' => e = .returned (.bool true) ∧ Below W2.heap.size W2 w'') :=
    kHard_self r.h S S' sn sc sc' A A' m c c' sb es W2 ((hs.below hb2 (Nat.le_refl _)).mono hb2.size) ((hs'.below hb2 (Nat.le_refl _)).mono hb2.size) ((Rd.below he hb2 (Nat.le_refl _)).mono hb2.size) ((Rd.below he' hb2 (Nat.le_refl _)).mono hb2.size) hl
  have HR : Hid (∀ w', Below W2.heap.size W2 w' → Calls Tryd.prog 43 #[.slice R rn rc, .slice R' rn rc'] w' fun e w'' => e = .returned (.bool true) ∧ Below w'.heap.size w' w'') := fun w' hb =>
    kReads_self R R' rn rc rc' qs w' ((Rd.below hq (Hup.out w' hb) (Nat.le_refl _)).mono (Hup.out w' hb).size) ((Rd.below hq' (Hup.out w' hb) (Nat.le_refl _)).mono (Hup.out w' hb).size) hql
  have HW2 := Lib.hid hW2
  clear hW2 hr0 hr1 hs hs' he he' hl hz2 hq hq' hql
  go_enter Tryd.func18, Tryd.ntmps18
  go_wp2_with fail
  rw [HW2.out]
  refine HH.out.mono ?_
  rintro e w3 ⟨rfl, hb3⟩
  have hbq3 := hb3
  obtain ⟨⟨y11, y12, y13, y14, y15, y16, y17, y18, y19, y20, y21, y22, y23, y24, y25, y26, y27, y28, y29, y30, y31, y32, y33, y34, y35, y36, y37, y38, y39⟩, ⟨z11, z12, z13, z14, z15, z16, z17, z18, z19, z20, z21, z22, z23, z24, z25, z26, z27, z28, z29, z30, z31, z32, z33, z34, z35, z36, z37, z38, z39⟩⟩ := Hrow.out _ hbq3
  clear hb3
  go_wp2_with fail
  refine (nodes_self r.next _).mono ?_
  rintro e w4 ⟨rfl, hb4⟩
  have hbq4 := bstep hbq3 hb4
  clear hb4 y11 y12 y13 y14 y15 y16 y17 y18 y19 y20 y21 y22 y23 y24 y25 y26 y27 y28 y29 y30 y31 y32 y33 y34 y35 y36 y37 y38 y39 z11 z12 z13 z14 z15 z16 z17 z18 z19 z20 z21 z22 z23 z24 z25 z26 z27 z28 z29 z30 z31 z32 z33 z34 z35 z36 z37 z38 z39
  obtain ⟨⟨y11, y12, y13, y14, y15, y16, y17, y18, y19, y20, y21, y22, y23, y24, y25, y26, y27, y28, y29, y30, y31, y32, y33, y34, y35, y36, y37, y38, y39⟩, ⟨z11, z12, z13, z14, z15, z16, z17, z18, z19, z20, z21, z22, z23, z24, z25, z26, z27, z28, z29, z30, z31, z32, z33, z34, z35, z36, z37, z38, z39⟩⟩ := Hrow.out _ hbq4
  go_wp2_with fail
  refine (nodes_self r.mat _).mono ?_
  rintro e w5 ⟨rfl, hb5⟩
  have hbq5 := bstep hbq4 hb5
  clear hb5 y11 y12 y13 y14 y15 y16 y17 y18 y19 y20 y21 y22 y23 y24 y25 y26 y27 y28 y29 y30 y31 y32 y33 y34 y35 y36 y37 y38 y39 z11 z12 z13 z14 z15 z16 z17 z18 z19 z20 z21 z22 z23 z24 z25 z26 z27 z28 z29 z30 z31 z32 z33 z34 z35 z36 z37 z38 z39
  obtain ⟨⟨y11, y12, y13, y14, y15, y16, y17, y18, y19, y20, y21, y22, y23, y24, y25, y26, y27, y28, y29, y30, y31, y32, y33, y34, y35, y36, y37, y38, y39⟩, ⟨z11, z12, z13, z14, z15, z16, z17, z18, z19, z20, z21, z22, z23, z24, z25, z26, z27, z28, z29, z30, z31, z32, z33, z34, z35, z36, z37, z38, z39⟩⟩ := Hrow.out _ hbq5
  go_wp2_with fail
  refine (nodes_self r.silent _).mono ?_
  rintro e w6 ⟨rfl, hb6⟩
  have hbq6 := bstep hbq5 hb6
  clear hb6 y11 y12 y13 y14 y15 y16 y17 y18 y19 y20 y21 y22 y23 y24 y25 y26 y27 y28 y29 y30 y31 y32 y33 y34 y35 y36 y37 y38 y39 z11 z12 z13 z14 z15 z16 z17 z18 z19 z20 z21 z22 z23 z24 z25 z26 z27 z28 z29 z30 z31 z32 z33 z34 z35 z36 z37 z38 z39
  obtain ⟨⟨y11, y12, y13, y14, y15, y16, y17, y18, y19, y20, y21, y22, y23, y24, y25, y26, y27, y28, y29, y30, y31, y32, y33, y34, y35, y36, y37, y38, y39⟩, ⟨z11, z12, z13, z14, z15, z16, z17, z18, z19, z20, z21, z22, z23, z24, z25, z26, z27, z28, z29, z30, z31, z32, z33, z34, z35, z36, z37, z38, z39⟩⟩ := Hrow.out _ hbq6
  go_wp2_with fail
  refine (HR.out _ hbq6).mono ?_
  rintro e w7 ⟨rfl, hb7⟩
  have hbq7 := bstep hbq6 hb7
  clear hb7 y11 y12 y13 y14 y15 y16 y17 y18 y19 y20 y21 y22 y23 y24 y25 y26 y27 y28 y29 y30 y31 y32 y33 y34 y35 y36 y37 y38 y39 z11 z12 z13 z14 z15 z16 z17 z18 z19 z20 z21 z22 z23 z24 z25 z26 z27 z28 z29 z30 z31 z32 z33 z34 z35 z36 z37 z38 z39
  go_wp2_with fail
  go_ret
  exact ⟨ret_bool (by simp), Hup.out _ hbq7⟩
end Go.Proofs.YtkckncggiicciaaDoor
/-
  The walk of skerrykeep.TwinRaft.
-/
namespace Go.Proofs.YtkckncggiicciaaDoor
open Go.RowKit
set_option maxRecDepth 100000
/-- A list with some of its places written over, from one on. -/
def setL : List Value → Nat → List Value → List Value
  | x, _, [] => x
  | x, o, v :: vs => setL (x.set o v) (o + 1) vs
theorem setL_len : ∀ (vs : List Value) (o : Nat) (x : List Value), (setL x o vs).length = x.length
  | [], _, _ => rfl
  | v :: vs, o, x => by rw [setL, setL_len vs, List.length_set]
theorem setL_one : ∀ (vs : List Value) (o : Nat) (x : List Value), (∀ v ∈ x, v.oneCell' = true) → (∀ v ∈ vs, v.oneCell' = true) → ∀ v ∈ setL x o vs, v.oneCell' = true
  | [], _, _, h, _ => h
  | u :: vs, o, x, h, hv => by
    refine setL_one vs (o + 1) _ (fun v h' => ?_) (fun v h' => hv v (List.mem_cons_of_mem _ h'))
    rcases List.mem_or_eq_of_mem_set h' with h' | rfl
    · exact h v h'
    · exact hv v List.mem_cons_self
theorem heap_setCells_row (b : Nat) (t : TypeId) : ∀ (vs : List Value) (o : Nat) (x : List Value) (w : World), w.heap[b]? = some (.cells x.toArray t (0, 0)) →
    (w.setCells b o vs).heap[b]? = some (.cells (setL x o vs).toArray t (0, 0))
  | [], _, _, _, h => h
  | v :: vs, o, x, w, h => by
    rw [World.setCells, setL]
    refine heap_setCells_row b t vs (o + 1) _ _ ?_
    rw [heap_setCell_same _ _ _ _ _ _ h, List.setIfInBounds_toArray]
theorem below_setCells {B b : Nat} {a : World} (hB : B ≤ b) : ∀ (vs : List Value) (o : Nat) (w : World), Below B a w → Below B a (w.setCells b o vs)
  | [], _, _, h => h
  | v :: vs, o, w, h => by
    rw [World.setCells]
    exact below_setCells hB vs (o + 1) _ (h.setCell hB _)
theorem size_setCells (b : Nat) : ∀ (vs : List Value) (o : Nat) (w : World), (w.setCells b o vs).heap.size = w.heap.size
  | [], _, _ => rfl
  | v :: vs, o, w => by
    rw [World.setCells, size_setCells b vs]
    simp [World.setCell]
theorem heap_setCells_ne (b k : Nat) (hk : k ≠ b) : ∀ (vs : List Value) (o : Nat) (w : World), (w.setCells b o vs).heap[k]? = w.heap[k]?
  | [], _, _ => rfl
  | v :: vs, o, w => by
    rw [World.setCells, heap_setCells_ne b k hk vs]
    exact Below.heap_setCell _ _ _ _ hk
theorem there_row {w : World} {b o n : Nat} {x : List Value} {t : TypeId} (h : w.heap[b]? = some (.cells x.toArray t (0, 0))) (hn : o + n ≤ x.length) : w.there b o n := fun j hj => by
  have hg : x[o + j]? = some x[o + j] := List.getElem?_eq_getElem (by omega)
  exact ⟨by rw [cell_list h _ _ hg]; rfl, frozen_of_row _ _ _ _ _ h⟩
/-- A kept slice reads as before where but one block, not its own, was written. -/
theorem rd_keep {w w' : World} {B size n cap : Nat} {A : Option Addr} {xs : List Value} (C : Nat) (h : Rd w B size A n cap xs) (hA : 0 < n → ∃ b off, A = some ⟨b, off, none⟩ ∧ C ≤ b) (hk : ∀ g, C ≤ g → g < B → w'.heap[g]? = w.heap[g]?) : Rd w' B size A n cap xs := by
  obtain ⟨h1, h2, h3, h4⟩ := h
  refine ⟨h1, h2, h3, fun hn => ?_⟩
  obtain ⟨b, off, e, hb, hc⟩ := h4 hn
  obtain ⟨b', off', e', hb'⟩ := hA hn
  rw [e] at e'
  injection e' with e'
  injection e' with e1 _
  subst e1
  refine ⟨b, off, e, hb, fun j u hu => ?_⟩
  rw [← hc j u hu]
  exact World.cell?_of_block (hk b hb' hb)
def zeroQ : Value := .agg rq0.cells.toArray
theorem info_rq : (Tryd.prog.info? 121).map (fun i => (i.zero, i.size, i.bytes)) = some (some zeroQ, 13, 128) := by kernel_rfl
def OwnQ (w : World) (base : Nat) (v : Value) (qs : List Rq) : Prop := w.ownsRow base 121 13 v qs.length (qs.map Rq.cells).flatten
theorem ownQ_rows {w : World} {base : Nat} {v : Value} {qs : List Rq} (h : OwnQ w base v qs) {n : Nat} (hn : qs.length = n) : ∃ A c, v = .slice A n c ∧ RqRows w w.heap.size A n c qs := by
  subst hn
  exact Rd.of_own h
theorem rqs_one (qs : List Rq) : ∀ u ∈ (qs.map Rq.cells).flatten, u.oneCell' = true := by
  intro u hu
  obtain ⟨x, hx, hux⟩ := List.mem_flatten.1 hu
  obtain ⟨e, _, rfl⟩ := List.mem_map.1 hx
  unfold Rq.cells at hux
  simp at hux
  rcases hux with rfl | rfl | rfl | rfl | rfl | rfl | rfl | rfl | rfl | rfl | rfl | rfl | rfl <;> rfl
theorem wpList_appQ {w : World} {ops : Array Oper} {rest : List Oper} {o : Oper} {a : Act} {Q : Exit → Act → World → Prop} (hgd : o.guard = none) (s x : Operand)
    (ho : o.op = .call { callee := .builtin .append, args := #[s, x], argTypes := #[31, 31] })
    (base : Nat) (hs : a.eval s = .slice none 0 0) (A : Option Addr) (m c : Nat) (qs : List Rq) (hl : qs.length = m) (hx : a.eval x = .slice A m c) (hr : RqRows w w.heap.size A m c qs) (hm : m * 128 ≤ 140737488355328) (hbase : base ≤ w.heap.size)
    (h : ∀ v' w', OwnQ w' base v' qs → w.grownBy w' none → wpList Tryd.prog ops Q rest (a.put o.dst v') w') : wpList Tryd.prog ops Q (o :: rest) a w := by
  obtain ⟨i0, hi, hz0, hz1, hz2⟩ := info_parts info_rq
  refine wpList_plain hgd fun _ hK => wp_appAt s x _ ho base 121 i0 zeroQ 13 128 Tryd.underlying31 hi hz0 hz1 hz2 rfl (by omega) (.slice none 0 0) 0 [] hs (World.ownsRow_nil _ _ _ _) w.heap.size A m c _ hx hr (rqs_one qs) (by simp only [maxLen]; omega) (by omega) hbase ?_
  intro v' w' q1 q2 _ _
  refine hK _ _ (h v' w' ?_ q2)
  unfold OwnQ
  rw [hl]
  simpa using q1
def TwinRPost (r : Rf) (sn m rn : Nat) (sb : List UInt8) (es : List En) (qs : List Rq) (w : World) (e : Ending) (w' : World) : Prop :=
  (∃ S' sc' A' c' R' rc', e = .returned (.agg (r.cells S' sn sc' A' m c' R' rn rc').toArray) ∧ By w' w'.heap.size S' sn sc' sb ∧ EnRows w' w'.heap.size A' m c' es ∧ RqRows w' w'.heap.size R' rn rc' qs) ∧ Below w.heap.size w w'
theorem raft_at (r : Rf) (S : Option Addr) (sn sc : Nat) (A : Option Addr) (m c : Nat) (R : Option Addr) (rn rc : Nat) : RfAt (r.cells S sn sc A m c R rn rc) r.id r.h.term r.h.base r.h.bt r.commit r.role r.lead (.slice A m c) :=
  ⟨rfl, fun v hv => by
    unfold Rf.cells at hv
    simp only [List.mem_cons, List.not_mem_nil, or_false] at hv
    rcases hv with rfl | rfl | rfl | rfl | rfl | rfl | rfl | rfl | rfl | rfl | rfl | rfl | rfl | rfl | rfl | rfl | rfl | rfl | rfl | rfl | rfl | rfl | rfl | rfl | rfl | rfl | rfl | rfl | rfl | rfl | rfl | rfl | rfl | rfl | rfl | rfl | rfl | rfl | rfl | rfl <;> rfl, rfl, rfl, rfl, rfl, rfl, rfl, rfl, rfl⟩
theorem raft_hd (r : Rf) (S : Option Addr) (sn sc : Nat) (A : Option Addr) (m c : Nat) (R : Option Addr) (rn rc : Nat) : HdAt (hardC (r.cells S sn sc A m c R rn rc)) r.h.base r.h.bt A m c S sn sc :=
  ⟨rfl, fun v hv => (raft_at r S sn sc A m c R rn rc).one v (List.mem_of_mem_drop (List.mem_of_mem_take hv)), rfl, rfl, rfl, rfl⟩
theorem twin_cells (r : Rf) (S S' : Option Addr) (sn sc sc' : Nat) (A A' : Option Addr) (m c c' : Nat) (R R' : Option Addr) (rn rc rc' : Nat) :
    ((setL (r.cells S sn sc A m c R rn rc) 1 (((hardC (r.cells S sn sc A m c R rn rc)).set 8 (.slice S' sn sc')).set 9 (.slice A' m c'))).set 39 (.slice none 0 0)).set 39 (.slice R' rn rc') = r.cells S' sn sc' A' m c' R' rn rc' := rfl
end Go.Proofs.YtkckncggiicciaaDoor
/-
  ReportPairs: the walks of the small functions below Once: copies, zero, HeavyCmd, Cmd, Call.
-/
namespace Go.Proofs.YtkckncggiicciaaDoor
open Go.RowKit
set_option maxRecDepth 100000
/-- A command. -/
structure Cm where
  k : Int
  key : ByteArray
  old : Va
  val : Va
structure Cm.Ok (c : Cm) : Prop where
  key : c.key.size ≤ maxLen
  ox : c.old.x < 18446744073709551616
  os : c.old.s.size ≤ maxLen
  vx : c.val.x < 18446744073709551616
  vs : c.val.s.size ≤ maxLen
def Cm.cells (c : Cm) : List Value := [.int .i64 c.k, .string c.key, .int .i64 c.old.k, .float .f64 c.old.x, .string c.old.s, .int .i64 c.val.k, .float .f64 c.val.x, .string c.val.s]
/-- A right one. -/
structure Cm.Right (c : Cm) : Prop where
  lo : 1 ≤ c.key.size
  hi : c.key.size ≤ 8
  old : chkVa c.old = 0
  val : chkVa c.val = 0
  put : c.k = 2 → c.val.k ≠ 0
  num : c.k = 5 ∨ c.k = 6 → c.val.k = 1
  k1 : 1 ≤ c.k
  k6 : c.k ≤ 6
def zeroP : Value := .agg (prC p0).toArray
theorem info_pr : (Tryd.prog.info? 66).map (fun i => (i.zero, i.size, i.bytes)) = some (some zeroP, 4, 48) := by kernel_rfl
def OwnP (w : World) (base : Nat) (v : Value) (ps : List (ByteArray × Va)) : Prop := w.ownsRow base 66 4 v ps.length (ps.map prC).flatten
theorem ownP_rows {w : World} {base : Nat} {v : Value} {ps : List (ByteArray × Va)} (h : OwnP w base v ps) {n : Nat} (hn : ps.length = n) : ∃ A c, v = .slice A n c ∧ PrRows w w.heap.size A n c ps := by
  subst hn
  exact Rd.of_own h
theorem prs_one (ps : List (ByteArray × Va)) : ∀ u ∈ (ps.map prC).flatten, u.oneCell' = true := by
  intro u hu
  obtain ⟨x, hx, hux⟩ := List.mem_flatten.1 hu
  obtain ⟨e, _, rfl⟩ := List.mem_map.1 hx
  exact prC_one e u hux
/-- More pairs. -/
theorem wpList_appP {w : World} {ops : Array Oper} {rest : List Oper} {o : Oper} {a : Act} {Q : Exit → Act → World → Prop} (hgd : o.guard = none) (s x : Operand)
    (ho : o.op = .call { callee := .builtin .append, args := #[s, x], argTypes := #[41, 41] })
    (base : Nat) (v : Value) (l : List (ByteArray × Va)) (hs : a.eval s = v) (hown : OwnP w base v l) (B : Nat) (A : Option Addr) (m c : Nat) (ps : List (ByteArray × Va)) (hl : ps.length = m) (hx : a.eval x = .slice A m c) (hr : PrRows w B A m c ps) (hm : l.length + m ≤ 100000) (hbase : base ≤ w.heap.size)
    (h : ∀ v' w', OwnP w' base v' (l ++ ps) → w.grownBy w' v.ownBlock → wpList Tryd.prog ops Q rest (a.put o.dst v') w') : wpList Tryd.prog ops Q (o :: rest) a w := by
  obtain ⟨i0, hi, hz0, hz1, hz2⟩ := info_parts info_pr
  refine wpList_plain hgd fun _ hK => wp_appAt s x _ ho base 66 i0 zeroP 4 48 Tryd.underlying41 hi hz0 hz1 hz2 rfl (by omega) v l.length _ hs hown B A m c _ hx hr (prs_one ps) (by simp only [maxLen]; omega) (by omega) hbase ?_
  intro v' w' q1 q2 _ _
  refine hK _ _ (h v' w' ?_ q2)
  unfold OwnP
  rw [List.length_append, hl, List.map_append, List.flatten_append]
  exact q1
def zeroS : Value := .agg se0.cells.toArray
theorem info_se : (Tryd.prog.info? 83).map (fun i => (i.zero, i.size, i.bytes)) = some (some zeroS, 6, 56) := by kernel_rfl
def OwnSe (w : World) (base : Nat) (v : Value) (ss : List Se) : Prop := w.ownsRow base 83 6 v ss.length (ss.map Se.cells).flatten
theorem ownSe_rows {w : World} {base : Nat} {v : Value} {ss : List Se} (h : OwnSe w base v ss) {n : Nat} (hn : ss.length = n) : ∃ A c, v = .slice A n c ∧ SeRows w w.heap.size A n c ss := by
  subst hn
  exact Rd.of_own h
theorem Se.cells_one (s : Se) : ∀ v ∈ s.cells, v.oneCell' = true := by
  intro v hv
  have : s.cells.all (·.oneCell') = true := rfl
  exact List.all_eq_true.1 this v hv
theorem ses_one (ss : List Se) : ∀ u ∈ (ss.map Se.cells).flatten, u.oneCell' = true := by
  intro u hu
  obtain ⟨x, hx, hux⟩ := List.mem_flatten.1 hu
  obtain ⟨e, _, rfl⟩ := List.mem_map.1 hx
  exact e.cells_one u hux
/-- More of what clients were told. -/
theorem wpList_appSe {w : World} {ops : Array Oper} {rest : List Oper} {o : Oper} {a : Act} {Q : Exit → Act → World → Prop} (hgd : o.guard = none) (s x : Operand)
    (ho : o.op = .call { callee := .builtin .append, args := #[s, x], argTypes := #[42, 42] })
    (base : Nat) (v : Value) (l : List Se) (hs : a.eval s = v) (hown : OwnSe w base v l) (B : Nat) (A : Option Addr) (m c : Nat) (ss : List Se) (hl : ss.length = m) (hx : a.eval x = .slice A m c) (hr : SeRows w B A m c ss) (hm : l.length + m ≤ 100000) (hbase : base ≤ w.heap.size)
    (h : ∀ v' w', OwnSe w' base v' (l ++ ss) → w.grownBy w' v.ownBlock → wpList Tryd.prog ops Q rest (a.put o.dst v') w') : wpList Tryd.prog ops Q (o :: rest) a w := by
  obtain ⟨i0, hi, hz0, hz1, hz2⟩ := info_parts info_se
  refine wpList_plain hgd fun _ hK => wp_appAt s x _ ho base 83 i0 zeroS 6 56 Tryd.underlying42 hi hz0 hz1 hz2 rfl (by omega) v l.length _ hs hown B A m c _ hx hr (ses_one ss) (by simp only [maxLen]; omega) (by omega) hbase ?_
  intro v' w' q1 q2 _ _
  refine hK _ _ (h v' w' ?_ q2)
  unfold OwnSe
  rw [List.length_append, hl, List.map_append, List.flatten_append]
  exact q1
def TwinPPost (ps : List (ByteArray × Va)) (w : World) (e : Ending) (w' : World) : Prop := (∃ v, e = .returned v ∧ OwnP w' w.heap.size v ps) ∧ Below w.heap.size w w'
set_option maxHeartbeats 800000 in
theorem TwinPairs_any (A : Option Addr) (m c : Nat) (ps : List (ByteArray × Va)) (w : World) (hy : PrRows w w.heap.size A m c ps) (hl : ps.length = m) (hm : m ≤ 1000) :
    Calls Tryd.prog 98 #[.slice A m c] w (TwinPPost ps w) := by
  have Hl := Lib.hid hl
  clear hl
  go_enter Tryd.func98, Tryd.ntmps98
  go_wp2_with (
    (at_builtin
     refine wpList_appP rfl (.tmp 4) (.tmp 5) rfl w.heap.size _ [] rfl (World.ownsRow_nil _ _ _ _) w.heap.size A m c ps Hl.out rfl hy (by simp; omega) (Nat.le_refl _) ?_
     intro v' w' ho hg))
  go_ret
  exact ⟨⟨v', rfl, ho⟩, (Below.refl _ _).grown hg (Nat.le_refl _) (by intro k hk; cases hk)⟩
def zeroB (v : Va) : Bool := decide (v.k = 0) && decide (chkVa v = 0)
set_option maxHeartbeats 1600000 in
theorem zero_any (v : Va) (w : World) (hx : v.x < 18446744073709551616) (hs : v.s.size ≤ maxLen) :
    Calls Tryd.prog 115 #[v.v] w fun e w' => e = .returned (.bool (zeroB v)) ∧ Below w.heap.size w w' := by
  have hob := one_below w (.cells #[.int .i64 v.k, .float .f64 v.x, .string v.s] 56)
  have HC : Hid (∀ w, Calls Tryd.prog 25 #[v.v] w fun e w' => e = .returned (.int .i64 (chkVa v)) ∧ Below w.heap.size w w') := fun w => RCheck_any v w hx hs
  have HcV : Hid (chkVa v = 0 ∨ chkVa v = 8 ∨ chkVa v = 2 ∨ chkVa v = 15) := chk_vals v
  unfold zeroB
  obtain ⟨cv, hcv⟩ : ∃ cv, chkVa v = cv := ⟨_, rfl⟩
  rw [hcv] at HC HcV ⊢
  obtain ⟨k, x, s⟩ := v
  unfold Va.v at HC ⊢
  dsimp only at *
  clear hcv hx hs
  rcases Decidable.em (k = 0) with rfl | hk
  · rcases HcV.out with rfl | hne
    case' inr => have hne0 : (cv == 0) = false := by simp; omega
    all_goals
      clear HcV
      go_enter Tryd.func115, Tryd.ntmps115
      go_wp2_with (refine (HC.out _).mono ?_; rintro e w2 ⟨rfl, hb2⟩)
      go_ret
      exact ⟨ret_bool (by simp <;> omega), hob.trans (hb2.mono (by simp))⟩
  · have hk0 : (k == 0) = false := by simpa using hk
    go_enter Tryd.func115, Tryd.ntmps115
    go_wp2_with fail
    go_ret
    exact ⟨ret_bool (by simp [hk]), hob⟩
def SomeB (w : World) (e : Ending) (w' : World) : Prop := (∃ b : Bool, e = .returned (.bool b)) ∧ Below w.heap.size w w'
def CmdPost (c : Cm) (w : World) (e : Ending) (w' : World) : Prop := (∃ n : Int, e = .returned (.int .i64 n) ∧ (n = 0 → c.Right)) ∧ Below w.heap.size w w'
set_option maxHeartbeats 12800000 in
theorem RCmd_any (c : Cm) (w : World) (hc : c.Ok) : Calls Tryd.prog 96 #[.agg c.cells.toArray] w (CmdPost c w) := by
  have HO : Hid (∀ w, Calls Tryd.prog 25 #[c.old.v] w fun e w' => e = .returned (.int .i64 (chkVa c.old)) ∧ Below w.heap.size w w') := fun w => RCheck_any c.old w hc.ox hc.os
  have HV : Hid (∀ w, Calls Tryd.prog 25 #[c.val.v] w fun e w' => e = .returned (.int .i64 (chkVa c.val)) ∧ Below w.heap.size w w') := fun w => RCheck_any c.val w hc.vx hc.vs
  have ZO : Hid (∀ w, Calls Tryd.prog 115 #[c.old.v] w fun e w' => e = .returned (.bool (zeroB c.old)) ∧ Below w.heap.size w w') := fun w => zero_any c.old w hc.ox hc.os
  have ZV : Hid (∀ w, Calls Tryd.prog 115 #[c.val.v] w fun e w' => e = .returned (.bool (zeroB c.val)) ∧ Below w.heap.size w w') := fun w => zero_any c.val w hc.vx hc.vs
  have HP : Hid (∀ n w', n ≠ 0 → Below w.heap.size w w' → CmdPost c w (.returned (.int .i64 n)) w') := fun n w' hn hb => ⟨⟨n, rfl, fun h => absurd h hn⟩, hb⟩
  have HQ : Hid (1 ≤ c.key.size → c.key.size ≤ 8 → chkVa c.old = 0 → chkVa c.val = 0 → (c.k = 2 → c.val.k ≠ 0) → (c.k = 5 ∨ c.k = 6 → c.val.k = 1) → 1 ≤ c.k → c.k ≤ 6 → ∀ w', Below w.heap.size w w' → CmdPost c w (.returned (.int .i64 0)) w') := fun h1 h2 h3 h4 h5 h6 h7 h8 w' hb => ⟨⟨0, rfl, fun _ => ⟨h1, h2, h3, h4, h5, h6, h7, h8⟩⟩, hb⟩
  have hvo := chk_vals c.old
  have hvv := chk_vals c.val
  have hks := hc.key
  unfold maxLen at hks
  obtain ⟨J, hJ⟩ : ∃ J, CmdPost c w = J := ⟨_, rfl⟩
  rw [hJ] at HP HQ ⊢
  obtain ⟨co, hco⟩ : ∃ co, chkVa c.old = co := ⟨_, rfl⟩
  obtain ⟨cv, hcv⟩ : ∃ cv, chkVa c.val = cv := ⟨_, rfl⟩
  obtain ⟨zo, hzo⟩ : ∃ zo, zeroB c.old = zo := ⟨_, rfl⟩
  obtain ⟨zv, hzv⟩ : ∃ zv, zeroB c.val = zv := ⟨_, rfl⟩
  rw [hco] at HO HQ hvo
  rw [hcv] at HV HQ hvv
  rw [hzo] at ZO
  rw [hzv] at ZV
  obtain ⟨k, key, ⟨ok, ox, os⟩, ⟨vk, vx, vs⟩⟩ := c
  unfold Cm.cells
  unfold Va.v at HO HV ZO ZV
  dsimp only at *
  have hob : Below w.heap.size w (w.alloc (.cells #[.int .i64 k, .string key, .int .i64 ok, .float .f64 ox, .string os, .int .i64 vk, .float .f64 vx, .string vs] 60)) := alloc_below w _
  have hrow : (w.alloc (.cells #[.int .i64 k, .string key, .int .i64 ok, .float .f64 ox, .string os, .int .i64 vk, .float .f64 vx, .string vs] 60)).heap[w.heap.size]? = some (.cells #[.int .i64 k, .string key, .int .i64 ok, .float .f64 ox, .string os, .int .i64 vk, .float .f64 vx, .string vs] 60 (0, 0)) := heap_alloc_new w _
  have Hrow : Hid (∀ w', Below (w.alloc (.cells #[.int .i64 k, .string key, .int .i64 ok, .float .f64 ox, .string os, .int .i64 vk, .float .f64 vx, .string vs] 60)).heap.size (w.alloc (.cells #[.int .i64 k, .string key, .int .i64 ok, .float .f64 ox, .string os, .int .i64 vk, .float .f64 vx, .string vs] 60)) w' → w'.cell? ⟨w.heap.size, 0, none⟩ = some (.int .i64 k) ∧ w'.cell? ⟨w.heap.size, 1, none⟩ = some (.string key) ∧ w'.cell? ⟨w.heap.size, 2, none⟩ = some (.int .i64 ok) ∧ w'.cell? ⟨w.heap.size, 3, none⟩ = some (.float .f64 ox) ∧ w'.cell? ⟨w.heap.size, 4, none⟩ = some (.string os) ∧ w'.cell? ⟨w.heap.size, 5, none⟩ = some (.int .i64 vk) ∧ w'.cell? ⟨w.heap.size, 6, none⟩ = some (.float .f64 vx) ∧ w'.cell? ⟨w.heap.size, 7, none⟩ = some (.string vs)) := fun w' hb => by
    have q := (hb.block w.heap.size (by simp)).trans hrow
    exact ⟨cell_of_row _ _ _ _ _ _ q, cell_of_row _ _ _ _ _ _ q, cell_of_row _ _ _ _ _ _ q, cell_of_row _ _ _ _ _ _ q, cell_of_row _ _ _ _ _ _ q, cell_of_row _ _ _ _ _ _ q, cell_of_row _ _ _ _ _ _ q, cell_of_row _ _ _ _ _ _ q⟩
  have Hup : Hid (∀ w', Below (w.alloc (.cells #[.int .i64 k, .string key, .int .i64 ok, .float .f64 ox, .string os, .int .i64 vk, .float .f64 vx, .string vs] 60)).heap.size (w.alloc (.cells #[.int .i64 k, .string key, .int .i64 ok, .float .f64 ox, .string os, .int .i64 vk, .float .f64 vx, .string vs] 60)) w' → Below w.heap.size w w') := fun w' hb => hob.trans (hb.mono hob.size)
  have hbq : Below (w.alloc (.cells #[.int .i64 k, .string key, .int .i64 ok, .float .f64 ox, .string os, .int .i64 vk, .float .f64 vx, .string vs] 60)).heap.size (w.alloc (.cells #[.int .i64 k, .string key, .int .i64 ok, .float .f64 ox, .string os, .int .i64 vk, .float .f64 vx, .string vs] 60)) (w.alloc (.cells #[.int .i64 k, .string key, .int .i64 ok, .float .f64 ox, .string os, .int .i64 vk, .float .f64 vx, .string vs] 60)) := Below.refl _ _
  obtain ⟨y0, y1, y2, y3, y4, y5, y6, y7⟩ := Hrow.out _ hbq
  have Hvo := Lib.hid hvo
  have Hvv := Lib.hid hvv
  clear hrow hob hJ hco hcv hzo hzv hc hvo hvv
  have HE : ∀ (P1 : Prop), Hid (P1 → P1) := fun _ => id
  clear HE
  rcases Decidable.em (k < 1) with h1 | h1
  case' inr => rcases Decidable.em (6 < k) with h2 | h2
  case' inr.inr => rcases Decidable.em (8 < key.size) with h3 | h3
  case' inr.inr.inr => rcases Decidable.em (key.size < 1) with h4 | h4
  case inr.inr.inr.inr =>
    have g1 : (k != 4) = decide (k ≠ 4) := by
      rw [Bool.eq_iff_iff]
      simp
    rcases Decidable.em (k = 4) with hk4 | hk4
    · subst hk4
      rcases Hvo.out with rfl | hno
      · rcases Hvv.out with rfl | hnv
        · clear g1 h1 h2
          go_enter Tryd.func96, Tryd.ntmps96
          go_wp2_with (first
            | (go_at_call 25; (with_reducible refine (HO.out _).mono ?_); rintro e w2 ⟨rfl, hb2'⟩; (have hbn := hbq.trans (hb2'.mono hbq.size)); clear hbq hb2' y0 y1 y2 y3 y4 y5 y6 y7; have hbq := hbn; clear hbn; obtain ⟨y0, y1, y2, y3, y4, y5, y6, y7⟩ := Hrow.out _ (hbq))
            | (go_at_call 25; (with_reducible refine (HV.out _).mono ?_); rintro e w2 ⟨rfl, hb2'⟩; (have hbn := hbq.trans (hb2'.mono hbq.size)); clear hbq hb2' y0 y1 y2 y3 y4 y5 y6 y7; have hbq := hbn; clear hbn; obtain ⟨y0, y1, y2, y3, y4, y5, y6, y7⟩ := Hrow.out _ (hbq)))
          exact HQ.out (by omega) (by omega) (by first | rfl | trivial) (by first | rfl | trivial) (fun h => by omega) (fun h => by omega) (by omega) (by omega) _ (Hup.out _ hbq)
        · have e2 : (cv != 0) = true := by simp; omega
          clear g1 h1 h2 hnv
          go_enter Tryd.func96, Tryd.ntmps96
          go_wp2_with (first
            | (go_at_call 25; (with_reducible refine (HO.out _).mono ?_); rintro e w2 ⟨rfl, hb2'⟩; (have hbn := hbq.trans (hb2'.mono hbq.size)); clear hbq hb2' y0 y1 y2 y3 y4 y5 y6 y7; have hbq := hbn; clear hbn; obtain ⟨y0, y1, y2, y3, y4, y5, y6, y7⟩ := Hrow.out _ (hbq))
            | (go_at_call 25; (with_reducible refine (HV.out _).mono ?_); rintro e w2 ⟨rfl, hb2'⟩; (have hbn := hbq.trans (hb2'.mono hbq.size)); clear hbq hb2' y0 y1 y2 y3 y4 y5 y6 y7; have hbq := hbn; clear hbn; obtain ⟨y0, y1, y2, y3, y4, y5, y6, y7⟩ := Hrow.out _ (hbq)))
          exact HP.out _ _ (by decide) (Hup.out _ hbq)
      · have e2 : (co != 0) = true := by simp; omega
        clear g1 h1 h2 hno
        go_enter Tryd.func96, Tryd.ntmps96
        go_wp2_with (first
          | (go_at_call 25; (with_reducible refine (HO.out _).mono ?_); rintro e w2 ⟨rfl, hb2'⟩; (have hbn := hbq.trans (hb2'.mono hbq.size)); clear hbq hb2' y0 y1 y2 y3 y4 y5 y6 y7; have hbq := hbn; clear hbn; obtain ⟨y0, y1, y2, y3, y4, y5, y6, y7⟩ := Hrow.out _ (hbq))
          | (go_at_call 25; (with_reducible refine (HV.out _).mono ?_); rintro e w2 ⟨rfl, hb2'⟩; (have hbn := hbq.trans (hb2'.mono hbq.size)); clear hbq hb2' y0 y1 y2 y3 y4 y5 y6 y7; have hbq := hbn; clear hbn; obtain ⟨y0, y1, y2, y3, y4, y5, y6, y7⟩ := Hrow.out _ (hbq)))
        exact HP.out _ _ (by decide) (Hup.out _ hbq)
    · have g4 : (k != 4) = true := by simpa using hk4
      clear g1
      cases zo
      · go_enter Tryd.func96, Tryd.ntmps96
        go_wp2_with (first
          | (go_at_call 115; (with_reducible refine (ZO.out _).mono ?_); rintro e w2 ⟨rfl, hb2'⟩; (have hbn := hbq.trans (hb2'.mono hbq.size)); clear hbq hb2' y0 y1 y2 y3 y4 y5 y6 y7; have hbq := hbn; clear hbn; obtain ⟨y0, y1, y2, y3, y4, y5, y6, y7⟩ := Hrow.out _ (hbq)))
        exact HP.out _ _ (by decide) (Hup.out _ hbq)
      · rcases Hvo.out with rfl | hno
        · rcases Hvv.out with rfl | hnv
          · -- by its kind
            have hk5 : k = 1 ∨ k = 2 ∨ k = 3 ∨ k = 5 ∨ k = 6 := by omega
            rcases hk5 with rfl | rfl | rfl | rfl | rfl
            case' inl => cases zv
            case' inr.inl => rcases Decidable.em (vk = 0) with rfl | hv
            case' inr.inl.inr => have e3 : (vk != 0) = true := by simpa using hv
            case' inr.inr.inl => cases zv
            case' inr.inr.inr.inl => rcases Decidable.em (vk = 1) with rfl | hv
            case' inr.inr.inr.inl.inr => have e3 : (vk == 1) = false := by simpa using hv
            case' inr.inr.inr.inr => rcases Decidable.em (vk = 1) with rfl | hv
            case' inr.inr.inr.inr.inr => have e3 : (vk == 1) = false := by simpa using hv
            all_goals
              clear h1 h2
              go_enter Tryd.func96, Tryd.ntmps96
              go_wp2_with (first
                | (go_at_call 25; (with_reducible refine (HO.out _).mono ?_); rintro e w2 ⟨rfl, hb2'⟩; (have hbn := hbq.trans (hb2'.mono hbq.size)); clear hbq hb2' y0 y1 y2 y3 y4 y5 y6 y7; have hbq := hbn; clear hbn; obtain ⟨y0, y1, y2, y3, y4, y5, y6, y7⟩ := Hrow.out _ (hbq))
                | (go_at_call 25; (with_reducible refine (HV.out _).mono ?_); rintro e w2 ⟨rfl, hb2'⟩; (have hbn := hbq.trans (hb2'.mono hbq.size)); clear hbq hb2' y0 y1 y2 y3 y4 y5 y6 y7; have hbq := hbn; clear hbn; obtain ⟨y0, y1, y2, y3, y4, y5, y6, y7⟩ := Hrow.out _ (hbq))
                | (go_at_call 115; (with_reducible refine (ZO.out _).mono ?_); rintro e w2 ⟨rfl, hb2'⟩; (have hbn := hbq.trans (hb2'.mono hbq.size)); clear hbq hb2' y0 y1 y2 y3 y4 y5 y6 y7; have hbq := hbn; clear hbn; obtain ⟨y0, y1, y2, y3, y4, y5, y6, y7⟩ := Hrow.out _ (hbq))
                | (go_at_call 115; (with_reducible refine (ZV.out _).mono ?_); rintro e w2 ⟨rfl, hb2'⟩; (have hbn := hbq.trans (hb2'.mono hbq.size)); clear hbq hb2' y0 y1 y2 y3 y4 y5 y6 y7; have hbq := hbn; clear hbn; obtain ⟨y0, y1, y2, y3, y4, y5, y6, y7⟩ := Hrow.out _ (hbq)))
              first
                | exact HP.out _ _ (by decide) (Hup.out _ hbq)
                | exact HQ.out (by omega) (by omega) (by first | rfl | trivial) (by first | rfl | trivial) (fun h => by first | omega | exact hv) (fun h => by first | omega | rfl | trivial) (by omega) (by omega) _ (Hup.out _ hbq)
          · have e2 : (cv != 0) = true := by simp; omega
            clear hnv
            go_enter Tryd.func96, Tryd.ntmps96
            go_wp2_with (first
              | (go_at_call 25; (with_reducible refine (HO.out _).mono ?_); rintro e w2 ⟨rfl, hb2'⟩; (have hbn := hbq.trans (hb2'.mono hbq.size)); clear hbq hb2' y0 y1 y2 y3 y4 y5 y6 y7; have hbq := hbn; clear hbn; obtain ⟨y0, y1, y2, y3, y4, y5, y6, y7⟩ := Hrow.out _ (hbq))
              | (go_at_call 25; (with_reducible refine (HV.out _).mono ?_); rintro e w2 ⟨rfl, hb2'⟩; (have hbn := hbq.trans (hb2'.mono hbq.size)); clear hbq hb2' y0 y1 y2 y3 y4 y5 y6 y7; have hbq := hbn; clear hbn; obtain ⟨y0, y1, y2, y3, y4, y5, y6, y7⟩ := Hrow.out _ (hbq))
              | (go_at_call 115; (with_reducible refine (ZO.out _).mono ?_); rintro e w2 ⟨rfl, hb2'⟩; (have hbn := hbq.trans (hb2'.mono hbq.size)); clear hbq hb2' y0 y1 y2 y3 y4 y5 y6 y7; have hbq := hbn; clear hbn; obtain ⟨y0, y1, y2, y3, y4, y5, y6, y7⟩ := Hrow.out _ (hbq)))
            exact HP.out _ _ (by decide) (Hup.out _ hbq)
        · have e2 : (co != 0) = true := by simp; omega
          clear hno
          go_enter Tryd.func96, Tryd.ntmps96
          go_wp2_with (first
            | (go_at_call 25; (with_reducible refine (HO.out _).mono ?_); rintro e w2 ⟨rfl, hb2'⟩; (have hbn := hbq.trans (hb2'.mono hbq.size)); clear hbq hb2' y0 y1 y2 y3 y4 y5 y6 y7; have hbq := hbn; clear hbn; obtain ⟨y0, y1, y2, y3, y4, y5, y6, y7⟩ := Hrow.out _ (hbq))
            | (go_at_call 25; (with_reducible refine (HV.out _).mono ?_); rintro e w2 ⟨rfl, hb2'⟩; (have hbn := hbq.trans (hb2'.mono hbq.size)); clear hbq hb2' y0 y1 y2 y3 y4 y5 y6 y7; have hbq := hbn; clear hbn; obtain ⟨y0, y1, y2, y3, y4, y5, y6, y7⟩ := Hrow.out _ (hbq))
            | (go_at_call 115; (with_reducible refine (ZO.out _).mono ?_); rintro e w2 ⟨rfl, hb2'⟩; (have hbn := hbq.trans (hb2'.mono hbq.size)); clear hbq hb2' y0 y1 y2 y3 y4 y5 y6 y7; have hbq := hbn; clear hbn; obtain ⟨y0, y1, y2, y3, y4, y5, y6, y7⟩ := Hrow.out _ (hbq)))
          exact HP.out _ _ (by decide) (Hup.out _ hbq)
  all_goals
    go_enter Tryd.func96, Tryd.ntmps96
    go_wp2_with fail
    exact HP.out _ _ (by decide) (Hup.out _ hbq)
end Go.Proofs.YtkckncggiicciaaDoor
/-
  strconv.ParseUint in base 16: the inner walk.
-/
namespace Go.Proofs.YtkckncggiicciaaDoor
open Go.RowKit
set_option maxRecDepth 100000
/-- The letter made small. -/
def lw (c : Nat) : Nat := if c / 32 % 2 = 1 then c else c + 32
theorem or_32 : ∀ c : Nat, c < 256 → bits .or .u8 (c : Int) 32 = ((lw c : Nat) : Int) := by decide +kernel
theorem lw_lt : ∀ c : Nat, c < 256 → lw c < 256 := by decide +kernel
theorem wrap_u64 {n : Int} (h0 : 0 ≤ n) (h1 : n < 18446744073709551616) : IntKind.u64.wrap n = n := by
  rw [IntKind.wrap_u64]
  omega
theorem wrap_u8b {n : Int} (h0 : 0 ≤ n) (h1 : n < 256) : IntKind.u8.wrap n = n := by
  rw [IntKind.wrap_u8]
  omega
/-- A digit's worth; 99: none. -/
def dgV (c : Nat) : Nat := if 48 ≤ c ∧ c ≤ 57 then c - 48 else if 97 ≤ lw c ∧ lw c ≤ 122 then lw c - 87 else 99
def pStep (o : Option Nat) (c : UInt8) : Option Nat := match o with
  | none => none
  | some n => if 16 ≤ dgV c.toNat then none else if 1152921504606846976 ≤ n then none else some (n * 16 + dgV c.toNat)
def pF (l : List UInt8) : Option Nat := l.foldl pStep (some 0)
theorem pF_snoc (l : List UInt8) (c : UInt8) : pF (l ++ [c]) = pStep (pF l) c := by unfold pF; rw [List.foldl_append]; rfl
theorem pF_none {l : List UInt8} {k : Nat} (h : pF (l.take k) = none) : pF l = none := by
  have : ∀ (r : List UInt8), r.foldl pStep none = none := by
    intro r
    induction r with
    | nil => rfl
    | cons c r ih => exact ih
  rw [← List.take_append_drop k l]
  unfold pF at *
  rw [List.foldl_append, h]
  exact this _
/-- The bytes of a string, in a world that came of that in which they were copied. -/
theorem str_cellp (w : World) (s : ByteArray) (j : Nat) (hj : j < s.data.toList.length) : (Lib.bytesWorld w 5 s).cell? ⟨w.heap.size, j, none⟩ = some (.int .u8 (s.data.toList[j].toNat : Int)) := by
  rw [Lib.bytesWorld_cell w 5 s j (by simpa using hj)]
  simp [List.getD, List.getElem?_eq_getElem hj]
theorem str_belowp (w : World) (s : ByteArray) : Below w.heap.size w (Lib.bytesWorld w 5 s) :=
  ⟨by simp [Lib.bytesWorld, World.freeze, World.alloc, World.drew, -World.alloc_eq, -World.drew_eq], by simp [Lib.bytesWorld, World.freeze, World.alloc, World.drew, -World.alloc_eq, -World.drew_eq], by simp [Lib.bytesWorld, World.freeze, World.alloc, World.drew, -World.alloc_eq, -World.drew_eq], by rw [Lib.bytesWorld_size]; omega, fun k hk => Lib.bytesWorld_at_old w _ s k hk⟩
set_option maxHeartbeats 400000 in
theorem lower_any (c : Nat) (w : World) (hc : c < 256) : Calls Tryd.prog 118 #[.int .u8 (c : Int)] w fun e w' => e = .returned (.int .u8 ((lw c : Nat) : Int)) ∧ w = w' := by
  have h := or_32 c hc
  go_enter Tryd.func118, Tryd.ntmps118
  go_wp2_with fail
  go_ret
  exact ⟨rfl, rfl⟩
/-- What a step's numbers are. -/
def MulF (cut mx n d : Nat) : Prop := ¬ (cut : Int) ≤ (n : Int) ∧ IntKind.u64.wrap ((n : Int) * 16) = (n : Int) * 16 ∧ IntKind.u64.wrap ((n : Int) * 16 + (d : Int)) = (n : Int) * 16 + (d : Int) ∧
  ¬ ((n : Int) * 16 + (d : Int) < (n : Int) * 16) ∧ ¬ ((mx : Int) < (n : Int) * 16 + (d : Int))
theorem MulF.make {cut mx n d : Nat} (hc : 1152921504606846976 = cut) (hm : 18446744073709551615 = mx) (hn : ¬ cut ≤ n) (hd : d < 16) : MulF cut mx n d :=
  ⟨by omega, wrap_u64 (by omega) (by omega), wrap_u64 (by omega) (by omega), by omega, by omega⟩
def PintPost (l : List UInt8) (w : World) (e : Ending) (w' : World) : Prop :=
  (∃ v err, e = .returned (.tuple #[.int .u64 (v : Nat), err]) ∧ v < 18446744073709551616 ∧ (pF l = some v ∧ err = .nilIface ∨ pF l = none ∧ ∃ k : Int, (k = 1 ∨ k = 2) ∧ err = .iface 170 (.int .i64 k))) ∧ Below w.heap.size w w'
set_option maxHeartbeats 3200000 in
theorem pint_any (s : ByteArray) (w : World) (hs : s.size ≤ 4000) (h0 : s.size ≠ 0) :
    Calls Tryd.prog 102 #[.string s, .int .i64 16, .int .i64 64] w (PintPost s.data.toList w) := by
  have hcv := fun w => Lib.run_convert_string_bytes (P := Tryd.prog) w 9 26 5 s Tryd.underlying9 Tryd.underlying26 Tryd.underlying5
  have h1 : (s.toList == ([] : List UInt8)) = false := by
    rw [ByteArray.toList_eq]
    cases h : (s.data.toList == ([] : List UInt8))
    · rfl
    · exfalso
      have := eq_of_beq h
      have h2 : s.data.toList.length = 0 := by rw [this]; rfl
      exact h0 (by rw [← h2]; exact (Array.length_toList).symm)
  have hmx : IntKind.u64.wrap (IntKind.u64.wrap 18446744073709551616 - 1) = 18446744073709551615 := by decide
  have HP : Hid (∀ w' v k, pF s.data.toList = none → v < 18446744073709551616 → (k = 1 ∨ k = 2) → Below w.heap.size w w' → PintPost s.data.toList w (.returned (.tuple #[.int .u64 (v : Nat), .iface 170 (.int .i64 k)])) w') := fun w' v k h1 h2 h3 h4 => ⟨⟨v, _, rfl, h2, .inr ⟨h1, k, h3, rfl⟩⟩, h4⟩
  have HQ : Hid (∀ w' v, pF s.data.toList = some v → v < 18446744073709551616 → Below w.heap.size w w' → PintPost s.data.toList w (.returned (.tuple #[.int .u64 (v : Nat), .nilIface])) w') := fun w' v h1 h2 h4 => ⟨⟨v, _, rfl, h2, .inl ⟨h1, rfl⟩⟩, h4⟩
  obtain ⟨J, hJ⟩ : ∃ J, PintPost s.data.toList w = J := ⟨_, rfl⟩
  rw [hJ] at HP HQ ⊢
  clear hJ
  go_enter Tryd.func102, Tryd.ntmps102
  go_wp2_with fail
  obtain ⟨l, hl⟩ : ∃ l, s.data.toList = l := ⟨_, rfl⟩
  have hlen : l.length = s.size := by rw [← hl]; exact Array.length_toList
  have hrow : ∀ j (hj : j < l.length), (Lib.bytesWorld w 5 s).cell? ⟨w.heap.size, j, none⟩ = some (.int .u8 (l[j].toNat : Int)) := by
    subst hl
    exact fun j hj => str_cellp w s j hj
  have hb3 : Below w.heap.size w (Lib.bytesWorld w 5 s) := str_belowp w s
  rw [hl] at HP HQ
  obtain ⟨w3, hw3⟩ : ∃ w3, Lib.bytesWorld w 5 s = w3 := ⟨_, rfl⟩
  rw [hw3] at hrow hb3 ⊢
  obtain ⟨C, hC⟩ : ∃ C, grownCap w s.size 0 5 = C := ⟨_, rfl⟩
  rw [hC]
  have Hrow := Lib.hid hrow
  have Hlen := Lib.hid hlen
  clear hw3 hC hcv hrow hlen hl h1 hmx
  obtain ⟨cut, hcE⟩ : ∃ cut : Nat, 1152921504606846976 = cut := ⟨_, rfl⟩
  obtain ⟨mx, hmE⟩ : ∃ mx : Nat, 18446744073709551615 = mx := ⟨_, rfl⟩
  rw [show (1152921504606846976 : Int) = (cut : Int) by omega, show (18446744073709551615 : Int) = (mx : Int) by omega]
  have HcE := Lib.hid hcE
  have HmE := Lib.hid hmE
  clear hcE hmE
  go_loopg [12, 13, 15, 16, 17, 101] s.size (fun g s12 s13 _ _ _ s101 wr => ∃ i n : Nat, i + g = s.size ∧ s101 = .int .i64 i ∧ s12 = .bool false ∧ s13 = .int .u64 n ∧ n < 18446744073709551616 ∧ pF (l.take i) = some n ∧ ∃ q, wr = w3.drewN q)
  case atStart => exact ⟨0, 0, by omega, rfl, rfl, rfl, by omega, rfl, 0, rfl⟩
  case round =>
    obtain ⟨i, n, hig, rfl, rfl, rfl, hn, hF, q0, hq0⟩ := hrel
    have Hq := Lib.hid hq0
    have hbr : Below w.heap.size w wr := by rw [hq0]; exact hb3.trans ⟨rfl, rfl, rfl, Nat.le_refl _, fun _ _ => rfl⟩
    clear hq0
    have hin : i ≤ s.size := by omega
    have Hig := Lib.hid hig
    have HF := Lib.hid hF
    clear hig hF
    by_cases hlt : i < s.size
    · have hil : i < l.length := by rw [Hlen.out]; exact hlt
      obtain ⟨c, hc⟩ : ∃ c, l[i]'hil = c := ⟨_, rfl⟩
      have hcell : wr.cell? ⟨w.heap.size, i, none⟩ = some (.int .u8 (c.toNat : Int)) := by
        rw [← hc, Hq.out]
        exact Hrow.out i hil
      have Hst : Hid (pF (l.take (i + 1)) = pStep (some n) c) := by
        unfold Hid
        rw [List.take_succ_eq_append_getElem hil, pF_snoc, HF.out, hc]
      clear hc
      have hc256 := c.toNat_lt
      obtain ⟨x, hx⟩ : ∃ x, c.toNat = x := ⟨_, rfl⟩
      rw [hx] at hcell hc256
      have HL : Hid (∀ w, Calls Tryd.prog 118 #[.int .u8 (x : Int)] w fun e w' => e = .returned (.int .u8 ((lw x : Nat) : Int)) ∧ w = w') := fun w => lower_any x w hc256
      have Hx := Lib.hid hx
      clear hx
      rcases Decidable.em (48 ≤ x ∧ x ≤ 57) with xa | xa
      · obtain ⟨xa, xb⟩ := xa
        obtain ⟨d, hd⟩ : ∃ d, x - 48 = d := ⟨_, rfl⟩
        have Hdg : Hid (dgV x = d) := by unfold Hid dgV; rw [if_pos ⟨xa, xb⟩, hd]
        have hsub : IntKind.u8.wrap ((x : Int) - 48) = (d : Int) := by rw [wrap_u8b (by omega) (by omega)]; omega
        have hd16 : ¬ 16 ≤ d := by omega
        clear hd
        rcases Decidable.em (cut ≤ n) with hcut | hcut
        · have HN : Hid (pF l = none) := by
            refine pF_none (k := i + 1) ?_
            rw [Hst.out]
            unfold pStep
            dsimp only
            rw [Hx.out, if_neg (by have := Hdg.out; omega), if_pos (by rw [HcE.out]; exact hcut)]
          have hcut' : (cut : Int) ≤ (n : Int) := by omega
          clear hn hcut
          go_wp2_with (go_at_call 118; refine (HL.out _).mono ?_; rintro e w1 ⟨rfl, rfl⟩)
          exact HP.out _ mx 1 HN.out (by have := HmE.out; omega) (.inl rfl) hbr
        · have HM : MulF cut mx n d := MulF.make HcE.out HmE.out hcut (by omega)
          obtain ⟨hcut', hmul, hadd, hl1, hl2⟩ := HM
          have HS : Hid (pF (l.take (i + 1)) = some (n * 16 + d)) := by
            unfold Hid
            rw [Hst.out]
            unfold pStep
            dsimp only
            rw [Hx.out, if_neg (by have := Hdg.out; omega), if_neg (by rw [HcE.out]; exact hcut), Hdg.out]
          have Hlt : Hid (n * 16 + d < 18446744073709551616) := by unfold Hid; have := HcE.out; omega
          clear hn hcut
          go_wp2_with (go_at_call 118; refine (HL.out _).mono ?_; rintro e w1 ⟨rfl, rfl⟩)
          go_roundg (gk - 1)
          case rel => exact ⟨i + 1, n * 16 + d, by have := Hig.out; omega, by go_num, rfl, by go_num, Hlt.out, HS.out, q0, Hq.out⟩
          case measure => have := Hig.out; omega

      have hlw := lw_lt x hc256
      rcases Decidable.em (97 ≤ lw x ∧ lw x ≤ 122) with xb | xb
      · have Hdg0 : Hid (dgV x = lw x - 87) := by unfold Hid dgV; rw [if_neg xa, if_pos xb]
        have hx95 : ¬ x = 95 := by rintro rfl; revert xb; decide
        obtain ⟨y, hy⟩ : ∃ y, lw x = y := ⟨_, rfl⟩
        rw [hy] at HL xb Hdg0 hlw
        clear hy
        obtain ⟨xb, xc⟩ := xb
        obtain ⟨d, hd⟩ : ∃ d, y - 87 = d := ⟨_, rfl⟩
        have Hdg : Hid (dgV x = d) := by unfold Hid; rw [Hdg0.out, hd]
        have hs1 : IntKind.u8.wrap ((y : Int) - 97) = (y : Int) - 97 := wrap_u8b (by omega) (by omega)
        have hs2 : IntKind.u8.wrap ((y : Int) - 97 + 10) = (d : Int) := by rw [wrap_u8b (by omega) (by omega)]; omega
        clear hd Hdg0
        rcases Decidable.em (x < 48) with xd | xd
        case' inr => have xe : 57 < x := by omega
        all_goals
          clear xa
          rcases Decidable.em (16 ≤ d) with hd16 | hd16
          · have HN : Hid (pF l = none) := by
              refine pF_none (k := i + 1) ?_
              rw [Hst.out]
              unfold pStep
              dsimp only
              rw [Hx.out, if_pos (by have := Hdg.out; omega)]
            clear hn
            go_wp2_with (go_at_call 118; refine (HL.out _).mono ?_; rintro e w1 ⟨rfl, rfl⟩)
            exact HP.out _ 0 2 HN.out (by omega) (.inr rfl) hbr
          rcases Decidable.em (cut ≤ n) with hcut | hcut
          · have HN : Hid (pF l = none) := by
              refine pF_none (k := i + 1) ?_
              rw [Hst.out]
              unfold pStep
              dsimp only
              rw [Hx.out, if_neg (by have := Hdg.out; omega), if_pos (by rw [HcE.out]; exact hcut)]
            have hcut' : (cut : Int) ≤ (n : Int) := by omega
            clear hn hcut
            go_wp2_with (go_at_call 118; refine (HL.out _).mono ?_; rintro e w1 ⟨rfl, rfl⟩)
            exact HP.out _ mx 1 HN.out (by have := HmE.out; omega) (.inl rfl) hbr
          · have HM : MulF cut mx n d := MulF.make HcE.out HmE.out hcut (by omega)
            obtain ⟨hcut', hmul, hadd, hl1, hl2⟩ := HM
            have HS : Hid (pF (l.take (i + 1)) = some (n * 16 + d)) := by
              unfold Hid
              rw [Hst.out]
              unfold pStep
              dsimp only
              rw [Hx.out, if_neg (by have := Hdg.out; omega), if_neg (by rw [HcE.out]; exact hcut), Hdg.out]
            have Hlt : Hid (n * 16 + d < 18446744073709551616) := by unfold Hid; have := HcE.out; omega
            clear hn hcut
            go_wp2_with (go_at_call 118; refine (HL.out _).mono ?_; rintro e w1 ⟨rfl, rfl⟩)
            go_roundg (gk - 1)
            case rel => exact ⟨i + 1, n * 16 + d, by have := Hig.out; omega, by go_num, rfl, by go_num, Hlt.out, HS.out, q0, Hq.out⟩
            case measure => have := Hig.out; omega

      · have Hdg : Hid (dgV x = 99) := by unfold Hid dgV; rw [if_neg xa, if_neg xb]
        obtain ⟨y, hy⟩ : ∃ y, lw x = y := ⟨_, rfl⟩
        rw [hy] at HL xb hlw
        clear hy
        rcases Decidable.em (x = 95) with hx95 | hx95
        · have xe : 57 < x := by omega
          clear xa
          rcases Decidable.em (y < 97) with xf | xf
          case' inr => have xg : 122 < y := by omega
          all_goals
            clear xb
            have HN : Hid (pF l = none) := by
              refine pF_none (k := i + 1) ?_
              rw [Hst.out]
              unfold pStep
              dsimp only
              rw [Hx.out, if_pos (by have := Hdg.out; omega)]
            clear hn
            subst hx95
            go_wp2_with (go_at_call 118; refine (HL.out _).mono ?_; rintro e w1 ⟨rfl, rfl⟩)
            exact HP.out _ 0 2 HN.out (by omega) (.inr rfl) hbr
        rcases Decidable.em (x < 48) with xd | xd
        case' inr => have xe : 57 < x := by omega
        all_goals
          clear xa
          rcases Decidable.em (y < 97) with xf | xf
          case' inr => have xg : 122 < y := by omega
          all_goals
            clear xb
            have HN : Hid (pF l = none) := by
              refine pF_none (k := i + 1) ?_
              rw [Hst.out]
              unfold pStep
              dsimp only
              rw [Hx.out, if_pos (by have := Hdg.out; omega)]
            clear hn
            go_wp2_with (go_at_call 118; refine (HL.out _).mono ?_; rintro e w1 ⟨rfl, rfl⟩)
            exact HP.out _ 0 2 HN.out (by omega) (.inr rfl) hbr
    · have HF2 : Hid (pF l = some n) := by
        have := HF.out
        rwa [List.take_of_length_le (by have := Hlen.out; omega)] at this
      have Hn := Lib.hid hn
      clear hn
      go_wp2_with fail
      exact HQ.out _ n HF2.out Hn.out hbr
end Go.Proofs.YtkckncggiicciaaDoor
/-
  strconv.ParseUint in base 16: a number, or an error that is not nil.
-/
namespace Go.Proofs.YtkckncggiicciaaDoor
open Go.RowKit
set_option maxRecDepth 100000
/-- The two errors lie where the program's text laid them. -/
def ErrAt (w : World) : Prop := (∃ te pe, w.cell? ⟨2, 0, none⟩ = some (.iface te pe)) ∧ ∃ te pe, w.cell? ⟨3, 0, none⟩ = some (.iface te pe)
theorem lt_of_cell {w : World} {b o : Nat} {v : Value} (h : w.cell? ⟨b, o, none⟩ = some v) : b < w.heap.size := World.block_lt_of_cell? _ _ h
theorem ErrAt.below {w w' : World} (h : ErrAt w) (hb : Below w.heap.size w w') : ErrAt w' := by
  obtain ⟨⟨a, b, h1⟩, ⟨c, d, h2⟩⟩ := h
  exact ⟨⟨a, b, (hb.cell (p := ⟨_, 0, none⟩) (lt_of_cell h1)).trans h1⟩, ⟨c, d, (hb.cell (p := ⟨_, 0, none⟩) (lt_of_cell h2)).trans h2⟩⟩
/-- What is read: none, or a number. -/
def puV (l : List UInt8) : Option Nat := if l = [] then none else pF l
def PuPost (l : List UInt8) (w : World) (e : Ending) (w' : World) : Prop :=
  (∃ v err, e = .returned (.tuple #[.int .u64 (v : Nat), err]) ∧ v < 18446744073709551616 ∧ (puV l = some v ∧ err = .nilIface ∨ puV l = none ∧ ∃ N, err = .iface 173 (.pointer (some N)))) ∧ Below w.heap.size w w'
def PinPost (l : List UInt8) (w : World) (e : Ending) (w' : World) : Prop :=
  (∃ v err, e = .returned (.tuple #[.int .u64 (v : Nat), err]) ∧ v < 18446744073709551616 ∧ (puV l = some v ∧ err = .nilIface ∨ puV l = none ∧ ∃ k : Int, (k = 1 ∨ k = 2) ∧ err = .iface 170 (.int .i64 k))) ∧ Below w.heap.size w w'
set_option maxHeartbeats 400000 in
theorem pint_none (w : World) : Calls Tryd.prog 102 #[.string ⟨#[]⟩, .int .i64 16, .int .i64 64] w (PinPost [] w) := by
  have HP : Hid (PinPost [] w (.returned (.tuple #[.int .u64 0, .iface 170 (.int .i64 2)])) w) := ⟨⟨0, _, rfl, by omega, .inr ⟨rfl, 2, .inr rfl, rfl⟩⟩, Below.refl _ _⟩
  go_enter Tryd.func102, Tryd.ntmps102
  go_wp2_with fail
  go_ret2
  exact HP.out
theorem pin_any (s : ByteArray) (w : World) (hs : s.size ≤ 4000) :
    Calls Tryd.prog 102 #[.string s, .int .i64 16, .int .i64 64] w (PinPost s.data.toList w) := by
  rcases Decidable.em (s.size = 0) with h0 | h0
  · obtain rfl : s = ⟨#[]⟩ := by
      apply ByteArray.ext
      exact Array.eq_empty_of_size_eq_zero h0
    exact pint_none w
  · have hne : s.data.toList ≠ [] := by
      intro e
      have : s.data.toList.length = s.size := Array.length_toList
      rw [e] at this
      exact h0 this.symm
    refine (pint_any s w hs h0).mono ?_
    intro e w' h
    unfold PintPost at h
    unfold PinPost puV
    rw [if_neg hne]
    exact h
set_option maxHeartbeats 1600000 in
theorem puint_any (s : ByteArray) (w : World) (hs : s.size ≤ 4000) (hE : ErrAt w) :
    Calls Tryd.prog 79 #[.string s, .int .i64 16, .int .i64 64] w (PuPost s.data.toList w) := by
  have HI : Hid (Calls Tryd.prog 102 #[.string s, .int .i64 16, .int .i64 64] w (PinPost s.data.toList w)) := pin_any s w hs
  have HE := Lib.hid hE
  obtain ⟨l, hl⟩ : ∃ l, s.data.toList = l := ⟨_, rfl⟩
  rw [hl] at HI ⊢
  clear hE hl
  go_enter Tryd.func79, Tryd.ntmps79
  go_wp2_with fail
  refine HI.out.mono ?_
  rintro e w1 ⟨⟨v, err, rfl, hv, hcase⟩, hb⟩
  rcases hcase with ⟨hf, rfl⟩ | ⟨hf, k, hk, rfl⟩
  · have HP : Hid (PuPost l w (.returned (.tuple #[.int .u64 (v : Nat), .nilIface])) w1) := ⟨⟨v, _, rfl, hv, .inl ⟨hf, rfl⟩⟩, hb⟩
    clear hf hv
    go_wp2_with fail
    go_ret2
    exact HP.out
  · have HP : Hid (∀ w2 N, Below w1.heap.size w1 w2 → PuPost l w (.returned (.tuple #[.int .u64 (v : Nat), .iface 173 (.pointer (some N))])) w2) := fun w2 N h => ⟨⟨v, _, rfl, hv, .inr ⟨hf, N, rfl⟩⟩, hb.trans (h.mono hb.size)⟩
    have hE1 := HE.out.below hb
    obtain ⟨⟨te, pe, h1⟩, ⟨tr, pr, h2⟩⟩ := hE1
    have HS : Hid (∀ fn, Calls Tryd.prog 103 #[.string fn, .string s, .int .i64 16, .int .i64 64, .iface 170 (.int .i64 k)] w1 fun e w' => ∃ N, e = .returned (.iface 173 (.pointer (some N))) ∧ Below w1.heap.size w1 w') := fun fn => by
      rcases hk with rfl | rfl
      · exact (Tryd.strconv_toError_range fn s 16 64 _ w1 (by omega) h2 (.inr ⟨tr, pr, rfl⟩)).mono fun _ _ ⟨N, q1, _, _, q2⟩ => ⟨_, q1, q2⟩
      · exact (Tryd.strconv_toError_syntax fn s 16 64 _ w1 (by omega) h1 (.inr ⟨te, pe, rfl⟩)).mono fun _ _ ⟨N, q1, _, _, q2⟩ => ⟨_, q1, q2⟩
    clear h1 h2 hk hf hv hb HE HI
    go_wp2_with (go_at_call 103; refine (HS.out _).mono ?_; rintro e w2 ⟨N, rfl, hb2⟩)
    go_ret2
    exact HP.out _ _ hb2
end Go.Proofs.YtkckncggiicciaaDoor
/-
  What a float's sixteen digits are read as: in plain Lean.
-/
namespace Go.Proofs.YtkckncggiicciaaDoor
theorem dg_dig {c : UInt8} (h : 0 ≤ digV c) : dgV c.toNat = (digV c).toNat ∧ dgV c.toNat < 16 := by
  have key : ∀ n : Nat, n < 256 → (0 ≤ digV (UInt8.ofNat n)) → dgV n = (digV (UInt8.ofNat n)).toNat ∧ dgV n < 16 := by decide +kernel
  have := key c.toNat c.toNat_lt (by rw [UInt8.ofNat_toNat]; exact h)
  rwa [UInt8.ofNat_toNat] at this
theorem pF_good_r (r : List UInt8) (h : allD r.reverse = true) (hl : r.reverse.length ≤ 16) : pF r.reverse = some (valD r.reverse) := by
  induction r with
  | nil => rfl
  | cons c r ih =>
    rw [List.reverse_cons, allD_snoc] at h
    simp only [Bool.and_eq_true, decide_eq_true_eq] at h
    rw [List.reverse_cons, List.length_append, List.length_singleton] at hl
    obtain ⟨h1, h2⟩ := dg_dig h.2
    have hv := valD_lt r.reverse
    have hp : 16 ^ r.reverse.length ≤ 16 ^ 15 := Nat.pow_le_pow_right (by omega) (by omega)
    rw [List.reverse_cons, pF_snoc, ih h.1 (by omega), valD_snoc]
    unfold pStep
    dsimp only
    rw [if_neg (by omega), if_neg (by omega), h1]
theorem pF_good {l : List UInt8} (h : allD l = true) (hl : l.length ≤ 16) : pF l = some (valD l) := by
  have := pF_good_r l.reverse (by rwa [List.reverse_reverse]) (by rwa [List.reverse_reverse])
  rwa [List.reverse_reverse] at this
/-- Is it a float's text? -/
def parseOk (l : List UInt8) : Bool := l.length == 16 && (allD l && (canon (valD l) == valD l))
def parseN (l : List UInt8) : Nat := if parseOk l = true then valD l else 0
def parseE (l : List UInt8) : Int := if parseOk l = true then 0 else 3
theorem parseOk_iff {l : List UInt8} : parseOk l = true ↔ l.length = 16 ∧ allD l = true ∧ canon (valD l) = valD l := by
  unfold parseOk
  simp
theorem valD_16 {l : List UInt8} (h : l.length = 16) : valD l < 18446744073709551616 := by
  have := valD_lt l
  rw [h] at this
  exact this
theorem parseN_lt (l : List UInt8) : parseN l < 18446744073709551616 := by
  unfold parseN
  split
  · rename_i h
    exact valD_16 (parseOk_iff.1 h).1
  · omega
/-- A float's text is a float's text. -/
theorem parse_text {x : Nat} (hx : x < 18446744073709551616) : parseOk (hexL 16 (canon x)) = true ∧ valD (hexL 16 (canon x)) = canon x := by
  have hc := canon_lt hx
  have hv : valD (hexL 16 (canon x)) = canon x := by
    rw [valD_hexL]
    exact Nat.mod_eq_of_lt hc
  refine ⟨parseOk_iff.2 ⟨hexL_len _ _, hexL_allD _ _, ?_⟩, hv⟩
  rw [hv]
  unfold canon
  cases h : isNan x
  · simp [h]
  · simp [nan_nan]
/-- .. and leads back to it. -/
theorem text_parse {l : List UInt8} (h : parseOk l = true) : hexL 16 (canon (valD l)) = l := by
  obtain ⟨h1, h2, h3⟩ := parseOk_iff.1 h
  rw [h3, ← h1]
  exact hexL_valD h2
theorem read_ok {l : List UInt8} (h : parseOk l = true) : puV l = some (valD l) := by
  obtain ⟨h1, h2, h3⟩ := parseOk_iff.1 h
  unfold puV
  rw [if_neg (by rintro rfl; simp at h1)]
  exact pF_good h2 (by omega)
theorem read_back {l : List UInt8} {v : Nat} (h : puV l = some v) (hv : v < 18446744073709551616) (ht : hexL 16 (canon v) = l) : parseOk l = true ∧ valD l = v := by
  have h1 : puV l = some (valD l) := by
    unfold puV
    rw [if_neg (by rintro rfl; have := congrArg List.length ht; rw [hexL_len] at this; simp at this)]
    exact pF_good (by rw [← ht]; exact hexL_allD _ _) (by rw [← ht, hexL_len]; omega)
  rw [h] at h1
  injection h1 with h1
  refine ⟨?_, h1.symm⟩
  rw [← ht]
  exact (parse_text hv).1
end Go.Proofs.YtkckncggiicciaaDoor
/-
  Pairs of digits, read back; a value's text, read back: in plain Lean.
-/
namespace Go.Proofs.YtkckncggiicciaaDoor
/-- A byte of two digits. -/
def byteOf (a b : UInt8) : UInt8 := UInt8.ofNat ((digV a).toNat * 16 + (digV b).toNat)
def unOk (l : List UInt8) : Bool := l.length % 2 == 0 && allD l
/-- The first k bytes. -/
def unL (l : List UInt8) : Nat → List UInt8
  | 0 => []
  | k + 1 => unL l k ++ [byteOf (l.getD (2 * k) 0) (l.getD (2 * k + 1) 0)]
def unS (l : List UInt8) : List UInt8 := if unOk l = true then unL l (l.length / 2) else []
theorem unL_len (l : List UInt8) (k : Nat) : (unL l k).length = k := by
  induction k with
  | zero => rfl
  | succ k ih => simp [unL, ih]
theorem unOk_iff {l : List UInt8} : unOk l = true ↔ l.length % 2 = 0 ∧ allD l = true := by
  unfold unOk
  simp
theorem dig_at {l : List UInt8} (h : allD l = true) (j : Nat) (hj : j < l.length) : 0 ≤ digV l[j] := by
  unfold allD at h
  have := List.all_eq_true.1 h l[j] (List.getElem_mem _)
  simpa using this
theorem hexT_unL {l : List UInt8} (h : allD l = true) (k : Nat) (hk : 2 * k ≤ l.length) : hexT (unL l k) = l.take (2 * k) := by
  induction k with
  | zero => rfl
  | succ k ih =>
    have h1 := dig_at h (2 * k) (by omega)
    have h2 := dig_at h (2 * k + 1) (by omega)
    have b1 := digV_bd l[2 * k]
    have b2 := digV_bd l[2 * k + 1]
    have e1 : l.getD (2 * k) 0 = l[2 * k] := by simp [List.getD, List.getElem?_eq_getElem (show 2 * k < l.length by omega)]
    have e2 : l.getD (2 * k + 1) 0 = l[2 * k + 1] := by simp [List.getD, List.getElem?_eq_getElem (show 2 * k + 1 < l.length by omega)]
    have e3 : (byteOf l[2 * k] l[2 * k + 1]).toNat = (digV l[2 * k]).toNat * 16 + (digV l[2 * k + 1]).toNat := by
      unfold byteOf
      rw [UInt8.toNat_ofNat']
      omega
    rw [unL, hexT_snoc, ih (by omega), e1, e2, e3]
    have q1 : ((digV l[2 * k]).toNat * 16 + (digV l[2 * k + 1]).toNat) / 16 = (digV l[2 * k]).toNat := by omega
    have q2 : ((digV l[2 * k]).toNat * 16 + (digV l[2 * k + 1]).toNat) % 16 = (digV l[2 * k + 1]).toNat := by omega
    rw [q1, q2, hexd_digV h1, hexd_digV h2, show 2 * (k + 1) = 2 * k + 1 + 1 by omega,
      List.take_succ_eq_append_getElem (show 2 * k + 1 < l.length by omega), List.take_succ_eq_append_getElem (show 2 * k < l.length by omega), List.append_assoc]
    rfl
theorem hexd_inj {a b : Nat} (ha : a < 16) (hb : b < 16) (h : hexd a = hexd b) : a = b := by
  have h1 := digV_hexd ha
  rw [h, digV_hexd hb] at h1
  omega
theorem hexT_inj (a b : List UInt8) (h : hexT a = hexT b) : a = b := by
  induction a generalizing b with
  | nil =>
    cases b with
    | nil => rfl
    | cons d b =>
      have := congrArg List.length h
      rw [hexT_len, hexT_len] at this
      simp at this
  | cons c a ih =>
    cases b with
    | nil =>
      have := congrArg List.length h
      rw [hexT_len, hexT_len] at this
      simp at this
    | cons d b =>
      have hc := c.toNat_lt
      have hd := d.toNat_lt
      have e1 : hexT (c :: a) = hexd (c.toNat / 16) :: hexd (c.toNat % 16) :: hexT a := by simp [hexT]
      have e2 : hexT (d :: b) = hexd (d.toNat / 16) :: hexd (d.toNat % 16) :: hexT b := by simp [hexT]
      rw [e1, e2] at h
      injection h with h1 h
      injection h with h2 h
      have q1 := hexd_inj (by omega) (by omega) h1
      have q2 := hexd_inj (by omega) (by omega) h2
      rw [ih b h, UInt8.toNat_inj.1 (show c.toNat = d.toNat by omega)]
theorem allD_hexT (m : List UInt8) : allD (hexT m) = true := by
  induction m with
  | nil => rfl
  | cons c m ih =>
    have hc := c.toNat_lt
    have e1 : hexT (c :: m) = hexd (c.toNat / 16) :: hexd (c.toNat % 16) :: hexT m := by simp [hexT]
    rw [e1]
    unfold allD at ih ⊢
    rw [List.all_cons, List.all_cons, ih, digV_hexd (by omega), digV_hexd (by omega)]
    simp
    omega
theorem unOk_hexT (m : List UInt8) : unOk (hexT m) = true := unOk_iff.2 ⟨by rw [hexT_len]; omega, allD_hexT m⟩
theorem unS_hexT (m : List UInt8) : unS (hexT m) = m := by
  unfold unS
  rw [if_pos (unOk_hexT m)]
  apply hexT_inj
  rw [hexT_unL (allD_hexT m) _ (by omega), List.take_of_length_le (by rw [hexT_len]; omega)]
theorem hexT_unS {l : List UInt8} (h : unOk l = true) : hexT (unS l) = l := by
  obtain ⟨h1, h2⟩ := unOk_iff.1 h
  unfold unS
  rw [if_pos h, hexT_unL h2 _ (by omega), List.take_of_length_le (by omega)]
theorem unS_len {l : List UInt8} (h : unOk l = true) : 2 * (unS l).length = l.length := by
  have := congrArg List.length (hexT_unS h)
  rw [hexT_len] at this
  exact this
theorem unS_le (l : List UInt8) : (unS l).length ≤ l.length := by
  unfold unS
  split
  · rw [unL_len]; omega
  · simp
/-- Is it a value's text? -/
def pvOk : List UInt8 → Bool
  | [] => false
  | c :: r => if c = 45 then r == [] else if c = 110 then parseOk r else if c = 116 then unOk r && decide ((unS r).length ≤ 32) else false
/-- Which. -/
def pvV (l : List UInt8) : Va := if pvOk l = true then match l with
  | [] => ⟨0, 0, ⟨#[]⟩⟩
  | c :: r => if c = 45 then ⟨0, 0, ⟨#[]⟩⟩ else if c = 110 then ⟨1, parseN r, ⟨#[]⟩⟩ else ⟨2, 0, ⟨(unS r).toArray⟩⟩ else ⟨0, 0, ⟨#[]⟩⟩
theorem pvV_no {l : List UInt8} (h : pvOk l = false) : pvV l = ⟨0, 0, ⟨#[]⟩⟩ := by
  unfold pvV
  rw [h]
  rfl
theorem eqS_nil : eqS ⟨#[]⟩ ⟨#[]⟩ = true := by unfold eqS; simp
theorem same_nought : sameB 0 0 = true := by decide
/-- A text that is one: its value is right, and has that text. -/
theorem pv_reads {l : List UInt8} (h : pvOk l = true) : chkVa (pvV l) = 0 ∧ vtextV (pvV l) = ⟨l.toArray⟩ ∧ (pvV l).x < 18446744073709551616 ∧ (pvV l).s.size ≤ 32 := by
  unfold pvV
  rw [if_pos h]
  cases l with
  | nil => cases h
  | cons c r =>
    dsimp only
    unfold pvOk at h
    dsimp only at h
    by_cases h1 : c = 45
    · rw [if_pos h1] at h ⊢
      subst h1
      have : r = [] := eq_of_beq h
      subst this
      refine ⟨?_, by rfl, by decide, by decide⟩
      unfold chkVa
      dsimp only
      rw [if_pos rfl, same_nought, eqS_nil]
      rfl
    · rw [if_neg h1] at h ⊢
      by_cases h2 : c = 110
      · rw [if_pos h2] at h ⊢
        subst h2
        have hN : parseN r = valD r := by unfold parseN; rw [if_pos h]
        have hc := (parseOk_iff.1 h).2.2
        refine ⟨?_, ?_, parseN_lt r, show (0 : Nat) ≤ 32 by decide⟩
        · unfold chkVa
          dsimp only
          rw [if_neg (by decide), if_pos rfl, hN, hc, eqS_nil]
          simp
        · unfold vtextV
          dsimp only
          rw [if_pos rfl]
          unfold textV
          rw [hN, text_parse h]
          show (⟨[110].toArray⟩ ++ ⟨r.toArray⟩ : ByteArray) = _
          rw [bytes_app]
          rfl
      · rw [if_neg h2] at h ⊢
        by_cases h3 : c = 116
        · rw [if_pos h3] at h
          subst h3
          simp only [Bool.and_eq_true, decide_eq_true_eq] at h
          have hz : (⟨(unS r).toArray⟩ : ByteArray).size ≤ 32 := by
            show (unS r).toArray.size ≤ 32
            rw [List.size_toArray]
            exact h.2
          refine ⟨?_, ?_, show (0 : Nat) < 18446744073709551616 by decide, hz⟩
          · unfold chkVa
            dsimp only
            rw [if_neg (by decide), if_neg (by decide), if_pos rfl, if_neg (by omega), same_nought]
            rfl
          · unfold vtextV
            dsimp only
            rw [if_neg (by decide), if_pos rfl]
            have e : hexT (unS r) = r := hexT_unS h.1
            show (⟨(116 :: hexT (unS r)).toArray⟩ : ByteArray) = _
            rw [e]
        · rw [if_neg h3] at h
          cases h
theorem chk_zero {a : Va} (h : chkVa a = 0) (hx : a.x < 18446744073709551616) : (a.k = 0 ∧ a.x = 0 ∧ a.s = ⟨#[]⟩) ∨ (a.k = 1 ∧ canon a.x = a.x ∧ a.s = ⟨#[]⟩) ∨ (a.k = 2 ∧ a.x = 0 ∧ a.s.size ≤ 32) := by
  have hnil : ∀ s : ByteArray, eqS s ⟨#[]⟩ = true → s = ⟨#[]⟩ := fun s hs => by
    unfold eqS at hs
    have := eq_of_beq hs
    rw [ByteArray.toList_eq, ByteArray.toList_eq] at this
    exact bytes_ext this
  have hn := nought_eq hx
  unfold chkVa at h
  by_cases h0 : a.k = 0
  · rw [if_pos h0] at h
    refine .inl ⟨h0, ?_⟩
    split at h
    · rename_i h1
      simp only [Bool.and_eq_true] at h1
      rw [hn] at h1
      exact ⟨by simpa using h1.1, hnil _ h1.2⟩
    · cases h
  rw [if_neg h0] at h
  by_cases h1 : a.k = 1
  · rw [if_pos h1] at h
    refine .inr (.inl ⟨h1, ?_⟩)
    split at h
    · rename_i h2
      simp only [Bool.and_eq_true] at h2
      exact ⟨by simpa using h2.1, hnil _ h2.2⟩
    · cases h
  rw [if_neg h1] at h
  by_cases h2 : a.k = 2
  · rw [if_pos h2] at h
    refine .inr (.inr ⟨h2, ?_⟩)
    by_cases h3 : 32 < a.s.size
    · rw [if_pos h3] at h; cases h
    rw [if_neg h3] at h
    split at h
    · rename_i h4
      rw [hn] at h4
      exact ⟨by simpa using h4, by omega⟩
    · cases h
  rw [if_neg h2] at h
  cases h
/-- A right value's text leads back to it. -/
theorem pv_back {a : Va} (h : chkVa a = 0) (hx : a.x < 18446744073709551616) : pvOk (vtextV a).data.toList = true ∧ pvV (vtextV a).data.toList = a := by
  obtain ⟨k, x, s⟩ := a
  have hz := chk_zero h hx
  dsimp only at hz hx
  have key : ∀ l : List UInt8, (vtextV ⟨k, x, s⟩).data.toList = l → pvOk l = true → (match l with
    | [] => (⟨0, 0, ⟨#[]⟩⟩ : Va)
    | c :: r => if c = 45 then ⟨0, 0, ⟨#[]⟩⟩ else if c = 110 then ⟨1, parseN r, ⟨#[]⟩⟩ else ⟨2, 0, ⟨(unS r).toArray⟩⟩) = ⟨k, x, s⟩ → pvOk (vtextV ⟨k, x, s⟩).data.toList = true ∧ pvV (vtextV ⟨k, x, s⟩).data.toList = ⟨k, x, s⟩ := by
    intro l e h1 h2
    rw [e]
    refine ⟨h1, ?_⟩
    unfold pvV
    rw [if_pos h1]
    exact h2
  rcases hz with ⟨rfl, rfl, rfl⟩ | ⟨rfl, hc, rfl⟩ | ⟨rfl, rfl, hs⟩
  · exact key [45] rfl rfl rfl
  · obtain ⟨p1, p2⟩ := parse_text hx
    rw [hc] at p1 p2
    refine key (110 :: hexL 16 x) ?_ ?_ ?_
    · unfold vtextV textV
      dsimp only
      rw [if_pos rfl, hc]
      show (⟨[110].toArray⟩ ++ ⟨(hexL 16 x).toArray⟩ : ByteArray).data.toList = _
      rw [bytes_app]
      rfl
    · unfold pvOk
      dsimp only
      rw [if_neg (by decide), if_pos rfl]
      exact p1
    · dsimp only
      rw [if_neg (by decide), if_pos rfl]
      unfold parseN
      rw [if_pos p1, p2]
  · have e : unS (hexT s.data.toList) = s.data.toList := unS_hexT _
    refine key (116 :: hexT s.data.toList) rfl ?_ ?_
    · unfold pvOk
      dsimp only
      rw [if_neg (by decide), if_neg (by decide), if_pos rfl, unOk_hexT, e]
      have : s.data.toList.length = s.size := Array.length_toList
      simp
      exact hs
    · dsimp only
      rw [if_neg (by decide), if_neg (by decide), e]
theorem sameVa_text {a b : Va} (ha : chkVa a = 0) (hb : chkVa b = 0) (xa : a.x < 18446744073709551616) (xb : b.x < 18446744073709551616) : ((vtextV a).toList == (vtextV b).toList) = sameVa a b := by
  rw [Bool.eq_iff_iff]
  constructor
  · intro h
    have h := eq_of_beq h
    rw [ByteArray.toList_eq, ByteArray.toList_eq] at h
    have p1 := (pv_back ha xa).2
    rw [h, (pv_back hb xb).2] at p1
    rw [p1]
    unfold sameVa eqS
    simp
    unfold sameB
    exact decide_eq_true rfl
  · intro h
    unfold sameVa eqS at h
    simp only [Bool.and_eq_true] at h
    have hk : a.k = b.k := by simpa using h.1
    have hs : a.s = b.s := by
      have := eq_of_beq h.2.2
      rw [ByteArray.toList_eq, ByteArray.toList_eq] at this
      exact bytes_ext this
    have hc : canon a.x = canon b.x := by
      have := h.2.1
      rw [same_canon xa xb] at this
      exact of_decide_eq_true this
    have : vtextV a = vtextV b := by
      unfold vtextV textV
      rw [hk, hs, hc]
    rw [this]
    simp
end Go.Proofs.YtkckncggiicciaaDoor
/-
  The walks of num.Parse, and of the page's.
-/
namespace Go.Proofs.YtkckncggiicciaaDoor
open Go.RowKit
set_option maxRecDepth 100000
theorem textV_list (x : Nat) : (textV x).toList = hexL 16 (canon x) := by
  rw [ByteArray.toList_eq]
  rfl
theorem below_self (w : World) : Below w.heap.size w w := Below.refl _ _
set_option maxHeartbeats 1600000 in
theorem Parse_any (s : ByteArray) (w : World) (hs : s.size ≤ 4000) (hT : TzAt w) (hE : ErrAt w) :
    Calls Tryd.prog 55 #[.string s] w fun e w' => e = .returned (.tuple #[.float .f64 (parseN s.data.toList), .int .i64 (parseE s.data.toList)]) ∧ Below w.heap.size w w' := by
  have HU : Hid (Calls Tryd.prog 79 #[.string s, .int .i64 16, .int .i64 64] w (PuPost s.data.toList w)) := puint_any s w hs hE
  have hsl : s.toList = s.data.toList := ByteArray.toList_eq s
  obtain ⟨l, hl⟩ : ∃ l, s.data.toList = l := ⟨_, rfl⟩
  rw [hl] at HU hsl ⊢
  have Hsl := Lib.hid hsl
  have HT := Lib.hid hT
  have hc := call_frombits
  clear hl hsl hT hE
  go_enter Tryd.func55, Tryd.ntmps55
  go_wp2_with fail
  refine HU.out.mono ?_
  rintro e w1 ⟨⟨v, err, rfl, hv, hcase⟩, hb1⟩
  rcases hcase with ⟨hf, rfl⟩ | ⟨hf, N, rfl⟩
  · have HX : Hid (∀ w', Below w.heap.size w w' → Calls Tryd.prog 71 #[.float .f64 v] w' fun e w'' => e = .returned (.string (textV v)) ∧ Below w'.heap.size w' w'') := fun w' hb => Text_any v w' hv (HT.out.below hb)
    rcases Decidable.em (hexL 16 (canon v) = l) with ht | ht
    · obtain ⟨h1, h2⟩ := read_back hf hv ht
      have HP : Hid (parseN l = v ∧ parseE l = 0) := by
        unfold Hid parseN parseE
        rw [if_pos h1, if_pos h1]
        exact ⟨h2, rfl⟩
      have hq : ((textV v).toList == s.toList) = true := by
        rw [textV_list, Hsl.out, ht]
        simp
      obtain ⟨T, hTe⟩ : ∃ T, textV v = T := ⟨_, rfl⟩
      rw [hTe] at HX hq
      clear hTe h1 h2 hf hv ht
      go_wp2_with (go_at_call 71; refine (HX.out _ hb1).mono ?_; rintro e w2 ⟨rfl, hb2⟩)
      go_ret2
      rw [HP.out.1, HP.out.2]
      exact ⟨rfl, hb1.trans (hb2.mono hb1.size)⟩
    · have h1 : parseOk l = false := by
        cases h : parseOk l
        · rfl
        · exfalso
          have h3 := read_ok h
          rw [hf] at h3
          injection h3 with h3
          apply ht
          rw [h3]
          exact text_parse h
      have HP : Hid (parseN l = 0 ∧ parseE l = 3) := by
        unfold Hid parseN parseE
        rw [h1]
        exact ⟨rfl, rfl⟩
      have hq : ((textV v).toList == s.toList) = false := by
        rw [textV_list, Hsl.out]
        simpa using ht
      obtain ⟨T, hTe⟩ : ∃ T, textV v = T := ⟨_, rfl⟩
      rw [hTe] at HX hq
      clear hTe h1 hf hv ht
      go_wp2_with (go_at_call 71; refine (HX.out _ hb1).mono ?_; rintro e w2 ⟨rfl, hb2⟩)
      go_ret2
      rw [HP.out.1, HP.out.2]
      exact ⟨rfl, hb1.trans (hb2.mono hb1.size)⟩
  · have h1 : parseOk l = false := by
      cases h : parseOk l
      · rfl
      · exfalso
        have h3 := read_ok h
        rw [hf] at h3
        cases h3
    have HP : Hid (parseN l = 0 ∧ parseE l = 3) := by
      unfold Hid parseN parseE
      rw [h1]
      exact ⟨rfl, rfl⟩
    clear h1 hf hv
    go_wp2_with fail
    go_ret2
    rw [HP.out.1, HP.out.2]
    exact ⟨rfl, hb1⟩
theorem or_digit {b d : Nat} (hd : d < 16) (hb : b * 16 + d < 18446744073709551616) : bits .or .u64 ((b : Int) * 16) (d : Int) = (b : Int) * 16 + (d : Int) := by
  have := u64_or ((b : Int) * 16) (d : Int) (by omega) (by omega) (by omega) (by omega)
  rw [this]
  have e : b * 16 ||| d = b * 16 + d := by
    have := Nat.two_pow_add_eq_or_of_lt (i := 4) (b := d) hd b
    have e2 : (2 : Nat) ^ 4 * b = b * 16 := by omega
    rw [e2] at this
    exact this.symm
  have e1 : ((b : Int) * 16).toNat = b * 16 := by omega
  have e3 : ((d : Int)).toNat = d := by omega
  rw [e1, e3, e]
  omega
theorem allD_take {l : List UInt8} {i : Nat} (hi : i < l.length) (h : digV l[i] < 0) : allD l = false := by
  unfold allD
  rw [List.all_eq_false]
  exact ⟨l[i], List.getElem_mem _, by simp; omega⟩
end Go.Proofs.YtkckncggiicciaaDoor
/-
  The walks of value.text, and of the page's Unhex.
-/
namespace Go.Proofs.YtkckncggiicciaaDoor
open Go.RowKit
set_option maxRecDepth 100000
theorem index_dig : ∀ n : Nat, n < 256 → Lib.indexByte [48, 49, 50, 51, 52, 53, 54, 55, 56, 57, 97, 98, 99, 100, 101, 102] (UInt8.ofNat n) = digV (UInt8.ofNat n) := by decide +kernel
theorem index_any (c : UInt8) (w : World) : Calls Tryd.prog 80 #[.string ⟨#[48, 49, 50, 51, 52, 53, 54, 55, 56, 57, 97, 98, 99, 100, 101, 102]⟩, .int .u8 (c.toNat : Int)] w fun e w' => e = .returned (.int .i64 (digV c)) ∧ w' = w := by
  have := Tryd.strings_IndexByte ⟨#[48, 49, 50, 51, 52, 53, 54, 55, 56, 57, 97, 98, 99, 100, 101, 102]⟩ (c.toNat : Int) w
  have e : Lib.indexByte (⟨#[48, 49, 50, 51, 52, 53, 54, 55, 56, 57, 97, 98, 99, 100, 101, 102]⟩ : ByteArray).data.toList (c.toNat : Int).toNat.toUInt8 = digV c := by
    have h := index_dig c.toNat c.toNat_lt
    rw [UInt8.ofNat_toNat] at h
    rw [← h]
    show Lib.indexByte _ (UInt8.ofNat c.toNat) = _
    rw [UInt8.ofNat_toNat]
  rw [e] at this
  exact this
theorem or_low {a b : Nat} (ha : a < 16) (hb : b < 16) : bits .or .i64 ((a : Int) * 16) (b : Int) = (a : Int) * 16 + (b : Int) := by
  have key : ∀ a : Nat, a < 16 → ∀ b : Nat, b < 16 → bits .or .i64 ((a : Int) * 16) (b : Int) = (a : Int) * 16 + (b : Int) := by decide +kernel
  exact key a ha b hb
theorem unOk_odd {l : List UInt8} (h : l.length % 2 ≠ 0) : unOk l = false := by
  cases h2 : unOk l
  · rfl
  · exact absurd (unOk_iff.1 h2).1 h
theorem unOk_dig {l : List UInt8} {i : Nat} (hi : i < l.length) (h : digV l[i] < 0) : unOk l = false := by
  cases h2 : unOk l
  · rfl
  · have := (unOk_iff.1 h2).2
    rw [allD_take hi h] at this
    cases this
theorem allD_two {l : List UInt8} {i : Nat} (hi : i + 1 < l.length) (h : allD (l.take i) = true) (h1 : 0 ≤ digV (l[i]'(by omega))) (h2 : 0 ≤ digV l[i + 1]) : allD (l.take (i + 2)) = true := by
  rw [show i + 2 = i + 1 + 1 from rfl, List.take_succ_eq_append_getElem hi, List.take_succ_eq_append_getElem (show i < l.length by omega), allD_snoc, allD_snoc, h]
  simp [h1, h2]
/-- A row of bytes of the call's own, or nil. -/
theorem own_nil (w : World) (base : Nat) : OwnB w base (.slice none 0 0) [] := ⟨rfl, .inl ⟨rfl, rfl⟩⟩
def UnPost (l : List UInt8) (w : World) (e : Ending) (w' : World) : Prop := e = .returned (.tuple #[.string ⟨(unS l).toArray⟩, .bool (unOk l)]) ∧ Below w.heap.size w w'
theorem unpost_no {l : List UInt8} {w w' : World} (h : unOk l = false) (hb : Below w.heap.size w w') : UnPost l w (.returned (.tuple #[.string ⟨#[]⟩, .bool false])) w' := by
  refine ⟨?_, hb⟩
  unfold unS
  rw [h]
  rfl
theorem unpost_yes {l : List UInt8} {w w' : World} {k : Nat} (h1 : allD l = true) (h2 : l.length = 2 * k) (hb : Below w.heap.size w w') : UnPost l w (.returned (.tuple #[.string ⟨(unL l k).toArray⟩, .bool true])) w' := by
  refine ⟨?_, hb⟩
  have h : unOk l = true := unOk_iff.2 ⟨by omega, h1⟩
  unfold unS
  rw [h, if_pos rfl, show l.length / 2 = k by omega]
set_option maxHeartbeats 3200000 in
theorem vtext_any (s : ByteArray) (w : World) (hs : s.size ≤ 4000) : Calls Tryd.prog 57 #[.string s] w (UnPost s.data.toList w) := by
  obtain ⟨l, hl⟩ : ∃ l, s.data.toList = l := ⟨_, rfl⟩
  have hlen : l.length = s.size := by rw [← hl]; exact Array.length_toList
  rw [hl]
  have HN : Hid (∀ w', unOk l = false → Below w.heap.size w w' → UnPost l w (.returned (.tuple #[.string ⟨#[]⟩, .bool false])) w') := fun w' h hb => unpost_no h hb
  have HY : Hid (∀ w' k, allD l = true → l.length = 2 * k → Below w.heap.size w w' → UnPost l w (.returned (.tuple #[.string ⟨(unL l k).toArray⟩, .bool true])) w') := fun w' k h1 h2 hb => unpost_yes h1 h2 hb
  obtain ⟨J, hJ⟩ : ∃ J, UnPost l w = J := ⟨_, rfl⟩
  rw [hJ] at HN HY ⊢
  have Hlen := Lib.hid hlen
  have Hl := Lib.hid hl
  clear hJ hl hlen
  have hbw : Below w.heap.size w w := below_self w
  rcases Decidable.em (s.size % 2 = 0) with hev | hev
  case inr =>
    have hq : ((s.size : Int) % 2 != 0) = true := by simp; omega
    have hno : unOk l = false := unOk_odd (by rw [Hlen.out]; exact hev)
    have Hno := Lib.hid hno
    clear hno hev
    go_enter Tryd.func57, Tryd.ntmps57
    go_wp2_with fail
    exact HN.out _ Hno.out hbw
  have hq : ((s.size : Int) % 2 != 0) = false := by simp; omega
  obtain ⟨m, hm⟩ : ∃ m, s.size = 2 * m := ⟨s.size / 2, by omega⟩
  have Hm := Lib.hid hm
  clear hev hm
  go_enter Tryd.func57, Tryd.ntmps57
  go_wp2_with fail
  go_loopg [4, 5, 6, 7] m (fun g s4 s5 _ _ wr => ∃ i k : Nat, i = 2 * k ∧ k + g = m ∧ s5 = .int .i64 i ∧ OwnB wr w.heap.size s4 (unL l k) ∧ allD (l.take i) = true ∧ Below w.heap.size w wr)
  case atStart => exact ⟨0, 0, rfl, by omega, rfl, own_nil _ _, rfl, hbw⟩
  case round =>
    obtain ⟨i, k, hik, hkg, rfl, ho, hal, hb⟩ := hrel
    have Hik := Lib.hid hik
    have Hkg := Lib.hid hkg
    have Ho := Lib.hid ho
    have Hal := Lib.hid hal
    have hin : i ≤ s.size := by have := Hm.out; omega
    have hev : i % 2 = 0 ∧ s.size % 2 = 0 := by have := Hm.out; omega
    clear hik hkg ho hal
    by_cases hlt : i < s.size
    · have hlt1 : i + 1 < s.size := by omega
      have hil : i + 1 < l.length := by rw [Hlen.out]; exact hlt1
      clear hev
      obtain ⟨c, hc⟩ : ∃ c, s[i] = c := ⟨_, rfl⟩
      obtain ⟨d, hd⟩ : ∃ d, s[i + 1] = d := ⟨_, rfl⟩
      have hlc : l[i]'(by omega) = c := by
        have := Hl.out
        subst this
        rw [← hc]
        exact (Array.getElem_toList _)
      have hld : l[i + 1]'hil = d := by
        have := Hl.out
        subst this
        rw [← hd]
        exact (Array.getElem_toList _)
      have b1 := digV_bd c
      have b2 := digV_bd d
      have HLC := Lib.hid hlc
      have HLD := Lib.hid hld
      have hi0 : (0 : Int) ≤ (i : Int) := by omega
      have hi1 : (0 : Int) ≤ (i : Int) + 1 := by omega
      have hi2 : (i : Int) < (s.size : Int) := by omega
      have hi3 : (i : Int) + 1 < (s.size : Int) := by omega
      have hi4 : IntKind.i64.wrap ((i : Int) + 1) = (i : Int) + 1 := IntWalk.i64_in _ (by omega)
      have hi5 : ((i : Int) + 1).toNat = i + 1 := by omega
      clear hlc hld
      rcases Decidable.em (digV c < 0 ∨ digV d < 0) with hneg | hpos
      · have Hno : Hid (unOk l = false) := by
          rcases hneg with h | h
          · exact unOk_dig (i := i) (by omega) (by rw [HLC.out]; exact h)
          · exact unOk_dig (i := i + 1) hil (by rw [HLD.out]; exact h)
        have HC : Hid (∀ w, Calls Tryd.prog 80 #[.string ⟨#[48, 49, 50, 51, 52, 53, 54, 55, 56, 57, 97, 98, 99, 100, 101, 102]⟩, .int .u8 (c.toNat : Int)] w fun e w' => e = .returned (.int .i64 (digV c)) ∧ w' = w) := fun w => index_any c w
        have HD : Hid (∀ w, Calls Tryd.prog 80 #[.string ⟨#[48, 49, 50, 51, 52, 53, 54, 55, 56, 57, 97, 98, 99, 100, 101, 102]⟩, .int .u8 (d.toNat : Int)] w fun e w' => e = .returned (.int .i64 (digV d)) ∧ w' = w) := fun w => index_any d w
        obtain ⟨x, hx⟩ : ∃ x, digV c = x := ⟨_, rfl⟩
        obtain ⟨y, hy⟩ : ∃ y, digV d = y := ⟨_, rfl⟩
        rw [hx] at HC b1 hneg
        rw [hy] at HD b2 hneg
        clear hx hy
        rcases Decidable.em (x < 0) with hx0 | hx0
        case' inr => have hy0 : y < 0 := by omega
        all_goals
          clear hneg
          go_wp2_with fail
          go_quiet (first | (with_reducible exact Calls.quiet_of_same (HC.out _)) | (with_reducible exact Calls.quiet_of_same (HD.out _)))
          go_wp2_with fail
          exact HN.out _ Hno.out (below_drewN hb _)
      · obtain ⟨a, ha⟩ : ∃ a : Nat, digV c = a := ⟨(digV c).toNat, by omega⟩
        obtain ⟨b, hb'⟩ : ∃ b : Nat, digV d = b := ⟨(digV d).toNat, by omega⟩
        have ha16 : a < 16 := by omega
        have hb16 : b < 16 := by omega
        have Hal2 : Hid (allD (l.take (i + 2)) = true) := allD_two hil Hal.out (by rw [HLC.out]; omega) (by rw [HLD.out]; omega)
        obtain ⟨q, hq'⟩ : ∃ q, byteOf c d = q := ⟨_, rfl⟩
        have hqn : q.toNat = a * 16 + b := by
          rw [← hq']
          unfold byteOf
          rw [UInt8.toNat_ofNat', ha, hb']
          omega
        have HL : Hid (unL l (k + 1) = unL l k ++ [q]) := by
          unfold Hid
          have e1 : l.getD (2 * k) 0 = c := by
            have := Hik.out
            subst this
            rw [← HLC.out]
            simp [List.getD, List.getElem?_eq_getElem (show 2 * k < l.length by omega)]
          have e2 : l.getD (2 * k + 1) 0 = d := by
            have := Hik.out
            subst this
            rw [← HLD.out]
            simp [List.getD, List.getElem?_eq_getElem hil]
          rw [unL, e1, e2, hq']
        have hor := or_low ha16 hb16
        have hmul : IntKind.i64.wrap ((a : Int) * 16) = (a : Int) * 16 := IntWalk.i64_in _ (by omega)
        have hwq : IntKind.u8.wrap ((a : Int) * 16 + (b : Int)) = (q.toNat : Int) := by rw [hqn, wrap_u8b (by omega) (by omega)]; omega
        have HC : Hid (∀ w, Calls Tryd.prog 80 #[.string ⟨#[48, 49, 50, 51, 52, 53, 54, 55, 56, 57, 97, 98, 99, 100, 101, 102]⟩, .int .u8 (c.toNat : Int)] w fun e w' => e = .returned (.int .i64 (a : Int)) ∧ w' = w) := fun w => by rw [← ha]; exact index_any c w
        have HD : Hid (∀ w, Calls Tryd.prog 80 #[.string ⟨#[48, 49, 50, 51, 52, 53, 54, 55, 56, 57, 97, 98, 99, 100, 101, 102]⟩, .int .u8 (d.toNat : Int)] w fun e w' => e = .returned (.int .i64 (b : Int)) ∧ w' = w) := fun w => by rw [← hb']; exact index_any d w
        have hlk : (unL l k).length ≤ 4000 := by rw [unL_len]; have := Hik.out; omega
        clear hpos b1 b2 ha hb' hqn hq' ha16 hb16
        go_wp2_with fail
        go_quiet (first | (with_reducible exact Calls.quiet_of_same (HC.out _)) | (with_reducible exact Calls.quiet_of_same (HD.out _)))
        go_wp2_with (at_builtin
                     refine wpList_appB rfl (.tmp 33) (.tmp 39) rfl w.heap.size u4 (unL l k) rfl (World.ownsRow.alloc Ho.out _) (wr.heap.size + 1) (some ⟨wr.heap.size, 0, none⟩) 1 1 [q] rfl (by_one _ q) (by omega) (by simp; have := hb.size; omega) ?_
                     intro v4 w4 ho4 hg4)
        have Ho4 : Hid (OwnB w4 w.heap.size v4 (unL l (k + 1))) := by
          unfold Hid
          rw [HL.out]
          exact ho4
        have hb4 : Below w.heap.size w w4 := (Below.alloc (below_drewN hb _) hb.size _).grown hg4 (by simp; have := hb.size; omega) (fun k hk => (World.ownsRow.lt Ho.out k hk).1)
        clear ho4 hg4 hor hmul hwq
        go_roundg (gk - 1)
        case rel => exact ⟨i + 2, k + 1, by have := Hik.out; omega, by have := Hkg.out; have := Hik.out; have := Hm.out; omega, by go_num, Ho4.out, Hal2.out, hb4⟩
        case measure => have := Hkg.out; have := Hik.out; have := Hm.out; omega
    · have hkm : k = m := by have := Hik.out; have := Hm.out; have := Hkg.out; omega
      subst hkm
      obtain ⟨A, C2, rfl, hy⟩ := own_by Ho.out (n := k) (unL_len _ _)
      have hal := Hal.out
      rw [List.take_of_length_le (by rw [Hlen.out]; omega)] at hal
      have Hfin : Hid (∀ w', Below w.heap.size w w' → J (.returned (.tuple #[.string ⟨(unL l k).toArray⟩, .bool true])) w') := fun w' h => HY.out w' k hal (by rw [Hlen.out, Hm.out]) h
      have hcv := conv_by hy
      clear hy hal hev
      go_wp2_with fail
      exact Hfin.out _ hb
end Go.Proofs.YtkckncggiicciaaDoor
/-
  The walks of value.Parse, and of the page's.
-/
namespace Go.Proofs.YtkckncggiicciaaDoor
open Go.RowKit
set_option maxRecDepth 100000
theorem results_valx {fn : Func} {c t : Nat} (h : fn.results = #[.cell c 56, .tmp t]) (tmps : Array Value) (w : World) (g : Nat) (k : Int) (x : Nat) (s : ByteArray) (u : Value)
    (hp : tmps.getD c undef = .pointer (some ⟨g, 0, none⟩)) (h5 : tmps.getD t undef = u) (hg : w.heap[g]? = some (.cells #[.int .i64 k, .float .f64 x, .string s] 56 (0, 0))) :
    (results fn tmps).run Tryd.prog w = .ok (.tuple #[.agg #[.int .i64 k, .float .f64 x, .string s], u]) w := by
  have hl := run_loadVar_row (P := Tryd.prog) w g 56 56 #[.int .i64 k, .float .f64 x, .string s] (0, 0) _ hg Tryd.underlying56 rfl size3
  have hp' : tmps[c]?.getD undef = .pointer (some ⟨g, 0, none⟩) := by simpa using hp
  have h5' : tmps[t]?.getD undef = u := by simpa using h5
  simp [results, h, hp', h5', asAddr, hl]
set_option maxHeartbeats 1000000 in
theorem numbered_any (x : Nat) (n : Int) (w : World) : Calls Tryd.prog 56 #[.float .f64 x, .int .i64 n] w fun e w' =>
    e = .returned (.tuple #[if n = 0 then .agg #[.int .i64 1, .float .f64 x, .string ⟨#[]⟩] else .agg #[.int .i64 0, .float .f64 0, .string ⟨#[]⟩], .int .i64 n]) ∧ Below w.heap.size w w' := by
  have hrow := heap_alloc_new w (.cells #[.int .i64 0, .float .f64 0, .string ⟨#[]⟩] 56)
  rcases Decidable.em (n = 0) with rfl | h
  · rw [if_pos rfl]
    go_enter Tryd.func56, Tryd.ntmps56
    go_wp2_with (refine wpList_store_row rfl 56 (.tmp 4) _ rfl w.heap.size #[.int .i64 1, .float .f64 x, .string ⟨#[]⟩] rfl rfl 56 _ hrow size3 rfl (val_one _ _ _) ?_)
    exact bodyPost_ret (results_valx Tryd.results56 _ _ w.heap.size _ _ _ _ rfl rfl (setRow_heap _ _ _ _ _ _ hrow)) rfl ⟨rfl, below_setRow (one_below _ _) (Nat.le_refl _) _⟩
  · rw [if_neg h]
    have hq : (n != 0) = true := by simpa using h
    go_enter Tryd.func56, Tryd.ntmps56
    go_wp2_with (refine wpList_store_row rfl 56 (.tmp 4) _ rfl w.heap.size #[.int .i64 0, .float .f64 0, .string ⟨#[]⟩] rfl rfl 56 _ hrow size3 rfl (val_one _ _ _) ?_)
    exact bodyPost_ret (results_valx Tryd.results56 _ _ w.heap.size _ _ _ _ rfl rfl (setRow_heap _ _ _ _ _ _ hrow)) rfl ⟨rfl, below_setRow (one_below _ _) (Nat.le_refl _) _⟩
/-- Does a text begin so? -/
def headB (l : List UInt8) (p : UInt8) : Bool := match l with
  | [] => false
  | c :: _ => c == p
set_option maxHeartbeats 1000000 in
theorem lite_prefix_nil (p : UInt8) (w : World) :
    Calls Tryd.prog 78 #[.string ⟨#[]⟩, .string ⟨#[p]⟩] w fun e w' => e = .returned (.bool false) ∧ w = w' := by
  go_enter Tryd.func78, Tryd.ntmps78
  go_wp2_with fail
  go_ret
  exact ⟨rfl, rfl⟩
set_option maxHeartbeats 1000000 in
theorem prefix_nil (p : UInt8) (w : World) :
    Calls Tryd.prog 54 #[.string ⟨#[]⟩, .string ⟨#[p]⟩] w fun e w' => e = .returned (.bool false) ∧ w = w' := by
  go_enter Tryd.func54, Tryd.ntmps54
  go_wp2_with (refine (lite_prefix_nil p _).mono ?_; rintro e w1 ⟨rfl, rfl⟩)
  go_ret
  exact ⟨rfl, rfl⟩
theorem head_any (s : ByteArray) (p : UInt8) (hs : s.size ≤ maxLen) (w : World) :
    Calls Tryd.prog 54 #[.string s, .string ⟨#[p]⟩] w fun e w' => e = .returned (.bool (headB s.data.toList p)) ∧ w = w' := by
  cases h : s.data.toList with
  | nil =>
    have : s = ⟨#[]⟩ := bytes_ext h
    subst this
    exact prefix_nil p w
  | cons c r => exact prefix_any s c p r h hs w
/-- The rest of a text behind its first byte. -/
theorem rest_list {s : ByteArray} {c : UInt8} {r : List UInt8} (h : s.data.toList = c :: r) : (s.extract 1 s.size).data.toList = r ∧ (s.extract 1 s.size).size + 1 = s.size := by
  have e : (s.extract 1 s.size).data.toList = r := by
    have hl : s.data.toList.length = s.size := Array.length_toList
    rw [ext_list, List.take_of_length_le (by omega), h]
    rfl
  refine ⟨e, ?_⟩
  have h1 : (s.extract 1 s.size).data.toList.length = (s.extract 1 s.size).size := Array.length_toList
  have h2 : s.data.toList.length = s.size := Array.length_toList
  rw [e] at h1
  rw [h] at h2
  simp at h2
  omega
def PvPost (l : List UInt8) (u : Bool → Value) (w : World) (e : Ending) (w' : World) : Prop := e = .returned (.tuple #[(pvV l).v, u (pvOk l)]) ∧ Below w.heap.size w w'
theorem pvp_no {l : List UInt8} {u : Bool → Value} {w w' : World} (h : pvOk l = false) (hb : Below w.heap.size w w') : PvPost l u w (.returned (.tuple #[.agg #[.int .i64 0, .float .f64 0, .string ⟨#[]⟩], u false])) w' := by
  refine ⟨?_, hb⟩
  rw [pvV_no h, h]
  rfl
theorem pvp_dash {u : Bool → Value} {w w' : World} (hb : Below w.heap.size w w') : PvPost [45] u w (.returned (.tuple #[.agg #[.int .i64 0, .float .f64 0, .string ⟨#[]⟩], u true])) w' := ⟨rfl, hb⟩
theorem pvp_num {r : List UInt8} {u : Bool → Value} {w w' : World} (h : parseOk r = true) (hb : Below w.heap.size w w') : PvPost (110 :: r) u w (.returned (.tuple #[.agg #[.int .i64 1, .float .f64 (parseN r), .string ⟨#[]⟩], u true])) w' := by
  have h1 : pvOk (110 :: r) = true := h
  refine ⟨?_, hb⟩
  unfold pvV
  rw [h1]
  rfl
theorem pvp_text {r : List UInt8} {u : Bool → Value} {w w' : World} (h : unOk r = true) (h2 : (unS r).length ≤ 32) (hb : Below w.heap.size w w') : PvPost (116 :: r) u w (.returned (.tuple #[.agg #[.int .i64 2, .float .f64 0, .string ⟨(unS r).toArray⟩], u true])) w' := by
  have h1 : pvOk (116 :: r) = true := by
    unfold pvOk
    dsimp only
    rw [if_neg (by decide), if_neg (by decide), if_pos rfl, h]
    simpa using h2
  refine ⟨?_, hb⟩
  unfold pvV
  rw [h1]
  rfl
theorem pvn_num {r : List UInt8} (h : parseOk r = false) : pvOk (110 :: r) = false := h
theorem pvn_text {r : List UInt8} (h : unOk r = false ∨ 32 < (unS r).length) : pvOk (116 :: r) = false := by
  unfold pvOk
  dsimp only
  rw [if_neg (by decide), if_neg (by decide), if_pos rfl]
  rcases h with h | h
  · rw [h]; rfl
  · rw [decide_eq_false (show ¬ (unS r).length ≤ 32 by omega), Bool.and_false]
theorem pvn_else {c : UInt8} {r : List UInt8} (h1 : ¬ (c = 45 ∧ r = [])) (h2 : c ≠ 110) (h3 : c ≠ 116) : pvOk (c :: r) = false := by
  unfold pvOk
  dsimp only
  by_cases hc : c = 45
  · rw [if_pos hc]
    simpa using fun h => h1 ⟨hc, h⟩
  · rw [if_neg hc, if_neg h2, if_neg h3]
theorem str_size {l : List UInt8} : (⟨l.toArray⟩ : ByteArray).size = l.length := by
  show l.toArray.size = l.length
  rw [List.size_toArray]
/-- An error's number. -/
def eV (b : Bool) : Value := .int .i64 (if b = true then 0 else 3)
set_option maxHeartbeats 3200000 in
theorem VParse_any (s : ByteArray) (w : World) (hs : s.size ≤ 4000) (hT : TzAt w) (hE : ErrAt w) :
    Calls Tryd.prog 27 #[.string s] w (PvPost s.data.toList eV w) := by
  have hmx : s.size ≤ maxLen := by unfold maxLen; omega
  have hst := run_store_float
  have HN : Hid (∀ w, Calls Tryd.prog 54 #[.string s, .string ⟨#[110]⟩] w fun e w' => e = .returned (.bool (headB s.data.toList 110)) ∧ w = w') := fun w => head_any s 110 hmx w
  have HTt : Hid (∀ w, Calls Tryd.prog 54 #[.string s, .string ⟨#[116]⟩] w fun e w' => e = .returned (.bool (headB s.data.toList 116)) ∧ w = w') := fun w => head_any s 116 hmx w
  have hsl : s.toList = s.data.toList := ByteArray.toList_eq s
  obtain ⟨W2, hW2⟩ : ∃ W2, (w.alloc (.cells #[.int .i64 0, .float .f64 0, .string ⟨#[]⟩] 56)).alloc (.cells #[.int .i64 0, .float .f64 0, .string ⟨#[]⟩] 56) = W2 := ⟨_, rfl⟩
  have hb2 : Below w.heap.size w W2 := by rw [← hW2]; exact two_below _ _ _
  have hz2 : W2.heap.size = w.heap.size + 2 := by rw [← hW2]; simp
  have Hr : Hid (∀ w', Below W2.heap.size W2 w' → w'.heap[w.heap.size]? = some (.cells #[.int .i64 0, .float .f64 0, .string ⟨#[]⟩] 56 (0, 0)) ∧ w'.heap[w.heap.size + 1]? = some (.cells #[.int .i64 0, .float .f64 0, .string ⟨#[]⟩] 56 (0, 0))) := fun w' hb => by
    refine ⟨?_, ?_⟩
    · rw [hb.block _ (by omega), ← hW2, Below.heap_alloc _ _ _ (by simp)]
      exact heap_alloc_new w _
    · rw [hb.block _ (by omega), ← hW2]
      exact heap_alloc2_new w _ _
  have HW2 := Lib.hid hW2
  clear hW2
  have hbc : Below W2.heap.size W2 W2 := Below.refl _ _
  obtain ⟨l, hl⟩ : ∃ l, s.data.toList = l := ⟨_, rfl⟩
  rw [hl] at HN HTt hsl ⊢
  rcases Decidable.em (l = [45]) with h45 | h45
  · have hq : (s.toList == [45]) = true := by rw [hsl, h45]; simp
    have HQ : Hid (∀ w', Below w.heap.size w w' → PvPost l eV w (.returned (.tuple #[.agg #[.int .i64 0, .float .f64 0, .string ⟨#[]⟩], eV true])) w') := fun w' h => by rw [h45]; exact pvp_dash h
    obtain ⟨J, hJ⟩ : ∃ J, PvPost l eV w = J := ⟨_, rfl⟩
    rw [hJ] at HQ ⊢
    obtain ⟨r0, r1⟩ := Hr.out _ hbc
    have c0 : W2.cell? ⟨w.heap.size + 1, 0, none⟩ = some (.int .i64 0) := cell_of_row _ _ _ _ _ _ r1
    have c1 : W2.cell? ⟨w.heap.size + 1, 1, none⟩ = some (.float .f64 0) := cell_of_row _ _ _ _ _ _ r1
    have c2 : W2.cell? ⟨w.heap.size + 1, 2, none⟩ = some (.string ⟨#[]⟩) := cell_of_row _ _ _ _ _ _ r1
    have R0 := Lib.hid r0
    clear hJ hl hsl h45 r0 r1 hT hE
    go_enter Tryd.func27, Tryd.ntmps27
    go_wp2_with fail
    rw [HW2.out]
    go_wp2_with (refine wpList_store_row rfl 56 (.tmp 2) _ rfl w.heap.size #[.int .i64 0, .float .f64 0, .string ⟨#[]⟩] rfl rfl 56 _ R0.out size3 rfl (val_one _ _ _) ?_)
    exact bodyPost_ret (results_valx Tryd.results27 _ _ w.heap.size _ _ _ _ rfl rfl R0.out) rfl (HQ.out _ hb2)
  have hq : (s.toList == [45]) = false := by rw [hsl]; simpa using h45
  cases l with
  | nil =>
    have HQ : Hid (∀ w', Below w.heap.size w w' → PvPost [] eV w (.returned (.tuple #[.agg #[.int .i64 0, .float .f64 0, .string ⟨#[]⟩], eV false])) w') := fun w' h => pvp_no rfl h
    have e1 : headB [] 110 = false := rfl
    have e2 : headB [] 116 = false := rfl
    rw [e1] at HN
    rw [e2] at HTt
    obtain ⟨J, hJ⟩ : ∃ J, PvPost [] eV w = J := ⟨_, rfl⟩
    rw [hJ] at HQ ⊢
    clear hJ hl hsl h45 hT hE e1 e2
    go_enter Tryd.func27, Tryd.ntmps27
    go_wp2_with fail
    rw [HW2.out]
    go_wp2_with (first
      | ((with_reducible refine (HN.out _).mono ?_); rintro e w5 ⟨rfl, rfl⟩)
      | ((with_reducible refine (HTt.out _).mono ?_); rintro e w5 ⟨rfl, rfl⟩)
      | (refine wpList_store_row rfl 56 (.tmp 2) _ rfl w.heap.size #[.int .i64 0, .float .f64 0, .string ⟨#[]⟩] rfl rfl 56 _ (Hr.out _ hbc).1 size3 rfl (val_one _ _ _) ?_))
    exact bodyPost_ret (results_valx Tryd.results27 _ _ w.heap.size _ _ _ _ rfl rfl (setRow_heap _ _ _ _ _ _ (Hr.out _ hbc).1)) rfl (HQ.out _ (below_setRow hb2 (Nat.le_refl _) _))
  | cons c r =>
    obtain ⟨hrl, hrz⟩ := rest_list hl
    have hcap : 1 ≤ s.size := by omega
    obtain ⟨R, hR⟩ : ∃ R, s.extract 1 s.size = R := ⟨_, rfl⟩
    rw [hR] at hrl hrz
    have HR := Lib.hid hR
    have Hrl := Lib.hid hrl
    have Hrz := Lib.hid hrz
    have hR4 : R.size ≤ 4000 := by omega
    have h1 : headB (c :: r) 110 = (c == 110) := rfl
    have h2 : headB (c :: r) 116 = (c == 116) := rfl
    rw [h1] at HN
    rw [h2] at HTt
    clear h1 h2 hR hrl hrz hl hsl
    have hR := HR.out
    rcases Decidable.em (c = 110) with rfl | hn
    · have e1 : ((110 : UInt8) == 110) = true := rfl
      rw [e1] at HN
      have HP : Hid (∀ w', Below w.heap.size w w' → Calls Tryd.prog 55 #[.string R] w' fun e w'' => e = .returned (.tuple #[.float .f64 (parseN r), .int .i64 (parseE r)]) ∧ Below w'.heap.size w' w'') := fun w' hb => by
        have := Parse_any R w' hR4 (hT.below hb) (hE.below hb)
        rw [Hrl.out] at this
        exact this
      obtain ⟨kq, xq, HM0, HQ0⟩ : ∃ (kq : Int) (xq : Nat), (∀ w', Calls Tryd.prog 56 #[.float .f64 (parseN r), .int .i64 (parseE r)] w' fun e w'' => e = .returned (.tuple #[.agg #[.int .i64 kq, .float .f64 xq, .string ⟨#[]⟩], .int .i64 (parseE r)]) ∧ Below w'.heap.size w' w'') ∧
          (∀ w', Below w.heap.size w w' → PvPost (110 :: r) eV w (.returned (.tuple #[.agg #[.int .i64 kq, .float .f64 xq, .string ⟨#[]⟩], .int .i64 (parseE r)])) w') := by
        unfold parseE
        cases hok : parseOk r
        · exact ⟨0, 0, fun w' => numbered_any _ 3 w', fun w' h => pvp_no (pvn_num hok) h⟩
        · exact ⟨1, parseN r, fun w' => numbered_any _ 0 w', fun w' h => pvp_num hok h⟩
      have HM := Lib.hid HM0
      have HQ := Lib.hid HQ0
      clear HM0 HQ0
      obtain ⟨J, hJ⟩ : ∃ J, PvPost (110 :: r) eV w = J := ⟨_, rfl⟩
      obtain ⟨x, hx⟩ : ∃ x, parseN r = x := ⟨_, rfl⟩
      obtain ⟨n, hn⟩ : ∃ n, parseE r = n := ⟨_, rfl⟩
      rw [hJ] at HQ ⊢
      rw [hx] at HM HP
      rw [hn] at HQ HP HM
      clear hJ h45 hT hE e1 hx hn
      go_enter Tryd.func27, Tryd.ntmps27
      go_wp2_with fail
      rw [HW2.out]
      go_wp2_with (first
        | (go_at_call 54; (with_reducible refine (HN.out _).mono ?_); rintro e w5 ⟨rfl, rfl⟩)
        | (go_at_call 55; (with_reducible refine (HP.out _ hb2).mono ?_); rintro e w6 ⟨rfl, hb6⟩
           have hbc6 : Below W2.heap.size W2 w6 := hb6)
        | (go_at_call 56; (with_reducible refine (HM.out _).mono ?_); rintro e w7 ⟨rfl, hb7⟩
           have hbc7 : Below W2.heap.size W2 w7 := hbc6.trans (hb7.mono hbc6.size)
           have Hr7 := Lib.hid (Hr.out _ hbc7).1)
        | (refine wpList_store_row rfl 56 (.tmp 2) _ rfl w.heap.size #[.int .i64 kq, .float .f64 xq, .string ⟨#[]⟩] rfl rfl 56 _ Hr7.out size3 rfl (val_one _ _ _) ?_))
      exact bodyPost_ret (results_valx Tryd.results27 _ _ w.heap.size _ _ _ _ rfl rfl (setRow_heap _ _ _ _ _ _ Hr7.out)) rfl (HQ.out _ (below_setRow (hb2.trans (hbc7.mono hb2.size)) (Nat.le_refl _) _))
    have e1 : (c == 110) = false := by simpa using hn
    rw [e1] at HN
    rcases Decidable.em (c = 116) with rfl | ht
    case inr =>
      have e2 : (c == 116) = false := by simpa using ht
      rw [e2] at HTt
      have HQ : Hid (∀ w', Below w.heap.size w w' → PvPost (c :: r) eV w (.returned (.tuple #[.agg #[.int .i64 0, .float .f64 0, .string ⟨#[]⟩], eV false])) w') := fun w' h => pvp_no (pvn_else (by rintro ⟨rfl, rfl⟩; exact h45 rfl) hn ht) h
      obtain ⟨J, hJ⟩ : ∃ J, PvPost (c :: r) eV w = J := ⟨_, rfl⟩
      rw [hJ] at HQ ⊢
      clear hJ h45 hT hE e1 e2 hn ht
      go_enter Tryd.func27, Tryd.ntmps27
      go_wp2_with fail
      rw [HW2.out]
      go_wp2_with (first
        | ((with_reducible refine (HN.out _).mono ?_); rintro e w5 ⟨rfl, rfl⟩)
        | ((with_reducible refine (HTt.out _).mono ?_); rintro e w5 ⟨rfl, rfl⟩)
        | (refine wpList_store_row rfl 56 (.tmp 2) _ rfl w.heap.size #[.int .i64 0, .float .f64 0, .string ⟨#[]⟩] rfl rfl 56 _ (Hr.out _ hbc).1 size3 rfl (val_one _ _ _) ?_))
      exact bodyPost_ret (results_valx Tryd.results27 _ _ w.heap.size _ _ _ _ rfl rfl (setRow_heap _ _ _ _ _ _ (Hr.out _ hbc).1)) rfl (HQ.out _ (below_setRow hb2 (Nat.le_refl _) _))
    have e2 : ((116 : UInt8) == 116) = true := rfl
    rw [e2] at HTt
    have HX : Hid (∀ w', Calls Tryd.prog 57 #[.string R] w' fun e w'' => e = .returned (.tuple #[.string ⟨(unS r).toArray⟩, .bool (unOk r)]) ∧ Below w'.heap.size w' w'') := fun w' => by
      have := vtext_any R w' hR4
      rw [Hrl.out] at this
      exact this
    have hul := unS_le r
    have hrlen : r.length ≤ 4000 := by
      have h1 : R.data.toList.length = R.size := Array.length_toList
      rw [Hrl.out] at h1
      omega
    have hss : (⟨(unS r).toArray⟩ : ByteArray).size = (unS r).length := str_size
    have HC : Hid (∀ w', Calls Tryd.prog 58 #[.agg #[.int .i64 2, .float .f64 0, .string ⟨(unS r).toArray⟩]] w' fun e w'' => e = .returned (.int .i64 (if 32 < (unS r).length then 2 else 0)) ∧ Below w'.heap.size w' w'') := fun w' => by
      have := VCheck_any ⟨2, 0, ⟨(unS r).toArray⟩⟩ w' (by dsimp only; omega) (by dsimp only; rw [hss]; unfold maxLen; omega)
      have e : chkVa ⟨2, 0, ⟨(unS r).toArray⟩⟩ = if 32 < (unS r).length then 2 else 0 := by
        unfold chkVa
        dsimp only
        rw [if_neg (by decide), if_neg (by decide), if_pos rfl, hss, same_nought]
        rfl
      rw [e] at this
      exact this
    have HQ : Hid (unOk r = false ∨ 32 < (unS r).length → ∀ w', Below w.heap.size w w' → PvPost (116 :: r) eV w (.returned (.tuple #[.agg #[.int .i64 0, .float .f64 0, .string ⟨#[]⟩], eV false])) w') := fun hno w' h => pvp_no (pvn_text hno) h
    have HY : Hid (unOk r = true → (unS r).length ≤ 32 → ∀ w', Below w.heap.size w w' → PvPost (116 :: r) eV w (.returned (.tuple #[.agg #[.int .i64 2, .float .f64 0, .string ⟨(unS r).toArray⟩], eV true])) w') := fun h1 h2 w' h => pvp_text h1 h2 h
    obtain ⟨J, hJ⟩ : ∃ J, PvPost (116 :: r) eV w = J := ⟨_, rfl⟩
    obtain ⟨T, hTe⟩ : ∃ T, (⟨(unS r).toArray⟩ : ByteArray) = T := ⟨_, rfl⟩
    obtain ⟨ln, hln⟩ : ∃ ln, (unS r).length = ln := ⟨_, rfl⟩
    rw [hJ] at HQ HY ⊢
    rw [hTe] at HX HC HY
    rw [hln] at HC HQ HY
    clear hJ h45 hT hE e1 e2 hn hul hss hTe hln
    have HZ : Hid (∀ w6 : World, Below W2.heap.size W2 w6 → ∃ w7, w6.setRow (w.heap.size + 1) #[.int .i64 2, .float .f64 0, .string T] = w7 ∧ w7.heap[w.heap.size + 1]? = some (.cells #[.int .i64 2, .float .f64 0, .string T] 56 (0, 0)) ∧
        w7.heap[w.heap.size]? = some (.cells #[.int .i64 0, .float .f64 0, .string ⟨#[]⟩] 56 (0, 0)) ∧ Below w.heap.size w w7 ∧ w.heap.size + 2 ≤ w7.heap.size) := fun w6 hb6 => by
      refine ⟨_, rfl, setRow_heap _ _ _ _ _ _ (Hr.out _ hb6).2, ?_, below_setRow (hb2.trans (hb6.mono hb2.size)) (by omega) _, ?_⟩
      · rw [setRow_other _ _ _ _ (by omega)]
        exact (Hr.out _ hb6).1
      · have := hb6.size
        simp
        omega
    cases hok : unOk r
    all_goals
      rw [hok] at HX HQ HY
      clear hok
      rcases Decidable.em (32 < ln) with hlen | hlen
    case' true.inl =>
      rw [if_pos hlen] at HC
      have HF := Lib.hid (HQ.out (.inr hlen))
    case' true.inr =>
      rw [if_neg hlen] at HC
      have HF := Lib.hid (HY.out rfl (by omega))
    case' false.inl => have HF := Lib.hid (HQ.out (.inl rfl))
    case' false.inr => have HF := Lib.hid (HQ.out (.inl rfl))
    all_goals
      clear HQ HY
      go_enter Tryd.func27, Tryd.ntmps27
      go_wp2_with fail
      rw [HW2.out]
      go_wp2_with (first
        | ((with_reducible refine (HN.out _).mono ?_); rintro e w5 ⟨rfl, rfl⟩)
        | ((with_reducible refine (HTt.out _).mono ?_); rintro e w5 ⟨rfl, rfl⟩)
        | (go_at_call 57; (with_reducible refine (HX.out _).mono ?_); rintro e w6 ⟨rfl, hb6⟩
           have hr6 := Hr.out _ hb6
           have HR6 := Lib.hid hr6
           clear hr6)
        | (refine wpList_store_row rfl 56 (.tmp 4) _ rfl (w.heap.size + 1) #[.int .i64 2, .float .f64 0, .string T] rfl rfl 56 _ HR6.out.2 size3 rfl (val_one _ _ _) ?_
           obtain ⟨w7, hw7, q7, p7, hb7, hz7⟩ := HZ.out _ hb6
           rw [hw7]
           have d0 : w7.cell? ⟨w.heap.size + 1, 0, none⟩ = some (.int .i64 2) := cell_of_row _ _ _ _ _ _ q7
           have d1 : w7.cell? ⟨w.heap.size + 1, 1, none⟩ = some (.float .f64 0) := cell_of_row _ _ _ _ _ _ q7
           have d2 : w7.cell? ⟨w.heap.size + 1, 2, none⟩ = some (.string T) := cell_of_row _ _ _ _ _ _ q7
           have Hp7 := Lib.hid p7
           have Hq7 := Lib.hid q7
           clear hw7 p7 q7)
        | (go_at_call 58; (with_reducible refine (HC.out _).mono ?_); rintro e w8 ⟨rfl, hb8⟩
           have Hp8 := Lib.hid ((hb8.block w.heap.size (by omega)).trans Hp7.out)
           have hq8 := (hb8.block (w.heap.size + 1) (by omega)).trans Hq7.out
           have g0 : w8.cell? ⟨w.heap.size + 1, 0, none⟩ = some (.int .i64 2) := cell_of_row _ _ _ _ _ _ hq8
           have g1 : w8.cell? ⟨w.heap.size + 1, 1, none⟩ = some (.float .f64 0) := cell_of_row _ _ _ _ _ _ hq8
           have g2 : w8.cell? ⟨w.heap.size + 1, 2, none⟩ = some (.string T) := cell_of_row _ _ _ _ _ _ hq8
           have hb9 : Below w.heap.size w w8 := hb7.trans (hb8.mono hb7.size)
           clear hq8 d0 d1 d2 hb8)
        | (refine wpList_store_row rfl 56 (.tmp 2) _ rfl w.heap.size #[.int .i64 0, .float .f64 0, .string ⟨#[]⟩] rfl rfl 56 _ Hp7.out size3 rfl (val_one _ _ _) ?_)
        | (refine wpList_store_row rfl 56 (.tmp 2) _ rfl w.heap.size #[.int .i64 0, .float .f64 0, .string ⟨#[]⟩] rfl rfl 56 _ Hp8.out size3 rfl (val_one _ _ _) ?_)
        | (refine wpList_store_row rfl 56 (.tmp 2) _ rfl w.heap.size #[.int .i64 2, .float .f64 0, .string T] rfl rfl 56 _ Hp8.out size3 rfl (val_one _ _ _) ?_))
      first
        | exact bodyPost_ret (results_valx Tryd.results27 _ _ w.heap.size _ _ _ _ rfl rfl (setRow_heap _ _ _ _ _ _ Hp8.out)) rfl (HF.out _ (below_setRow hb9 (Nat.le_refl _) _))
        | exact bodyPost_ret (results_valx Tryd.results27 _ _ w.heap.size _ _ _ _ rfl rfl (setRow_heap _ _ _ _ _ _ Hp7.out)) rfl (HF.out _ (below_setRow hb7 (Nat.le_refl _) _))
end Go.Proofs.YtkckncggiicciaaDoor
/-
  ReportPairs, plain: the words of a pair's line; what is read back of them.
-/
namespace Go.Proofs.YtkckncggiicciaaDoor
open Go.RowKit
set_option maxRecDepth 100000
theorem sameVa_me (a : Va) : sameVa a a = true := by
  unfold sameVa eqS
  simp
  unfold sameB
  exact decide_eq_true rfl
theorem hexd_32 {n : Nat} (h : n < 16) : hexd n ≠ 32 := fun e => by
  have h1 := hexd_toNat h
  rw [e] at h1
  have h2 : (32 : UInt8).toNat = 32 := rfl
  rw [h2] at h1
  split at h1 <;> omega
theorem hexT_32 (l : List UInt8) : ∀ c ∈ hexT l, c ≠ 32 := by
  intro c hc
  unfold hexT at hc
  obtain ⟨a, _, ha⟩ := List.mem_flatMap.1 hc
  have h := a.toNat_lt
  simp only [List.mem_cons, List.not_mem_nil, or_false] at ha
  rcases ha with rfl | rfl
  · exact hexd_32 (by omega)
  · exact hexd_32 (by omega)
theorem hexL_32 : ∀ (k n : Nat), ∀ c ∈ hexL k n, c ≠ 32
  | 0, n => by intro c hc; simp [hexL] at hc
  | k + 1, n => by
    intro c hc
    unfold hexL at hc
    rw [List.mem_append] at hc
    rcases hc with h | h
    · exact hexL_32 k _ c h
    · rw [List.mem_singleton] at h
      subst h
      exact hexd_32 (by omega)
theorem valT_32 (v : Va) : ∀ c ∈ valT v, c ≠ 32 := by
  intro c hc
  unfold valT at hc
  split at hc
  · unfold vtextV at hc
    split at hc
    · have e : (⟨#[110]⟩ ++ textV v.x : ByteArray).data.toList = 110 :: (textV v.x).data.toList := by rw [ByteArray.data_append]; simp
      rw [e] at hc
      rcases List.mem_cons.1 hc with rfl | h
      · decide
      · exact hexL_32 16 (canon v.x) c h
    · split at hc
      · rcases List.mem_cons.1 (show c ∈ 116 :: hexT v.s.data.toList from hc) with rfl | h
        · decide
        · exact hexT_32 _ c h
      · rw [List.mem_singleton.1 (show c ∈ [45] from hc)]
        decide
  · rw [List.mem_singleton.1 hc]
    decide
/-- A pair's line has two words. -/
theorem pair_words (p : ByteArray × Va) : splitL (pairL p) = [107 :: hexT p.1.data.toList, valT p.2] := by
  rw [pair_list, ← List.cons_append]
  unfold splitL
  rw [cutW_word _ _ (fun c hc => by
    rcases List.mem_cons.1 hc with rfl | h
    · decide
    · exact hexT_32 _ c h), cutW_last _ (valT_32 p.2)]
  rfl
def keyB (p : ByteArray × Va) : ByteArray := ⟨(107 :: hexT p.1.data.toList).toArray⟩
def valB (p : ByteArray × Va) : ByteArray := ⟨(valT p.2).toArray⟩
def lineB (p : ByteArray × Va) : ByteArray := ⟨(pairL p).toArray⟩
theorem keyB_size (p : ByteArray × Va) : (keyB p).size = 1 + 2 * p.1.size := by
  have h : p.1.data.toList.length = p.1.size := Array.length_toList
  show (107 :: hexT p.1.data.toList).toArray.size = _
  rw [List.size_toArray, List.length_cons, hexT_len, h, Nat.add_comm]
theorem lineB_size {p : ByteArray × Va} (h : PairOk p) : (lineB p).size ≤ 4000 := by
  have h1 : p.1.data.toList.length = p.1.size := Array.length_toList
  have h2 := valT_len p.2
  have h3 := h.hi
  show (pairL p).toArray.size ≤ 4000
  rw [List.size_toArray, pair_list, List.length_cons, List.length_append, hexT_len, h1, List.length_cons]
  omega
theorem lineB_list (p : ByteArray × Va) : (lineB p).data.toList = pairL p := rfl
/-- A pair's value is read back. -/
theorem valB_parse {p : ByteArray × Va} (h : PairOk p) (w : World) (hT : TzAt w) (hE : ErrAt w) :
    Calls Tryd.prog 27 #[.string (valB p)] w fun e w' => e = .returned (.tuple #[.agg #[.int .i64 p.2.k, .float .f64 p.2.x, .string p.2.s], .int .i64 0]) ∧ Below w.heap.size w w' := by
  obtain ⟨p1, p2⟩ := pv_back h.chk h.num
  have hz : (valB p).size ≤ 4000 := by
    have := valT_len p.2
    show (valT p.2).toArray.size ≤ 4000
    rw [List.size_toArray]
    omega
  have e1 : (valB p).data.toList = (vtextV p.2).data.toList := by
    show valT p.2 = _
    unfold valT
    rw [if_pos h.chk]
  have := VParse_any (valB p) w hz hT hE
  unfold PvPost at this
  rw [e1, p1, p2] at this
  exact this
theorem line_up {a b : ByteArray × Va} (h : ltK a b) (hl : a.1.size = b.1.size) : (Op.bytesLess (lineB b).toList (lineB a).toList || (lineB b).toList == (lineB a).toList) = false := by
  rw [ByteArray.toList_eq, ByteArray.toList_eq, lineB_list, lineB_list]
  exact line_less h hl
def GrownPost (w : World) (e : Ending) (w' : World) : Prop := (∃ (A : Option Addr) (n c : Nat) (B : Option Addr) (m d : Nat) (ps : List (ByteArray × Va)), e = .returned (.agg #[.slice A n c, .slice B m d]) ∧ ps.length = n ∧ OwnP w' w.heap.size (.slice A n c) ps ∧ RightP ps) ∧ Below w.heap.size w w'
end Go.Proofs.YtkckncggiicciaaDoor
/-
  As XRord's wp_region_told; an operation may also yield a pointer to a cell that is known.
-/
namespace Go.Proofs.YtkckncggiicciaaDoor
open Go Go.RowKit
inductive Sq where
  | val (u : Value)
  | rd (n : Nat) (us : List Value)
  | ptr (u : Value)
  | any
def Sq.holds : Sq → Value → World → Prop
  | .val u, v, _ => v = u
  | .rd n us, v, w => ∃ A c, v = .slice A n c ∧ Rd w w.heap.size 1 A n c us
  | .ptr u, v, w => ∃ b o, v = .pointer (some ⟨b, o, none⟩) ∧ b < w.heap.size ∧ w.cell? ⟨b, o, none⟩ = some u
  | .any, _, _ => True
theorem Sq.below {s : Sq} {v : Value} {w w' : World} (h : s.holds v w) (hb : Below w.heap.size w w') : s.holds v w' := by
  cases s with
  | val u => exact h
  | rd n us =>
    obtain ⟨A, c, e, hr⟩ := h
    exact ⟨A, c, e, (Rd.below hr hb (Nat.le_refl _)).mono hb.size⟩
  | ptr u =>
    obtain ⟨b, o, e, h1, h2⟩ := h
    exact ⟨b, o, e, Nat.lt_of_lt_of_le h1 hb.size, (hb.cell (p := ⟨b, o, none⟩) h1).trans h2⟩
  | any => trivial
theorem sq_bool {b c : Bool} {w : World} (h : b = c) : (Sq.val (.bool c)).holds (.bool b) w := congrArg _ h
theorem wp_region_toldq {P : Program} {id : Nat} {Q : Exit → Act → World → Prop} {a0 : Act} {w0 : World} {l : List Oper} (hm : P.follows .mixedOrders = true) (hlex : lexAll 0 l = true)
    (S : List Sq) (mk : (Nat → Value) → Act) (_hmk : ∀ f, putOps a0 l f 0 = mk f) (f0 : Nat → Value) (h0 : mk f0 = a0)
    (hput : stepAll (fun i o => ∀ f v, (mk f).put o.dst v = mk (fun j => if j = i then v else f j)) 0 l)
    (hstep : stepAll (fun i o => ∀ f w, Below w0.heap.size w0 w → depAll (fun j => (S.getD j .any).holds (f j) w) o.after.toList →
      wpList P l.toArray (oneQ (fun a' w' => ∃ v, a' = (mk f).put o.dst v ∧ Below w.heap.size w w' ∧ (S.getD i .any).holds v w') Q) [o] (mk f) w) 0 l)
    (hend : ∀ f w, Below w0.heap.size w0 w → (∀ i, i < l.length → (S.getD i .any).holds (f i) w) → Q .normal (mk f) w) :
    (Code.region id l.toArray true).wp P Q a0 w0 := by
  refine wp_region_typed hm (fun i o ho e he hb => by have := lexAll_at hlex ho e he hb; omega) mk f0 h0 (fun i o ho => by have := stepAll_at hput ho; rw [Nat.zero_add] at this; exact this)
    (fun w => Below w0.heap.size w0 w) (fun w w' => Below w.heap.size w w') (fun i v w => (S.getD i .any).holds v w) ⟨rfl, rfl, rfl, Nat.le_refl _, fun _ _ => rfl⟩ (fun i v w w' => Sq.below) hend ?_
  intro i o ho f w hj hd
  have := stepAll_at hstep ho f w hj (depAll_of fun e he hb => by have := hd e (by simpa using he) hb; exact this)
  rw [Nat.zero_add] at this
  refine wpList_mono1 ?_ this
  rintro a' w' ⟨v, h1, h2, h3⟩
  exact ⟨v, h1, h2, hj.trans (h2.mono hj.size), h3⟩
end Go.Proofs.YtkckncggiicciaaDoor
/-
  A region that draws its order and ends in an append: told operation by operation up to the append, which comes behind all of them.
-/
namespace Go.Proofs.YtkckncggiicciaaDoor
open Go Go.RowKit
/-- Each of the first n is waited for by a later one, up to the n-th. -/
def chained (l : List Oper) (n : Nat) : Bool := (List.range n).all fun j => (List.range (n + 1)).any fun k => decide (j < k) && ((l[k]?).map fun o => o.after.toList.any fun e => e.on == j && Region.binds .any e).getD false
theorem chained_at {l : List Oper} {n j : Nat} (h : chained l n = true) (hj : j < n) : ∃ k o, j < k ∧ k ≤ n ∧ l[k]? = some o ∧ ∃ e ∈ o.after, e.on = j ∧ Region.binds .any e = true := by
  unfold chained at h
  rw [List.all_eq_true] at h
  have := h j (List.mem_range.2 hj)
  rw [List.any_eq_true] at this
  obtain ⟨k, hk, hb⟩ := this
  rw [List.mem_range] at hk
  rw [Bool.and_eq_true] at hb
  cases ho : l[k]? with
  | none => rw [ho] at hb; simp at hb
  | some o =>
    rw [ho] at hb
    have h2 := hb.2
    simp only [Option.map_some, Option.getD_some, List.any_eq_true, Bool.and_eq_true, beq_iff_eq] at h2
    obtain ⟨e, he, h3, h4⟩ := h2
    exact ⟨k, o, by simpa using hb.1, by omega, ho, e, by simpa using he, h3, h4⟩
def lastOk (l : List Oper) (n : Nat) : Bool := ((l[n + 1]?).map fun o => o.after.toList.any fun e => e.on == n && Region.binds .any e).getD false
theorem lastOk_at {l : List Oper} {n : Nat} (h : lastOk l n = true) : ∃ o, l[n + 1]? = some o ∧ ∃ e ∈ o.after, e.on = n ∧ Region.binds .any e = true := by
  unfold lastOk at h
  cases ho : l[n + 1]? with
  | none => rw [ho] at h; simp at h
  | some o =>
    rw [ho] at h
    simp only [Option.map_some, Option.getD_some, List.any_eq_true, Bool.and_eq_true, beq_iff_eq] at h
    obtain ⟨e, he, h3, h4⟩ := h
    exact ⟨o, rfl, e, by simpa using he, h3, h4⟩
theorem wp_region_app {P : Program} {id : Nat} {Q : Exit → Act → World → Prop} {a0 : Act} {w0 : World} {l : List Oper} (n : Nat) (hn : l.length = n + 2) (hm : P.follows .mixedOrders = true) (hlex : lexAll 0 l = true) (hch : chained l n = true)
    (hlast0 : lastOk l n = true)
    (S : List Sp) (F : Value → World → Prop) (mk : (Nat → Value) → Act) (_hmk : ∀ f, putOps a0 l f 0 = mk f) (f0 : Nat → Value) (h0 : mk f0 = a0)
    (hput : stepAll (fun i o => ∀ f v, (mk f).put o.dst v = mk (fun j => if j = i then v else f j)) 0 l)
    (hstep : stepAll (fun i o => i < n → ∀ f w, Below w0.heap.size w0 w → f (n + 1) = f0 (n + 1) → depAll (fun j => (S.getD j .any).holds (f j) w) o.after.toList →
      wpList P l.toArray (oneQ (fun a' w' => ∃ v, a' = (mk f).put o.dst v ∧ Below w.heap.size w w' ∧ (S.getD i .any).holds v w') Q) [o] (mk f) w) 0 l)
    (happ : stepAll (fun i o => i = n → ∀ f w, Below w0.heap.size w0 w → f (n + 1) = f0 (n + 1) → (∀ i, i < n → (S.getD i .any).holds (f i) w) →
      wpList P l.toArray (oneQ (fun a' w' => ∃ v, a' = (mk f).put o.dst v ∧ F v w') Q) [o] (mk f) w) 0 l)
    (hasg : stepAll (fun i o => i = n + 1 → ∀ f w, wpList P l.toArray (oneQ (fun a' w' => a' = (mk f).put o.dst (f n) ∧ w' = w) Q) [o] (mk f) w) 0 l)
    (hend : ∀ f w, F (f n) w → f (n + 1) = f n → Q .normal (mk f) w) :
    (Code.region id l.toArray true).wp P Q a0 w0 := by
  have hlast := lastOk_at hlast0
  refine wp_region_any hm ?_
  refine wpAny_inv (fun L a w => L.size = l.length ∧ (∀ i o, l[i]? = some o → L.getD i false = true → ∀ e ∈ o.after, Region.binds .any e = true → L.getD e.on false = true) ∧ ∃ f, a = mk f ∧
      (L.getD n false = false → Below w0.heap.size w0 w ∧ ∀ i, i < n → L.getD i false = true → (S.getD i .any).holds (f i) w) ∧ (L.getD n false = true → F (f n) w) ∧ (L.getD (n + 1) false = true → f (n + 1) = f n) ∧ (L.getD n false = false → f (n + 1) = f0 (n + 1))) ?_ ?_ l.toArray.size _ _ _ ?_ ?_
  · rintro L a w hr ⟨hsz, hcl, f, rfl, h1, h2, h3, _⟩
    have hall : ∀ m i, i < m → i < l.length → L.getD i false = true := by
      intro m
      induction m with
      | zero => intro i h; omega
      | succ m ih =>
        intro i hi hl
        cases hc : L.getD i false with
        | true => rfl
        | false =>
          have : i ∈ Region.ready .any l.toArray L := by
            refine mem_ready.2 ⟨?_, l[i], ?_, fun e he hbb => ih e.on ?_ ?_⟩
            · rw [Array.getD_eq_getD_getElem?, Array.getElem?_eq_getElem (by omega)] at hc ⊢
              exact hc
            · rw [List.getElem?_toArray, List.getElem?_eq_getElem hl]
            · have := lexAll_at hlex (List.getElem?_eq_getElem hl) e he hbb; omega
            · have := lexAll_at hlex (List.getElem?_eq_getElem hl) e he hbb; omega
          rw [hr] at this
          cases this
    exact hend f w (h2 (hall (n + 1) n (by omega) (by omega))) (h3 (hall (n + 2) (n + 1) (by omega) (by omega)))
  · rintro L a w i hi ⟨hsz, hcl, f, rfl, h1, h2, h3, h4⟩
    obtain ⟨hnl, o, ho, hd⟩ := mem_ready.1 hi
    have ho' : l[i]? = some o := by rw [List.getElem?_toArray] at ho; exact ho
    have hil : i < l.length := (List.getElem?_eq_some_iff.1 ho').1
    have hnl' : L.getD i false = false := by
      rw [Array.getD_eq_getD_getElem?, Array.getElem?_eq_getElem (by omega)] at hnl ⊢
      exact hnl
    have hp := stepAll_at hput ho'
    rw [Nat.zero_add] at hp
    have hsz' : (L.setIfInBounds i true).size = l.length := by rw [Array.size_setIfInBounds]; exact hsz
    have hget : ∀ j, j ≠ i → (L.setIfInBounds i true).getD j false = L.getD j false := fun j hj => by
      rw [Array.getD_eq_getD_getElem?, Array.getElem?_setIfInBounds_ne (Ne.symm hj), ← Array.getD_eq_getD_getElem?]
    have hself : (L.setIfInBounds i true).getD i false = true := by
      rw [Array.getD_eq_getD_getElem?, Array.getElem?_setIfInBounds_self_of_lt (by omega)]
      rfl
    have hcl' : ∀ j o, l[j]? = some o → (L.setIfInBounds i true).getD j false = true → ∀ e ∈ o.after, Region.binds .any e = true → (L.setIfInBounds i true).getD e.on false = true := by
      intro j o2 hj hl e he hb
      by_cases hei : e.on = i
      · rw [hei]; exact hself
      · rw [hget _ hei]
        by_cases hji : j = i
        · subst hji
          rw [ho'] at hj
          injection hj with hj
          subst hj
          exact hd e he hb
        · rw [hget _ hji] at hl
          exact hcl j o2 hj hl e he hb
    by_cases hin : i < n
    · -- one of the first
      have hnn : L.getD n false = false := by
        cases hq : L.getD n false with
        | false => rfl
        | true =>
          exfalso
          have hdown : ∀ k j, n - j ≤ k → j ≤ n → L.getD j false = true := by
            intro k
            induction k with
            | zero => intro j h1 h2; obtain rfl : j = n := by omega
                      exact hq
            | succ k ih =>
              intro j h1 h2
              rcases Nat.lt_or_ge j n with hlt | hge
              · obtain ⟨k', o2, q1, q2, q3, e, q4, q5, q6⟩ := chained_at hch hlt
                have := hcl k' o2 q3 (ih k' (by omega) q2) e q4 q6
                rw [q5] at this
                exact this
              · obtain rfl : j = n := by omega
                exact hq
          rw [hdown n i (by omega) (by omega)] at hnl'
          cases hnl'
      obtain ⟨hb, ht⟩ := h1 hnn
      have hst := stepAll_at hstep ho'
      rw [Nat.zero_add] at hst
      have := hst hin f w hb (h4 hnn) (depAll_of fun e he hbd => by
        have he' : e ∈ o.after := by simpa using he
        have := lexAll_at hlex ho' e he' hbd
        exact ht e.on (by omega) (hd e he' hbd))
      refine wpOp_mono ?_ (wpOp_one ho this)
      rintro a' w' ⟨v, rfl, hbw, hv⟩
      refine ⟨hsz', hcl', _, hp f v, fun _ => ⟨hb.trans (hbw.mono hb.size), fun j hj hL => ?_⟩, fun h => ?_, fun h => ?_, fun _ => by rw [if_neg (by omega)]; exact h4 hnn⟩
      · by_cases hji : j = i
        · rw [if_pos hji, hji]; exact hv
        · rw [if_neg hji]
          rw [hget _ hji] at hL
          exact Sp.below (ht j hj hL) hbw
      · rw [hget _ (by omega)] at h
        rw [hnn] at h
        cases h
      · exfalso
        rw [hget _ (by omega)] at h
        obtain ⟨o2, q1, e, q2, q3, q4⟩ := hlast
        have := hcl _ _ q1 h e q2 q4
        rw [q3, hnn] at this
        cases this
    · rcases Nat.lt_or_ge n i with hgt | hge
      · obtain rfl : i = n + 1 := by omega
        obtain ⟨o2, q1, e, q2, q3, q4⟩ := hlast
        rw [ho'] at q1
        injection q1 with q1
        subst q1
        have hnT : L.getD n false = true := by have := hd e q2 q4; rw [q3] at this; exact this
        have hst := stepAll_at hasg ho'
        rw [Nat.zero_add] at hst
        refine wpOp_mono ?_ (wpOp_one ho (hst rfl f w))
        rintro a' w' ⟨rfl, rfl⟩
        refine ⟨hsz', hcl', _, hp f (f n), fun h => ?_, fun _ => ?_, fun _ => ?_, fun h => by rw [hget _ (by omega), hnT] at h; cases h⟩
        · rw [hget _ (by omega), hnT] at h
          cases h
        · rw [if_neg (by omega)]
          exact h2 hnT
        · rw [if_pos rfl, if_neg (by omega)]
      · obtain rfl : i = n := by omega
        obtain ⟨hb, ht⟩ := h1 hnl'
        have hallf : ∀ j, j < i → L.getD j false = true := by
          have hdown : ∀ k j, i - j ≤ k → j < i → L.getD j false = true := by
            intro k
            induction k with
            | zero => intro j h1 h2; omega
            | succ k ih =>
              intro j h1 h2
              obtain ⟨k', o2, q1, q2, q3, e, q4, q5, q6⟩ := chained_at hch h2
              rcases Nat.lt_or_ge k' i with hlt | hge2
              · have := hcl k' o2 q3 (ih k' (by omega) hlt) e q4 q6
                rw [q5] at this
                exact this
              · obtain rfl : k' = i := by omega
                rw [ho'] at q3
                injection q3 with q3
                subst q3
                have := hd e q4 q6
                rw [q5] at this
                exact this
          exact fun j hj => hdown i j (by omega) hj
        have hst := stepAll_at happ ho'
        rw [Nat.zero_add] at hst
        refine wpOp_mono ?_ (wpOp_one ho (hst rfl f w hb (h4 hnl') fun j hj => ht j hj (hallf j hj)))
        rintro a' w' ⟨v, rfl, hv⟩
        refine ⟨hsz', hcl', _, hp f v, fun h => ?_, fun _ => ?_, fun h => ?_, fun h => by rw [hself] at h; cases h⟩
        · rw [hself] at h
          cases h
        · rw [if_pos rfl]
          exact hv
        · exfalso
          rw [hget _ (by omega)] at h
          obtain ⟨o2, q1, e, q2, q3, q4⟩ := hlast
          have := hcl _ _ q1 h e q2 q4
          rw [q3, hnl'] at this
          cases this
  · simp
  · have hz : ∀ j, (Array.replicate l.toArray.size false).getD j false = false := fun j => by
      rw [Array.getD_eq_getD_getElem?, Array.getElem?_replicate]
      split <;> rfl
    refine ⟨by simp, fun i o _ hL => ?_, f0, h0.symm, fun _ => ⟨⟨rfl, rfl, rfl, Nat.le_refl _, fun _ _ => rfl⟩, fun i _ hL => ?_⟩, fun hL => ?_, fun hL => ?_, fun _ => rfl⟩
    all_goals
      rw [hz] at hL
      cases hL
end Go.Proofs.YtkckncggiicciaaDoor
/-
  The walk of ref25.Pairs; written by genfpx.py.
-/
namespace Go.Proofs.YtkckncggiicciaaDoor
open Go.RowKit
set_option maxRecDepth 100000
theorem size3v : (Tryd.prog.info? 56).map (·.size) = some 3 := by kernel_rfl
theorem pair_app (key : ByteArray) (v : Va) : (((⟨#[107]⟩ ++ ⟨(hexT key.data.toList).toArray⟩) ++ ⟨#[32]⟩) ++ ⟨(valT v).toArray⟩ : ByteArray) = ⟨(pairL (key, v)).toArray⟩ := by
  refine bytes_ext ?_
  simp only [ByteArray.data_append, Array.toList_append]
  unfold pairL wordsL
  rw [Lib.join_cons]
  simp [Lib.joinTail]
theorem fpair_range {w : World} {b o : Nat} {p : ByteArray × Va} (h : w.rangeAt b o (prC p)) : w.cell? ⟨b, o, none⟩ = some (.string p.1) ∧ w.rangeAt b (o + 1) [.int .i64 p.2.k, .float .f64 p.2.x, .string p.2.s] := by
  refine ⟨h 0 _ rfl, fun j u hj => ?_⟩
  have hj3 : j < 3 := (List.getElem?_eq_some_iff.1 hj).1
  have := h (j + 1) u (by
    rw [← hj]
    match j, hj3 with
    | 0, _ | 1, _ | 2, _ => rfl)
  rw [Nat.add_assoc, Nat.add_comm 1 j]
  exact this
theorem wpList_appSA {w : World} {ops : Array Oper} {rest : List Oper} {o : Oper} {a : Act} {Q : Exit → Act → World → Prop} (hgd : o.guard = none) (s x : Operand)
    (ho : o.op = .call { callee := .builtin .append, args := #[s, x], argTypes := #[34, 34] })
    (base : Nat) (v : Value) (l : List (List UInt8)) (hs : a.eval s = v) (hown : OwnS w base v l)
    (B : Nat) (A : Option Addr) (c : Nat) (l' : List UInt8) (hx : a.eval x = .slice A 1 c) (hr : Rd w B 1 A 1 c [sV l'])
    (hlim : l.length ≤ 100000) (hbase : base ≤ w.heap.size)
    (h : ∀ v' w', OwnS w' base v' (l ++ [l']) → w.grownBy w' v.ownBlock → (v'.ownBlock = v.ownBlock ∨ v'.ownBlock = some w.heap.size) → wpList Tryd.prog ops Q rest (a.put o.dst v') w') : wpList Tryd.prog ops Q (o :: rest) a w := by
  obtain ⟨i0, hi, hz0, hz1, hz2⟩ := info_parts info_str
  refine wpList_plain hgd fun _ hK => wp_appAt s x _ ho base 9 i0 _ 1 16 Tryd.underlying34 hi hz0 hz1 hz2 rfl (by omega) v l.length (l.map sV) hs hown B _ 1 c [sV l'] hx hr (one_one rfl) (by simp only [maxLen]; omega) (by omega) hbase ?_
  intro v' w' h1 h2 _ h4
  refine hK _ _ (h v' w' ?_ h2 h4)
  unfold OwnS
  rw [List.length_append, List.map_append]
  exact h1
set_option maxHeartbeats 12800000 in
theorem RfPairs_any (A : Option Addr) (n c : Nat) (S : Option Addr) (sn sc : Nat) (ps : List (ByteArray × Va)) (w : World) (hy : PrRows w w.heap.size A n c ps) (hl : ps.length = n) (hn : n ≤ 10000) (hok : ∀ p ∈ ps, PrOk p) (hT : TzAt w) :
    Calls Tryd.prog 22 #[.agg #[.slice A n c, .slice S sn sc]] w (RPairsPost ps w) := by
  have hcap : n ≤ c := hy.2.1
  obtain ⟨W1, hW1⟩ : ∃ W1, w.alloc (.cells #[.slice A n c, .slice S sn sc] 44) = W1 := ⟨_, rfl⟩
  have hb1 : Below w.heap.size w W1 := by rw [← hW1]; exact alloc_below w _
  have hz1 : W1.heap.size = w.heap.size + 1 := by rw [← hW1]; simp
  have hrow : W1.heap[w.heap.size]? = some (.cells #[.slice A n c, .slice S sn sc] 44 (0, 0)) := by rw [← hW1]; exact heap_alloc_new w _
  have Hc : Hid (∀ w', Below W1.heap.size W1 w' → w'.cell? ⟨w.heap.size, 0, none⟩ = some (.slice A n c)) := fun w' hb => by
    have q := (hb.block w.heap.size (by omega)).trans hrow
    exact cell_of_row _ _ _ _ _ _ q
  have HP : Hid (∀ w' v, OwnS w' w.heap.size v (linesP ps n) → Below w.heap.size w w' → RPairsPost ps w (.returned v) w') := fun w' v ho hb => by
    unfold RPairsPost
    rw [hl]
    exact ⟨⟨v, rfl, ho⟩, hb⟩
  have HE : Hid (∀ i, i < n → ∃ b off p, A = some ⟨b, off, none⟩ ∧ b < w.heap.size ∧ ps.getD i p0 = p ∧ PrOk p ∧ w.rangeAt b (off + i * 4) (prC p)) := fun i hi => by
    obtain ⟨b, off, p, q1, q2, q3, q4, q5⟩ := pr_row hy hl hi
    exact ⟨b, off, p, q1, q2, q3, hok p q4, q5⟩
  obtain ⟨J, hJ⟩ : ∃ J, RPairsPost ps w = J := ⟨_, rfl⟩
  rw [hJ] at HP ⊢
  have HT := Lib.hid hT
  have HW1 := Lib.hid hW1
  have Hz1 := Lib.hid hz1
  clear hW1 hJ hT hy hl hok hrow hz1
  go_enter Tryd.func22, Tryd.ntmps22
  go_wp2_with fail
  rw [HW1.out]
  go_loopg [3, 4] n (fun g s3 s4 wr => ∃ i : Nat, i + g = n ∧ s4 = .int .i64 i ∧ OwnS wr W1.heap.size s3 (linesP ps i) ∧ Below W1.heap.size W1 wr)
  case atStart => exact ⟨0, by omega, rfl, ownS_nil _ _, Below.refl _ _⟩
  case round =>
    obtain ⟨i, hig, rfl, ho, hbr⟩ := hrel
    have Hig := Lib.hid hig
    have Ho := Lib.hid ho
    have hin : i ≤ n := by omega
    have y0 := Hc.out _ hbr
    clear hig ho
    by_cases hlt : i < n
    · obtain ⟨b, off, p, rfl, hb, hge, hpk, hrg⟩ := HE.out i hlt
      have HC : Hid (∀ w', Below wr.heap.size wr w' → w'.cell? ⟨w.heap.size, 0, none⟩ = some (.slice (some ⟨b, off, none⟩) n c) ∧ w'.cell? ⟨b, off + i * 4, none⟩ = some (.string p.1) ∧ w'.rangeAt b (off + i * 4 + 1) [.int .i64 p.2.k, .float .f64 p.2.x, .string p.2.s]) := fun w' hb' => by
        have hbw := bstep hbr hb'
        exact ⟨Hc.out _ hbw, fpair_range (range_below hrg (hb1.trans (hbw.mono (by have := Hz1.out; omega))) hb)⟩
      have Hls : Hid (linesP ps (i + 1) = linesP ps i ++ [pairL p]) := by
        unfold Hid
        rw [linesP_succ, hge]
      have hpl := pairL_len (p := p) hpk.key
      obtain ⟨key, ⟨vk, vx, vs⟩⟩ := p
      dsimp only at HC
      have hk2 : key.size ≤ 2000 := hpk.key
      have hHx : Hid (∀ w', Calls Tryd.prog 48 #[.string key] w' fun e w'' => e = .returned (.string ⟨(hexT key.data.toList).toArray⟩) ∧ Below w'.heap.size w' w'') := fun w' => RHex_any key w' hk2
      have hVl : Hid (∀ w', Below wr.heap.size wr w' → Calls Tryd.prog 49 #[.agg #[.int .i64 vk, .float .f64 vx, .string vs]] w' fun e w'' => e = .returned (.string ⟨(valT ⟨vk, vx, vs⟩).toArray⟩) ∧ Below w'.heap.size w' w'') := fun w' h =>
        valued_any ⟨vk, vx, vs⟩ w' hpk.num hpk.txt (HT.out.below (hb1.trans ((bstep hbr h).mono (by have := Hz1.out; omega))))
      have Hap : Hid (((⟨#[107]⟩ ++ ⟨(hexT key.data.toList).toArray⟩) ++ ⟨#[32]⟩) ++ ⟨(valT ⟨vk, vx, vs⟩).toArray⟩ = (⟨(pairL (key, ⟨vk, vx, vs⟩)).toArray⟩ : ByteArray)) := pair_app _ _
      have hkz : (⟨(hexT key.data.toList).toArray⟩ : ByteArray).size ≤ 4000 := by
        show (hexT key.data.toList).toArray.size ≤ 4000
        rw [List.size_toArray, hexT_len]
        have : key.data.toList.length = key.size := Array.length_toList
        omega
      have hvz : (⟨(valT ⟨vk, vx, vs⟩).toArray⟩ : ByteArray).size ≤ 100 := by
        show (valT ⟨vk, vx, vs⟩).toArray.size ≤ 100
        rw [List.size_toArray]
        exact valT_len _
      obtain ⟨KB, hKB⟩ : ∃ KB, (⟨(hexT key.data.toList).toArray⟩ : ByteArray) = KB := ⟨_, rfl⟩
      obtain ⟨VB, hVB⟩ : ∃ VB, (⟨(valT ⟨vk, vx, vs⟩).toArray⟩ : ByteArray) = VB := ⟨_, rfl⟩
      obtain ⟨pl, hpl2⟩ : ∃ pl, pairL (key, ⟨vk, vx, vs⟩) = pl := ⟨_, rfl⟩
      rw [hKB] at hHx Hap hkz
      rw [hVB] at hVl Hap hvz
      rw [hpl2] at Hap Hls
      have m1 : ¬ 9223372036854775807 < 1 + KB.size := by omega
      have m2 : ¬ 9223372036854775807 < 1 + KB.size + 1 := by omega
      have m3 : ¬ 9223372036854775807 < 1 + KB.size + 1 + VB.size := by omega
      have i0 : (0 : Int) ≤ (i : Int) := by omega
      have i1 : (i : Int) < (n : Int) := by omega
      have hll : (linesP ps i).length ≤ 100000 := by rw [linesP_len]; omega
      have Hll := Lib.hid hll
      clear hrg hge hpl hpk hKB hVB hpl2 hll HE
      go_wp2_with fail
      with_reducible refine wp_region_app 19 rfl (by kernel_rfl) (by kernel_rfl) (by kernel_rfl) (by kernel_rfl) [.val (u3),
      .val (.pointer (some ⟨w.heap.size, 0, none⟩)),
      .val (.slice (some ⟨b, off, none⟩) n c),
      .val (.int .i64 (i : Int)),
      .val (.pointer (some ⟨b, off + i * 4, none⟩)),
      .val (.pointer (some ⟨b, off + i * 4, none⟩)),
      .val (.string key),
      .val (.string KB),
      .val (.string (⟨#[107]⟩ ++ KB)),
      .val (.string ((⟨#[107]⟩ ++ KB) ++ ⟨#[32]⟩)),
      .val (.pointer (some ⟨w.heap.size, 0, none⟩)),
      .val (.slice (some ⟨b, off, none⟩) n c),
      .val (.int .i64 (i : Int)),
      .val (.pointer (some ⟨b, off + i * 4, none⟩)),
      .val (.pointer (some ⟨b, off + i * 4 + 1, none⟩)),
      .val (.agg #[.int .i64 vk, .float .f64 vx, .string vs]),
      .val (.string VB),
      .val (.string (((⟨#[107]⟩ ++ KB) ++ ⟨#[32]⟩) ++ VB)),
      .rd (1) ([.string (((⟨#[107]⟩ ++ KB) ++ ⟨#[32]⟩) ++ VB)])] (fun v w => OwnS w W1.heap.size v (linesP ps (i + 1)) ∧ Below W1.heap.size W1 w) ?mk (fun f => ?hmk) ?f0 ?h0 ?hput ?hstep ?happ ?hasg ?hend
      case hmk =>
        simp only [putOps, Act.put, List.setIfInBounds_toArray, List.set_cons_succ, List.set_cons_zero, Nat.zero_add, Nat.reduceAdd]
        rfl
      case f0 => exact fun k => ([u12, u13, u14, u15, u16, u17, u18, u19, u20, u21, u22, u23, u24, u25, u26, u27, u28, u29, u30, u31, u3] : List Value).getD k undef
      case h0 => exact rfl
      case hput =>
        repeat (refine ⟨fun f v => rfl, ?_⟩)
        exact trivial
      case hstep =>
        refine ⟨fun _ f w1 hb1 hu hd => ?_, ?_⟩
        · have qu : f 20 = u3 := hu
          clear hu
          clear hd
          go_wp2_with fail
          exact ⟨_, by first | rfl | simp only [qu, Act.put, List.setIfInBounds_toArray, List.set_cons_succ, List.set_cons_zero], Below.refl _ _, rfl⟩
        refine ⟨fun _ f w1 hb1 hu hd => ?_, ?_⟩
        · have qu : f 20 = u3 := hu
          clear hu
          clear hd
          go_wp2_with fail
          exact ⟨_, by first | rfl | simp only [qu, Act.put, List.setIfInBounds_toArray, List.set_cons_succ, List.set_cons_zero], Below.refl _ _, rfl⟩
        refine ⟨fun _ f w1 hb1 hu hd => ?_, ?_⟩
        · have qu : f 20 = u3 := hu
          clear hu
          obtain ⟨d0, -⟩ := hd
          have q1 : f 1 = .pointer (some ⟨w.heap.size, 0, none⟩) := d0
          clear d0
          obtain ⟨y1, y2, y3⟩ := HC.out w1 hb1
          have Y3 := Lib.hid y3
          clear y3
          go_wp2_with fail
          exact ⟨_, by first | rfl | simp only [qu, q1, Act.put, List.setIfInBounds_toArray, List.set_cons_succ, List.set_cons_zero], Below.refl _ _, rfl⟩
        refine ⟨fun _ f w1 hb1 hu hd => ?_, ?_⟩
        · have qu : f 20 = u3 := hu
          clear hu
          clear hd
          go_wp2_with fail
          exact ⟨_, by first | rfl | simp only [qu, Act.put, List.setIfInBounds_toArray, List.set_cons_succ, List.set_cons_zero], Below.refl _ _, rfl⟩
        refine ⟨fun _ f w1 hb1 hu hd => ?_, ?_⟩
        · have qu : f 20 = u3 := hu
          clear hu
          obtain ⟨d0, d1, -⟩ := hd
          have q2 : f 2 = .slice (some ⟨b, off, none⟩) n c := d0
          have q3 : f 3 = .int .i64 (i : Int) := d1
          clear d0 d1
          go_wp2_with fail
          exact ⟨_, by first | rfl | simp only [qu, q2, q3, Act.put, List.setIfInBounds_toArray, List.set_cons_succ, List.set_cons_zero], Below.refl _ _, rfl⟩
        refine ⟨fun _ f w1 hb1 hu hd => ?_, ?_⟩
        · have qu : f 20 = u3 := hu
          clear hu
          obtain ⟨d0, -⟩ := hd
          have q4 : f 4 = .pointer (some ⟨b, off + i * 4, none⟩) := d0
          clear d0
          go_wp2_with fail
          exact ⟨_, by first | rfl | simp only [qu, q4, Act.put, List.setIfInBounds_toArray, List.set_cons_succ, List.set_cons_zero], Below.refl _ _, rfl⟩
        refine ⟨fun _ f w1 hb1 hu hd => ?_, ?_⟩
        · have qu : f 20 = u3 := hu
          clear hu
          obtain ⟨d0, -⟩ := hd
          have q5 : f 5 = .pointer (some ⟨b, off + i * 4, none⟩) := d0
          clear d0
          obtain ⟨y1, y2, y3⟩ := HC.out w1 hb1
          have Y3 := Lib.hid y3
          clear y3
          go_wp2_with fail
          exact ⟨_, by first | rfl | simp only [qu, q5, Act.put, List.setIfInBounds_toArray, List.set_cons_succ, List.set_cons_zero], Below.refl _ _, rfl⟩
        refine ⟨fun _ f w1 hb1 hu hd => ?_, ?_⟩
        · have qu : f 20 = u3 := hu
          clear hu
          obtain ⟨d0, -⟩ := hd
          have q6 : f 6 = .string key := d0
          clear d0
          go_wp2_with (with_reducible refine (hHx.out _).mono ?_; rintro e w2 ⟨rfl, hb2⟩)
          exact ⟨_, by first | rfl | simp only [qu, q6, Act.put, List.setIfInBounds_toArray, List.set_cons_succ, List.set_cons_zero], hb2, rfl⟩
        refine ⟨fun _ f w1 hb1 hu hd => ?_, ?_⟩
        · have qu : f 20 = u3 := hu
          clear hu
          obtain ⟨d0, -⟩ := hd
          have q7 : f 7 = .string KB := d0
          clear d0
          go_wp2_with fail
          exact ⟨_, by first | rfl | simp only [qu, q7, Act.put, List.setIfInBounds_toArray, List.set_cons_succ, List.set_cons_zero], Below.refl _ _, rfl⟩
        refine ⟨fun _ f w1 hb1 hu hd => ?_, ?_⟩
        · have qu : f 20 = u3 := hu
          clear hu
          obtain ⟨d0, -⟩ := hd
          have q8 : f 8 = .string (⟨#[107]⟩ ++ KB) := d0
          clear d0
          go_wp2_with fail
          exact ⟨_, by first | rfl | simp only [qu, q8, Act.put, List.setIfInBounds_toArray, List.set_cons_succ, List.set_cons_zero], Below.refl _ _, rfl⟩
        refine ⟨fun _ f w1 hb1 hu hd => ?_, ?_⟩
        · have qu : f 20 = u3 := hu
          clear hu
          clear hd
          go_wp2_with fail
          exact ⟨_, by first | rfl | simp only [qu, Act.put, List.setIfInBounds_toArray, List.set_cons_succ, List.set_cons_zero], Below.refl _ _, rfl⟩
        refine ⟨fun _ f w1 hb1 hu hd => ?_, ?_⟩
        · have qu : f 20 = u3 := hu
          clear hu
          obtain ⟨d0, -⟩ := hd
          have q10 : f 10 = .pointer (some ⟨w.heap.size, 0, none⟩) := d0
          clear d0
          obtain ⟨y1, y2, y3⟩ := HC.out w1 hb1
          have Y3 := Lib.hid y3
          clear y3
          go_wp2_with fail
          exact ⟨_, by first | rfl | simp only [qu, q10, Act.put, List.setIfInBounds_toArray, List.set_cons_succ, List.set_cons_zero], Below.refl _ _, rfl⟩
        refine ⟨fun _ f w1 hb1 hu hd => ?_, ?_⟩
        · have qu : f 20 = u3 := hu
          clear hu
          clear hd
          go_wp2_with fail
          exact ⟨_, by first | rfl | simp only [qu, Act.put, List.setIfInBounds_toArray, List.set_cons_succ, List.set_cons_zero], Below.refl _ _, rfl⟩
        refine ⟨fun _ f w1 hb1 hu hd => ?_, ?_⟩
        · have qu : f 20 = u3 := hu
          clear hu
          obtain ⟨d0, d1, -⟩ := hd
          have q11 : f 11 = .slice (some ⟨b, off, none⟩) n c := d0
          have q12 : f 12 = .int .i64 (i : Int) := d1
          clear d0 d1
          go_wp2_with fail
          exact ⟨_, by first | rfl | simp only [qu, q11, q12, Act.put, List.setIfInBounds_toArray, List.set_cons_succ, List.set_cons_zero], Below.refl _ _, rfl⟩
        refine ⟨fun _ f w1 hb1 hu hd => ?_, ?_⟩
        · have qu : f 20 = u3 := hu
          clear hu
          obtain ⟨d0, -⟩ := hd
          have q13 : f 13 = .pointer (some ⟨b, off + i * 4, none⟩) := d0
          clear d0
          go_wp2_with fail
          exact ⟨_, by first | rfl | simp only [qu, q13, Act.put, List.setIfInBounds_toArray, List.set_cons_succ, List.set_cons_zero], Below.refl _ _, rfl⟩
        refine ⟨fun _ f w1 hb1 hu hd => ?_, ?_⟩
        · have qu : f 20 = u3 := hu
          clear hu
          obtain ⟨d0, -⟩ := hd
          have q14 : f 14 = .pointer (some ⟨b, off + i * 4 + 1, none⟩) := d0
          clear d0
          obtain ⟨y1, y2, y3⟩ := HC.out w1 hb1
          have Y3 := Lib.hid y3
          clear y3
          rw [q14]
          go_wp2_with (refine Go.wpList_load_mid rfl 56 (.tmp 26) rfl b (off + i * 4 + 1) rfl [.int .i64 vk, .float .f64 vx, .string vs] _ Y3.out Tryd.underlying56 rfl size3v ?_)
          exact ⟨_, by first | rfl | simp only [qu, q14, Act.put, List.setIfInBounds_toArray, List.set_cons_succ, List.set_cons_zero], Below.refl _ _, rfl⟩
        refine ⟨fun _ f w1 hb1 hu hd => ?_, ?_⟩
        · have qu : f 20 = u3 := hu
          clear hu
          obtain ⟨d0, d1, -⟩ := hd
          have q15 : f 15 = .agg #[.int .i64 vk, .float .f64 vx, .string vs] := d0
          have q7 : f 7 = .string KB := d1
          clear d0 d1
          have HV := Lib.hid (hVl.out w1 hb1)
          go_wp2_with (with_reducible refine HV.out.mono ?_; rintro e w2 ⟨rfl, hb2⟩)
          exact ⟨_, by first | rfl | simp only [qu, q7, q15, Act.put, List.setIfInBounds_toArray, List.set_cons_succ, List.set_cons_zero], hb2, rfl⟩
        refine ⟨fun _ f w1 hb1 hu hd => ?_, ?_⟩
        · have qu : f 20 = u3 := hu
          clear hu
          obtain ⟨d0, d1, -⟩ := hd
          have q9 : f 9 = .string ((⟨#[107]⟩ ++ KB) ++ ⟨#[32]⟩) := d0
          have q16 : f 16 = .string VB := d1
          clear d0 d1
          go_wp2_with fail
          exact ⟨_, by first | rfl | simp only [qu, q9, q16, Act.put, List.setIfInBounds_toArray, List.set_cons_succ, List.set_cons_zero], Below.refl _ _, rfl⟩
        refine ⟨fun _ f w1 hb1 hu hd => ?_, ?_⟩
        · have qu : f 20 = u3 := hu
          clear hu
          obtain ⟨d0, -⟩ := hd
          have q17 : f 17 = .string (((⟨#[107]⟩ ++ KB) ++ ⟨#[32]⟩) ++ VB) := d0
          clear d0
          go_wp2_with fail
          exact ⟨_, by first | rfl | simp only [qu, q17, Act.put, List.setIfInBounds_toArray, List.set_cons_succ, List.set_cons_zero], alloc_below _ _, sp_lits w1 [.string (((⟨#[107]⟩ ++ KB) ++ ⟨#[32]⟩) ++ VB)] 9 (by simp)⟩
        refine ⟨fun h => absurd h (by decide), ?_⟩
        refine ⟨fun h => absurd h (by decide), ?_⟩
        exact trivial
      case happ =>
        refine ⟨fun h => absurd h (by decide), ?_⟩
        refine ⟨fun h => absurd h (by decide), ?_⟩
        refine ⟨fun h => absurd h (by decide), ?_⟩
        refine ⟨fun h => absurd h (by decide), ?_⟩
        refine ⟨fun h => absurd h (by decide), ?_⟩
        refine ⟨fun h => absurd h (by decide), ?_⟩
        refine ⟨fun h => absurd h (by decide), ?_⟩
        refine ⟨fun h => absurd h (by decide), ?_⟩
        refine ⟨fun h => absurd h (by decide), ?_⟩
        refine ⟨fun h => absurd h (by decide), ?_⟩
        refine ⟨fun h => absurd h (by decide), ?_⟩
        refine ⟨fun h => absurd h (by decide), ?_⟩
        refine ⟨fun h => absurd h (by decide), ?_⟩
        refine ⟨fun h => absurd h (by decide), ?_⟩
        refine ⟨fun h => absurd h (by decide), ?_⟩
        refine ⟨fun h => absurd h (by decide), ?_⟩
        refine ⟨fun h => absurd h (by decide), ?_⟩
        refine ⟨fun h => absurd h (by decide), ?_⟩
        refine ⟨fun h => absurd h (by decide), ?_⟩
        refine ⟨fun _ f w1 hb1 hu hd => ?_, ?_⟩
        · have qu : f 20 = u3 := hu
          clear hu
          have q0 : f 0 = u3 := hd 0 (by decide)
          obtain ⟨A18, c18, q18, r18⟩ := hd 18 (by decide)
          have hbw := bstep hbr hb1
          have Hbw := Lib.hid hbw
          have Hob : Hid (OwnS w1 W1.heap.size u3 (linesP ps i)) := own_below Ho.out hb1
          have HR : Hid (Rd w1 w1.heap.size 1 A18 1 c18 [sV pl]) := by
            rw [Hap.out] at r18
            exact r18
          clear r18
          rw [q0, q18]
          go_wp2_with (
            (at_builtin
             refine wpList_appSA rfl (.tmp 12) (.tmp 30) rfl W1.heap.size u3 _ rfl Hob.out w1.heap.size A18 c18 _ rfl HR.out Hll.out Hbw.out.size ?_
             intro v4 w4 ho4 hg4 ha4))
          exact ⟨_, by first | rfl | simp only [qu, q0, q18, Act.put, List.setIfInBounds_toArray, List.set_cons_succ, List.set_cons_zero], by rw [Hls.out]; exact ho4, hbw.grown hg4 hbw.size (fun q hq => (World.ownsRow.lt Hob.out q hq).1)⟩
        refine ⟨fun h => absurd h (by decide), ?_⟩
        exact trivial
      case hasg =>
        refine ⟨fun h => absurd h (by decide), ?_⟩
        refine ⟨fun h => absurd h (by decide), ?_⟩
        refine ⟨fun h => absurd h (by decide), ?_⟩
        refine ⟨fun h => absurd h (by decide), ?_⟩
        refine ⟨fun h => absurd h (by decide), ?_⟩
        refine ⟨fun h => absurd h (by decide), ?_⟩
        refine ⟨fun h => absurd h (by decide), ?_⟩
        refine ⟨fun h => absurd h (by decide), ?_⟩
        refine ⟨fun h => absurd h (by decide), ?_⟩
        refine ⟨fun h => absurd h (by decide), ?_⟩
        refine ⟨fun h => absurd h (by decide), ?_⟩
        refine ⟨fun h => absurd h (by decide), ?_⟩
        refine ⟨fun h => absurd h (by decide), ?_⟩
        refine ⟨fun h => absurd h (by decide), ?_⟩
        refine ⟨fun h => absurd h (by decide), ?_⟩
        refine ⟨fun h => absurd h (by decide), ?_⟩
        refine ⟨fun h => absurd h (by decide), ?_⟩
        refine ⟨fun h => absurd h (by decide), ?_⟩
        refine ⟨fun h => absurd h (by decide), ?_⟩
        refine ⟨fun h => absurd h (by decide), ?_⟩
        refine ⟨fun _ f w1 => ?_, ?_⟩
        · go_wp2_with fail
          exact ⟨rfl, rfl⟩
        exact trivial
      case hend =>
        intro f w1 hv he
        have hv1 := hv.1
        have hv2 := hv.2
        have hfe : f 20 = f 19 := he
        obtain ⟨u, hu⟩ : ∃ u, f 19 = u := ⟨_, rfl⟩
        rw [hu] at hv1 hfe
        have Hv1 := Lib.hid hv1
        clear hv hv1 he
        go_wp2_with fail
        go_roundg (gk - 1)
        case rel => exact ⟨i + 1, by have := Hig.out; omega, by go_num, (by rw [hfe]; exact Hv1.out), hv2⟩
        case measure => have := Hig.out; omega
    · obtain rfl : i = n := by omega
      go_wp2_with fail
      exact HP.out _ _ (own_base Ho.out (by have := Hz1.out; omega)) (hb1.trans (hbr.mono (by have := Hz1.out; omega)))
end Go.Proofs.YtkckncggiicciaaDoor
