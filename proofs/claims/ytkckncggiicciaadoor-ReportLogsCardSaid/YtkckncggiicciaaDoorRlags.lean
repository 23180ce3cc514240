/-
  The walk of report.Lags.
-/
import Derived.Test.YtkckncggiicciaaDoorRow
import Derived.Lib.ItoaLen
namespace Go.Proofs.YtkckncggiicciaaDoor
open Go.RowKit
set_option maxRecDepth 100000
def okC (cs : List Int) : Bool := cs.all fun c => decide (-1099511627776 ≤ c) && decide (c ≤ 1099511627776)
def topL (c0 : Int) (cs : List Int) : Int := cs.foldl max c0
theorem topL_snoc (c0 : Int) (cs : List Int) (c : Int) : topL c0 (cs ++ [c]) = max (topL c0 cs) c := by simp [topL]
/-- A lag's line. -/
def lineL (id lag : Int) : List UInt8 := wordsL [[108, 97, 103], Lib.itoa id, Lib.itoa lag]
def linesL (ids : List Int) (ks : List Nat) : List (List UInt8) := List.zipWith (fun id (k : Nat) => lineL id (k : Int)) ids ks
theorem lineL_len (id lag : Int) (h1 : In64 id) (h2 : In64 lag) : (lineL id lag).length ≤ 1000 := by
  have q1 := Lib.itoa_length_le id h1.1 h1.2
  have q2 := Lib.itoa_length_le lag h2.1 h2.2
  unfold lineL wordsL
  rw [Lib.join_cons]
  simp [Lib.joinTail]
  omega
theorem rd_three (w : World) (u v x : Value) (e : TypeId) : Rd (w.alloc (.cells #[u, v, x] e)) (w.heap.size + 1) 1 (some ⟨w.heap.size, 0, none⟩) 3 3 [u, v, x] := by
  refine ⟨rfl, Nat.le_refl _, by decide, fun _ => ⟨w.heap.size, 0, rfl, by omega, fun j y hy => ?_⟩⟩
  rw [Nat.zero_add, cell_of_row _ _ _ _ _ _ (heap_alloc_new w _)]
  simpa using hy
theorem words3 (a b c : List UInt8) (w : World) (hl : (wordsL [a, b, c]).length ≤ 1000) :
    Calls Tryd.prog 30 #[.slice (some ⟨w.heap.size, 0, none⟩) 3 3] (w.alloc (.cells #[sV a, sV b, sV c] 9)) fun e w' => e = .returned (sV (wordsL [a, b, c])) ∧ Below w.heap.size w w' := by
  have hr := rd_three w (sV a) (sV b) (sV c) 9
  have := words_any _ 3 3 [a, b, c] (w.alloc (.cells #[sV a, sV b, sV c] 9)) (by omega) (by
    have e : (w.alloc (.cells #[sV a, sV b, sV c] 9)).heap.size = w.heap.size + 1 := by simp
    rw [e]
    exact hr) (by omega) (by omega)
  exact this.mono fun _ _ ⟨h1, h2⟩ => ⟨h1, (((Below.refl _ _).alloc (Nat.le_refl _) _).trans (h2.mono (by simp)))⟩
/-- The local that a struct is copied into. -/
theorem wpList_store_local {P : Program} {w : World} {ops : Array Oper} {rest : List Oper} {o : Oper} {a : Act} {Q : Exit → Act → World → Prop} {z : Array Value} {t : TypeId} (hgd : o.guard = none) (ty : TypeId) (p y : Operand) (ho : o.op = .store ty p y)
    (x : List Value) (hx : a.eval p = .pointer (some ⟨w.heap.size, 0, none⟩)) (hy : a.eval y = .agg x.toArray) (hi : (P.info? ty).map (·.size) = some x.length) (hz : z.size = x.length) (h1 : ∀ v ∈ x, v.oneCell' = true)
    (h : ∀ w5, w5.heap[w.heap.size]? = some (.cells x.toArray t (0, 0)) → Below w.heap.size w w5 → w5.heap.size = w.heap.size + 1 → wpList P ops Q rest (a.put o.dst undef) w5) :
    wpList P ops Q (o :: rest) a (w.alloc (.cells z t (0, 0))) :=
  wpList_store_row hgd ty p y ho w.heap.size x.toArray hx hy t z (heap_alloc_new w _) (by rw [List.size_toArray]; exact hi) (by rw [List.size_toArray]; exact hz) (all_one h1)
    (h _ (setRow_heap _ _ _ _ _ _ (heap_alloc_new w _)) (below_setRow ((Below.refl _ _).alloc (Nat.le_refl _) _) (Nat.le_refl _) _) (by simp))
theorem okC_snoc (cs : List Int) (c : Int) (h : okC cs = true) (h1 : -1099511627776 ≤ c ∧ c ≤ 1099511627776) : okC (cs ++ [c]) = true := by
  unfold okC at *
  rw [List.all_append, h]
  simp
  exact h1
theorem okC_no {cs : List Int} {c : Int} (hm : c ∈ cs) (h : ¬ (-1099511627776 ≤ c ∧ c ≤ 1099511627776)) : okC cs = false := by
  unfold okC
  rw [List.all_eq_false]
  exact ⟨c, hm, by simpa using h⟩
theorem okC_at {cs : List Int} {c : Int} (h : okC cs = true) (hm : c ∈ cs) : -1099511627776 ≤ c ∧ c ≤ 1099511627776 := by
  unfold okC at h
  have := List.all_eq_true.1 h c hm
  simpa using this
theorem topL_mem (c0 : Int) (cs : List Int) : topL c0 cs = c0 ∨ topL c0 cs ∈ cs := by
  rw [← List.reverse_reverse cs]
  induction cs.reverse with
  | nil => exact .inl rfl
  | cons c r ih =>
    rw [List.reverse_cons, topL_snoc]
    rcases Int.le_total (topL c0 r.reverse) c with h | h
    · exact .inr (by rw [Int.max_eq_right h]; simp)
    · rw [Int.max_eq_left h]
      rcases ih with ih | ih
      · exact .inl ih
      · exact .inr (by simp at ih ⊢; exact .inl ih)
theorem linesL_snoc (ids : List Int) (ks : List Nat) (id : Int) (k : Nat) (h : ids.length = ks.length) : linesL (ids ++ [id]) (ks ++ [k]) = linesL ids ks ++ [lineL id (k : Int)] := by
  unfold linesL
  rw [List.zipWith_append h]
  rfl
theorem linesL_len (ids : List Int) (ks : List Nat) (h : ids.length = ks.length) : (linesL ids ks).length = ks.length := by
  unfold linesL
  rw [List.length_zipWith, h]
  omega
def LagsPost (ids cs : List Int) (ks : List Nat) (w : World) (e : Ending) (w' : World) : Prop :=
  (if okC cs = true then ∃ v, e = .returned (.tuple #[v, .float .f64 (meanV (ks.map fi))]) ∧ OwnS w' w.heap.size v (linesL ids ks)
    else e = .returned (.tuple #[.slice none 0 0, .float .f64 (meanV [])])) ∧ Below w.heap.size w w'
theorem meanNil_any (w : World) : Calls Tryd.prog 29 #[.slice none 0 0] w (Qt w (.float .f64 (meanV []))) := Mean_any none 0 0 0 [] w (Rd.nil _ _ _)
set_option maxHeartbeats 6400000 in
theorem RLags_any (A : Option Addr) (n cap : Nat) (xss : List (List Value)) (ids cs : List Int) (ks : List Nat) (w : World) (hy : Rd w w.heap.size 40 A n cap xss.flatten) (hx : xss.length = n) (hi : ids.length = n) (hc : cs.length = n) (hk : ks.length = n)
    (hok : ∀ (i : Nat) x, xss[i]? = some x → ∃ id c, ids[i]? = some id ∧ cs[i]? = some c ∧ RfOk x id c) (hid : ∀ id ∈ ids, In64 id) (hc64 : ∀ c ∈ cs, In64 c)
    (hks : okC cs = true → ∀ (i : Nat) c, cs[i]? = some c → ∃ k : Nat, ks[i]? = some k ∧ (k : Int) = topL (cs.headD 0) cs - c) (hn : n ≤ 1000) (hI : ItAt w) :
    Calls Tryd.prog 7 #[.slice A n cap] w (LagsPost ids cs ks w) := by
  rcases Nat.eq_zero_or_pos n with h0 | hpos
  · subst h0
    obtain rfl : cs = [] := List.eq_nil_of_length_eq_zero hc
    obtain rfl : ids = [] := List.eq_nil_of_length_eq_zero hi
    obtain rfl : ks = [] := List.eq_nil_of_length_eq_zero hk
    have HP : Hid (∀ k, LagsPost [] [] [] w (.returned (.tuple #[.slice none 0 0, .float .f64 (meanV [])])) (w.drewN k)) := fun k => by
      unfold LagsPost
      rw [if_pos (show okC [] = true from rfl)]
      exact ⟨⟨_, rfl, ownS_nil _ _⟩, below_drewN (Below.refl _ _) _⟩
    have HM : Hid (∀ w, Calls Tryd.prog 29 #[.slice none 0 0] w (Qt w (.float .f64 (meanV [])))) := fun w => meanNil_any w
    unfold Qt at HM
    obtain ⟨M, hM⟩ : ∃ M, meanV [] = M := ⟨_, rfl⟩
    rw [hM] at HM HP
    clear hy hx hi hc hk hok hid hks hI hc64 hn hM
    go_enter Tryd.func7, Tryd.ntmps7
    go_wp2_with (refine (HM.out _).mono ?_; rintro e w1 ⟨rfl, k, rfl⟩)
    go_ret2
    exact HP.out _
  obtain ⟨c0, hc0⟩ : ∃ c0, cs.headD 0 = c0 := ⟨_, rfl⟩
  have hcs0 : cs[0]? = some c0 := by
    cases cs with
    | nil => simp at hc; omega
    | cons a r => simp at hc0 ⊢; exact hc0
  rw [hc0] at hks
  have Hc0 := Lib.hid (List.mem_of_getElem? hcs0)
  have hl40 : ∀ x ∈ xss, x.length = 40 := fun x hx' => by
    obtain ⟨i, hi', rfl⟩ := List.mem_iff_getElem.1 hx'
    obtain ⟨id, c, _, _, h⟩ := hok i _ (List.getElem?_eq_getElem hi')
    exact h.len
  -- the k-th replica, in a world that came of this
  have HE : Hid (∀ i, i < n → ∃ b off x id c, A = some ⟨b, off, none⟩ ∧ b < w.heap.size ∧ RfOk x id c ∧ In64 id ∧ In64 c ∧ ids[i]? = some id ∧ cs[i]? = some c ∧ w.rangeAt b (off + i * 40) x) := fun i hin => by
    obtain ⟨b, off, x, h1, h2, h3, h4, h5⟩ := rd_row hy hl40 hx hin
    obtain ⟨id, c, q1, q2, q3⟩ := hok i x h3
    exact ⟨b, off, x, id, c, h1, h2, q3, hid id (List.mem_of_getElem? q1), hc64 c (List.mem_of_getElem? q2), q1, q2, h5⟩
  have HNo : Hid (okC cs = false → ∀ w', Below w.heap.size w w' → LagsPost ids cs ks w (.returned (.tuple #[.slice none 0 0, .float .f64 (meanV [])])) w') := fun h w' hb => by
    unfold LagsPost
    rw [if_neg (by rw [h]; decide)]
    exact ⟨rfl, hb⟩
  have HYes : Hid (okC cs = true → ∀ w' v, OwnS w' w.heap.size v (linesL ids ks) → Below w.heap.size w w' → LagsPost ids cs ks w (.returned (.tuple #[v, .float .f64 (meanV (ks.map fi))])) w') := fun h w' v ho hb => by
    unfold LagsPost
    rw [if_pos h]
    exact ⟨⟨v, rfl, ho⟩, hb⟩
  obtain ⟨J, hJ⟩ : ∃ J, LagsPost ids cs ks w = J := ⟨_, rfl⟩
  rw [hJ] at HNo HYes ⊢
  have HM : Hid (∀ w, Calls Tryd.prog 29 #[.slice none 0 0] w (Qt w (.float .f64 (meanV [])))) := fun w => meanNil_any w
  unfold Qt at HM
  obtain ⟨M, hM⟩ : ∃ M, meanV [] = M := ⟨_, rfl⟩
  rw [hM] at HM HNo
  have HI := Lib.hid hI
  have Hks := Lib.hid hks
  have Hlk := Lib.hid hk
  have Hli := Lib.hid hi
  have Hlc := Lib.hid hc
  have hz : ((n : Int) == 0) = false := by simp; omega
  obtain ⟨b, off, x, id, c, rfl, hb, hrf, _, h64, _, hce, hrg⟩ := HE.out 0 hpos
  obtain rfl : c = c0 := by rw [hcs0] at hce; injection hce with hce; exact hce.symm
  have HN : Hid (∀ v w', In64 v → Below w.heap.size w w' → Calls Tryd.prog 31 #[.int .i64 v] w' fun e w'' => e = .returned (.string ⟨(Lib.itoa v).toArray⟩) ∧ Below w'.heap.size w' w'') := fun v w' hv hb => rn_any v w' hv (HI.out.below hb)
  have hcap : n ≤ cap := hy.2.1
  have hc11 : w.cell? ⟨b, off + 11, none⟩ = some (.int .i64 c) := by
    have := hrg 11 _ hrf.commit
    rwa [Nat.zero_mul, Nat.add_zero] at this
  clear hJ hM hI hks hk hi hc hrg hrf hce hok hid hx hy hl40 hcs0 hc0 hc64 h64
  go_enter Tryd.func7, Tryd.ntmps7
  go_wp2_with fail
  go_loopg [6, 8, 22] n (fun g s6 s8 s22 wr => ∃ i : Nat, i + g = n ∧ s22 = .int .i64 i ∧ s6 = .int .i64 (topL c (cs.take i)) ∧ okC (cs.take i) = true ∧ Below w.heap.size w wr)
  case atStart => exact ⟨0, by omega, rfl, rfl, rfl, Below.refl _ _⟩
  case round =>
    obtain ⟨i, hig, rfl, rfl, hokc, hbr⟩ := hrel
    have Hig := Lib.hid hig
    have Hokc := Lib.hid hokc
    have hin : i ≤ n := by omega
    clear hig hokc
    by_cases hlt : i < n
    · obtain ⟨b', off', x, id, ci, he, hb', hrf, h64i, h64, hide, hce, hrg⟩ := HE.out i hlt
      injection he with he
      injection he with e1 e2 _
      subst e1 e2
      have hrg' := range_below hrg hbr hb
      have hsz : (Tryd.prog.info? 33).map (·.size) = some x.length := by rw [hrf.len]; exact size40
      have Htk : Hid (cs.take (i + 1) = cs.take i ++ [ci]) := by
        unfold Hid
        rw [List.take_add_one, hce]
        rfl
      obtain ⟨tp, htp⟩ : ∃ tp, topL c (cs.take i) = tp := ⟨_, rfl⟩
      have Htp : Hid (topL c (cs.take (i + 1)) = max tp ci) := by
        unfold Hid
        rw [Htk.out, topL_snoc, htp]
      rw [htp]
      have Hrf := Lib.hid hrf
      have Hrg := Lib.hid hrg'
      have Hsz := Lib.hid hsz
      have hx11 : x[11]? = some (.int .i64 ci) := hrf.commit
      have Hmem : Hid (ci ∈ cs) := List.mem_of_getElem? hce
      clear htp hrg hrg' hsz hide hce hrf
      rcases Decidable.em (-1099511627776 ≤ ci ∧ ci ≤ 1099511627776) with hci | hci
      · have Hok2 : Hid (okC (cs.take (i + 1)) = true) := by
          unfold Hid
          rw [Htk.out]
          exact okC_snoc _ _ Hokc.out hci
        obtain ⟨hlo, hhi⟩ := hci
        go_wp2_with (first
          | (refine Go.wpList_load_mid rfl 33 (.tmp 24) rfl b (off + i * 40) rfl x _ Hrg.out Tryd.underlying33 rfl Hsz.out ?_)
          | (refine wpList_store_local rfl 33 (.tmp 8) _ rfl x rfl rfl Hsz.out Hrf.out.len.symm Hrf.out.one ?_
             intro w5 q5 hb5 hz5
             have h11 : w5.cell? ⟨wr.heap.size, 11, none⟩ = some (.int .i64 ci) := cell_list q5 _ _ hx11
             clear q5))
        have hbn := hbr.trans (hb5.mono hbr.size)
        clear h11 hb5 hz5
        go_roundg (gk - 1)
        case rel => exact ⟨i + 1, by have := Hig.out; omega, by go_num, by rw [Htp.out], Hok2.out, hbn⟩
        case measure => have := Hig.out; omega
      · have hno : Hid (okC cs = false) := okC_no Hmem.out hci
        rcases Decidable.em (ci < -1099511627776) with hlo | hlo
        case' inr => have hhi : 1099511627776 < ci := by omega
        all_goals
          clear hci
          go_wp2_with (first
            | (refine Go.wpList_load_mid rfl 33 (.tmp 24) rfl b (off + i * 40) rfl x _ Hrg.out Tryd.underlying33 rfl Hsz.out ?_)
            | (refine wpList_store_local rfl 33 (.tmp 8) _ rfl x rfl rfl Hsz.out Hrf.out.len.symm Hrf.out.one ?_
               intro w5 q5 hb5 hz5
               have h11 : w5.cell? ⟨wr.heap.size, 11, none⟩ = some (.int .i64 ci) := cell_list q5 _ _ hx11
               clear q5)
            | (go_at_call 29; refine (HM.out _).mono ?_; rintro e w6 ⟨rfl, k6, rfl⟩))
          exact HNo.out hno.out _ (below_drewN (hbr.trans (hb5.mono hbr.size)) _)
    · obtain rfl : i = n := by omega
      have hokA : okC cs = true := by
        have := Hokc.out
        rwa [List.take_of_length_le (by rw [Hlc.out]; exact Nat.le_refl _)] at this
      have hall : cs.take i = cs := List.take_of_length_le (by rw [Hlc.out]; exact Nat.le_refl _)
      rw [hall]
      have Hks2 := Lib.hid (Hks.out hokA)
      have HY2 := Lib.hid (HYes.out hokA)
      have Hat : Hid (∀ ci ∈ cs, -1099511627776 ≤ ci ∧ ci ≤ 1099511627776) := fun ci hm => okC_at hokA hm
      have Htb : Hid (topL c cs ∈ cs) := by
        rcases topL_mem c cs with h | h
        · unfold Hid
          rw [h]
          exact Hc0.out
        · exact h
      obtain ⟨T, hT⟩ : ∃ T, topL c cs = T := ⟨_, rfl⟩
      rw [hT] at Hks2 Htb ⊢
      have htb := Hat.out T Htb.out
      obtain ⟨htb1, htb2⟩ := htb
      clear hokA hall Hokc Hks HYes HNo hT Hig hin hlt
      go_wp2_with fail
      go_loopg [4, 5, 10, 11, 42] i (fun g s4 s5 _ _ s42 wr => ∃ j : Nat, j + g = i ∧ s42 = .int .i64 j ∧ OwnS wr w.heap.size s4 (linesL (ids.take j) (ks.take j)) ∧ OwnF wr w.heap.size s5 ((ks.take j).map fi) ∧ Below w.heap.size w wr)
      case atStart => exact ⟨0, by omega, rfl, ownS_nil _ _, ownF_nil _ _, hbr⟩
      case round =>
        clear hbr
        obtain ⟨j, hjg, rfl, ho4, ho5, hbr⟩ := hrel
        have Hjg := Lib.hid hjg
        have hjn : j ≤ i := by omega
        have Ho4 := Lib.hid ho4
        have Ho5 := Lib.hid ho5
        clear hjg ho4 ho5
        by_cases hlt : j < i
        · obtain ⟨b', off', x, id, ci, he, hb', hrf, h64i, h64, hide, hce, hrg⟩ := HE.out j hlt
          injection he with he
          injection he with e1 e2 _
          subst e1 e2
          obtain ⟨k, hke, hkv⟩ := Hks2.out j ci hce
          have hci := Hat.out ci (List.mem_of_getElem? hce)
          obtain ⟨hci1, hci2⟩ := hci
          have hrg' := range_below hrg hbr hb
          have hsz : (Tryd.prog.info? 33).map (·.size) = some x.length := by rw [hrf.len]; exact size40
          have Hti : Hid (ids.take (j + 1) = ids.take j ++ [id]) := by unfold Hid; rw [List.take_add_one, hide]; rfl
          have Htk : Hid (ks.take (j + 1) = ks.take j ++ [k]) := by unfold Hid; rw [List.take_add_one, hke]; rfl
          have Hlen : Hid ((ids.take j).length = (ks.take j).length ∧ (ks.take j).length = j) := by
            have := Hli.out
            have := Hlk.out
            unfold Hid
            rw [List.length_take, List.length_take]
            omega
          have h64k : In64 (k : Int) := by unfold In64; omega
          have Hll := Lib.hid (lineL_len id (k : Int) h64i h64k)
          have Hrf := Lib.hid hrf
          have Hrg := Lib.hid hrg'
          have Hsz := Lib.hid hsz
          have hx11 : x[11]? = some (.int .i64 ci) := hrf.commit
          have hx0 : x[0]? = some (.int .i64 id) := hrf.id
          have hsub : T - ci = (k : Int) := hkv.symm
          have hfi := fi_eq k
          have hkb : (k : Int) ≤ 2199023255552 := by omega
          have hk0 : (0 : Int) ≤ (k : Int) := by omega
          have HN1 : Hid (∀ w', Below w.heap.size w w' → Calls Tryd.prog 31 #[.int .i64 id] w' fun e w'' => e = .returned (.string ⟨(Lib.itoa id).toArray⟩) ∧ Below w'.heap.size w' w'') := fun w' h => HN.out id w' h64i h
          have HN2 : Hid (∀ w', Below w.heap.size w w' → Calls Tryd.prog 31 #[.int .i64 (k : Int)] w' fun e w'' => e = .returned (.string ⟨(Lib.itoa (k : Int)).toArray⟩) ∧ Below w'.heap.size w' w'') := fun w' h => HN.out k w' h64k h
          have HW : Hid (∀ w6 : World, Calls Tryd.prog 30 #[.slice (some ⟨w6.heap.size, 0, none⟩) 3 3] (w6.alloc (.cells #[.string ⟨#[108, 97, 103]⟩, .string ⟨(Lib.itoa id).toArray⟩, .string ⟨(Lib.itoa (k : Int)).toArray⟩] 9)) fun e w' => e = .returned (.string ⟨(lineL id (k : Int)).toArray⟩) ∧ Below w6.heap.size w6 w') := fun w6 => words3 [108, 97, 103] (Lib.itoa id) (Lib.itoa (k : Int)) w6 Hll.out
          have HRd : Hid (∀ w7 : World, Rd (w7.alloc (.cells #[.string ⟨(lineL id (k : Int)).toArray⟩] 9)) (w7.heap.size + 1) 1 (some ⟨w7.heap.size, 0, none⟩) 1 1 [sV (lineL id (k : Int))]) := fun w7 => rd_one w7 _ _
          obtain ⟨B1, hB1⟩ : ∃ B1, (⟨(Lib.itoa id).toArray⟩ : ByteArray) = B1 := ⟨_, rfl⟩
          obtain ⟨B2, hB2⟩ : ∃ B2, (⟨(Lib.itoa (k : Int)).toArray⟩ : ByteArray) = B2 := ⟨_, rfl⟩
          obtain ⟨LB, hLB⟩ : ∃ LB, (⟨(lineL id (k : Int)).toArray⟩ : ByteArray) = LB := ⟨_, rfl⟩
          rw [hB1] at HN1 HW
          rw [hB2] at HN2 HW
          rw [hLB] at HW HRd
          clear hrg hrg' hsz hide hce hrf hke hkv hB1 hB2 hLB h64k h64i h64 hci1 hci2
          go_wp2_with (first
            | (refine Go.wpList_load_mid rfl 33 (.tmp 44) rfl b (off + j * 40) rfl x _ Hrg.out Tryd.underlying33 rfl Hsz.out ?_)
            | (refine wpList_store_local rfl 33 (.tmp 10) _ rfl x rfl rfl Hsz.out Hrf.out.len.symm Hrf.out.one ?_
               intro w5 q5 hb5 hz5
               have h11 : w5.cell? ⟨wr.heap.size, 11, none⟩ = some (.int .i64 ci) := cell_list q5 _ _ hx11
               have h0 : w5.cell? ⟨wr.heap.size, 0, none⟩ = some (.int .i64 id) := cell_list q5 _ _ hx0
               clear q5))
          have hbn := hbr.trans (hb5.mono hbr.size)
          refine (HN1.out _ hbn).mono ?_
          rintro e w6 ⟨rfl, hb6⟩
          have hbn6 := hbn.trans (hb6.mono hbn.size)
          clear h11 h0
          go_wp2_with fail
          refine (HN2.out _ hbn6).mono ?_
          rintro e w7 ⟨rfl, hb7⟩
          have hbn7 := hbn6.trans (hb7.mono hbn6.size)
          go_wp2_with fail
          refine (HW.out _).mono ?_
          rintro e w8 ⟨rfl, hb8⟩
          have hbn8 := hbn7.trans (hb8.mono hbn7.size)
          have hbr8 : Below wr.heap.size wr w8 := ((hb5.trans (hb6.mono hb5.size)).trans (hb7.mono (hb5.trans (hb6.mono hb5.size)).size)).trans (hb8.mono (by have := hb5.size; have := hb6.size; have := hb7.size; omega))
          have Ho48 : Hid (OwnS w8 w.heap.size u4 (linesL (ids.take j) (ks.take j))) := own_below Ho4.out hbr8
          have Ho58 : Hid (OwnF w8 w.heap.size u5 ((ks.take j).map fi)) := own_below Ho5.out hbr8
          have Hbn8 := Lib.hid hbn8
          clear hb5 hb6 hb7 hb8 hbn hbn6 hbn7 hbn8 hbr8 Ho4 Ho5 hz5
          have HFd : Hid (∀ w7 : World, Rd (w7.alloc (.cells #[.float .f64 (fi k)] 35)) (w7.heap.size + 1) 1 (some ⟨w7.heap.size, 0, none⟩) 1 1 [fV (fi k)]) := fun w7 => rd_one w7 _ _
          go_wp2_with (first
            | (at_builtin
               refine wpList_appS rfl (.tmp 50) (.tmp 58) rfl w.heap.size u4 _ rfl (World.ownsRow.alloc Ho48.out _) (w8.heap.size + 1) w8.heap.size _ rfl (HRd.out w8) ?c1 ?c2 ?_
               case c1 => rw [linesL_len _ _ Hlen.out.1, Hlen.out.2]; omega
               case c2 => simp; have := Hbn8.out.size; omega
               intro v9 w9 ho9 hg9 ha9
               have ho58 : OwnF (w8.alloc (.cells #[.string LB] 9)) w.heap.size u5 ((ks.take j).map fi) := World.ownsRow.alloc Ho58.out _
               have ho48 : OwnS (w8.alloc (.cells #[.string LB] 9)) w.heap.size u4 (linesL (ids.take j) (ks.take j)) := World.ownsRow.alloc Ho48.out _
               have ho59 : OwnF w9 w.heap.size u5 ((ks.take j).map fi) := World.ownsRow.kept ho58 hg9 (own_ne ho58 ho48 (by decide))
               have hbn9 : Below w.heap.size w w9 := (Hbn8.out.alloc Hbn8.out.size _).grown hg9 (by simp; have := Hbn8.out.size; omega) (fun q hq => (World.ownsRow.lt Ho48.out q hq).1)
               have Ho59 := Lib.hid ho59
               have Hbn9 := Lib.hid hbn9
               have Ho9 := Lib.hid ho9
               clear ho58 ho48 ho59 hbn9 ho9 hg9 ha9)
            | (at_builtin
               refine wpList_appF rfl (.tmp 60) (.tmp 63) rfl w.heap.size u5 _ rfl (World.ownsRow.alloc Ho59.out _) (w9.heap.size + 1) w9.heap.size _ rfl (HFd.out w9) ?d1 ?d2 ?_
               case d1 => rw [List.length_map, Hlen.out.2]; omega
               case d2 => simp; have := Hbn9.out.size; omega
               intro v10 w10 ho10 hg10 ha10
               have ho59 : OwnF (w9.alloc (.cells #[.float .f64 (fi k)] 35)) w.heap.size u5 ((ks.take j).map fi) := World.ownsRow.alloc Ho59.out _
               have ho99 : OwnS (w9.alloc (.cells #[.float .f64 (fi k)] 35)) w.heap.size v9 _ := World.ownsRow.alloc Ho9.out _
               have ho910 := World.ownsRow.kept ho99 hg10 (own_ne ho99 ho59 (by decide))
               have hbn10 : Below w.heap.size w w10 := (Hbn9.out.alloc Hbn9.out.size _).grown hg10 (by simp; have := Hbn9.out.size; omega) (fun q hq => (World.ownsRow.lt Ho59.out q hq).1)
               have Ho910 := Lib.hid ho910
               have Hbn10 := Lib.hid hbn10
               have Ho10 := Lib.hid ho10
               clear ho59 ho99 ho910 hbn10 ho10 hg10 ha10))
          have HoS : Hid (OwnS w10 w.heap.size v9 (linesL (ids.take (j + 1)) (ks.take (j + 1)))) := by
            unfold Hid
            rw [Hti.out, Htk.out, linesL_snoc _ _ _ _ Hlen.out.1]
            exact Ho910.out
          have HoF : Hid (OwnF w10 w.heap.size v10 ((ks.take (j + 1)).map fi)) := by
            unfold Hid
            rw [Htk.out, List.map_append]
            exact Ho10.out
          go_roundg (gk - 1)
          case rel => exact ⟨j + 1, by have := Hjg.out; omega, by go_num, HoS.out, HoF.out, Hbn10.out⟩
          case measure => have := Hjg.out; omega
        · obtain rfl : j = i := by omega
          have hfk : ks.take j = ks := List.take_of_length_le (by rw [Hlk.out]; exact Nat.le_refl _)
          have hfid : ids.take j = ids := List.take_of_length_le (by rw [Hli.out]; exact Nat.le_refl _)
          have ho4 := Ho4.out
          have ho5 := Ho5.out
          rw [hfk] at ho4 ho5
          rw [hfid] at ho4
          have HF := Lib.hid (HY2.out)
          obtain ⟨A5, c5, rfl, hr5⟩ := ownF_rd ho5 (n := j) (by rw [List.length_map, Hlk.out])
          have HMn : Hid (Calls Tryd.prog 29 #[.slice A5 j c5] wr (Qt wr (.float .f64 (meanV (ks.map fi))))) := Mean_any A5 j c5 wr.heap.size (ks.map fi) wr hr5
          have Ho4' := Lib.hid ho4
          unfold Qt at HMn
          clear ho4 ho5 hr5 hfk hfid Ho4 Ho5
          go_wp2_with fail
          refine HMn.out.mono ?_
          rintro e w2 ⟨rfl, kd, rfl⟩
          go_wp2_with fail
          exact HF.out _ _ Ho4'.out (below_drewN hbr _)
end Go.Proofs.YtkckncggiicciaaDoor
