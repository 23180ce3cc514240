/-
  The walks of value.Parse, and of the page's.
-/
import Derived.Test.YtpndhfnoppkmgaaDoorUnhex
namespace Go.Proofs.YtpndhfnoppkmgaaDoor
open Go.RowKit
set_option maxRecDepth 100000
theorem results_valx {fn : Func} {c t : Nat} (h : fn.results = #[.cell c 24, .tmp t]) (tmps : Array Value) (w : World) (g : Nat) (k : Int) (x : Nat) (s : ByteArray) (u : Value)
    (hp : tmps.getD c undef = .pointer (some ⟨g, 0, none⟩)) (h5 : tmps.getD t undef = u) (hg : w.heap[g]? = some (.cells #[.int .i64 k, .float .f64 x, .string s] 24 (0, 0))) :
    (results fn tmps).run Tryd.prog w = .ok (.tuple #[.agg #[.int .i64 k, .float .f64 x, .string s], u]) w := by
  have hl := run_loadVar_row (P := Tryd.prog) w g 24 24 #[.int .i64 k, .float .f64 x, .string s] (0, 0) _ hg Tryd.underlying24 rfl size3
  have hp' : tmps[c]?.getD undef = .pointer (some ⟨g, 0, none⟩) := by simpa using hp
  have h5' : tmps[t]?.getD undef = u := by simpa using h5
  simp [results, h, hp', h5', asAddr, hl]
set_option maxHeartbeats 1000000 in
theorem numbered_any (x : Nat) (n : Int) (w : World) : Calls Tryd.prog 42 #[.float .f64 x, .int .i64 n] w fun e w' =>
    e = .returned (.tuple #[if n = 0 then .agg #[.int .i64 1, .float .f64 x, .string ⟨#[]⟩] else .agg #[.int .i64 0, .float .f64 0, .string ⟨#[]⟩], .int .i64 n]) ∧ Below w.heap.size w w' := by
  have hrow := heap_alloc_new w (.cells #[.int .i64 0, .float .f64 0, .string ⟨#[]⟩] 24)
  rcases Decidable.em (n = 0) with rfl | h
  · rw [if_pos rfl]
    go_enter Tryd.func42, Tryd.ntmps42
    go_wp2_with (refine wpList_store_row rfl 24 (.tmp 4) _ rfl w.heap.size #[.int .i64 1, .float .f64 x, .string ⟨#[]⟩] rfl rfl 24 _ hrow size3 rfl (val_one _ _ _) ?_)
    exact bodyPost_ret (results_valx Tryd.results42 _ _ w.heap.size _ _ _ _ rfl rfl (setRow_heap _ _ _ _ _ _ hrow)) rfl ⟨rfl, below_setRow (one_below _ _) (Nat.le_refl _) _⟩
  · rw [if_neg h]
    have hq : (n != 0) = true := by simpa using h
    go_enter Tryd.func42, Tryd.ntmps42
    go_wp2_with (refine wpList_store_row rfl 24 (.tmp 4) _ rfl w.heap.size #[.int .i64 0, .float .f64 0, .string ⟨#[]⟩] rfl rfl 24 _ hrow size3 rfl (val_one _ _ _) ?_)
    exact bodyPost_ret (results_valx Tryd.results42 _ _ w.heap.size _ _ _ _ rfl rfl (setRow_heap _ _ _ _ _ _ hrow)) rfl ⟨rfl, below_setRow (one_below _ _) (Nat.le_refl _) _⟩
/-- Does a text begin so? -/
def headB (l : List UInt8) (p : UInt8) : Bool := match l with
  | [] => false
  | c :: _ => c == p
set_option maxHeartbeats 1000000 in
theorem lite_prefix_nil (p : UInt8) (w : World) :
    Calls Tryd.prog 57 #[.string ⟨#[]⟩, .string ⟨#[p]⟩] w fun e w' => e = .returned (.bool false) ∧ w = w' := by
  go_enter Tryd.func57, Tryd.ntmps57
  go_wp2_with fail
  go_ret
  exact ⟨rfl, rfl⟩
set_option maxHeartbeats 1000000 in
theorem prefix_nil (p : UInt8) (w : World) :
    Calls Tryd.prog 40 #[.string ⟨#[]⟩, .string ⟨#[p]⟩] w fun e w' => e = .returned (.bool false) ∧ w = w' := by
  go_enter Tryd.func40, Tryd.ntmps40
  go_wp2_with (refine (lite_prefix_nil p _).mono ?_; rintro e w1 ⟨rfl, rfl⟩)
  go_ret
  exact ⟨rfl, rfl⟩
theorem head_any (s : ByteArray) (p : UInt8) (hs : s.size ≤ maxLen) (w : World) :
    Calls Tryd.prog 40 #[.string s, .string ⟨#[p]⟩] w fun e w' => e = .returned (.bool (headB s.data.toList p)) ∧ w = w' := by
  cases h : s.data.toList with
  | nil =>
    have : s = ⟨#[]⟩ := bytes_ext h
    subst this
    exact prefix_nil p w
  | cons c r => exact prefix_any s c p r h hs w
/-- The rest of a text behind its first byte. -/
theorem rest_list {s : ByteArray} {c : UInt8} {r : List UInt8} (h : s.data.toList = c :: r) : (s.extract 1 s.size).data.toList = r ∧ (s.extract 1 s.size).size + 1 = s.size := by
  have e : (s.extract 1 s.size).data.toList = r := by
    have hl : s.data.toList.length = s.size := Array.length_toList
    rw [ext_list, List.take_of_length_le (by omega), h]
    rfl
  refine ⟨e, ?_⟩
  have h1 : (s.extract 1 s.size).data.toList.length = (s.extract 1 s.size).size := Array.length_toList
  have h2 : s.data.toList.length = s.size := Array.length_toList
  rw [e] at h1
  rw [h] at h2
  simp at h2
  omega
def PvPost (l : List UInt8) (u : Bool → Value) (w : World) (e : Ending) (w' : World) : Prop := e = .returned (.tuple #[(pvV l).v, u (pvOk l)]) ∧ Below w.heap.size w w'
theorem pvp_no {l : List UInt8} {u : Bool → Value} {w w' : World} (h : pvOk l = false) (hb : Below w.heap.size w w') : PvPost l u w (.returned (.tuple #[.agg #[.int .i64 0, .float .f64 0, .string ⟨#[]⟩], u false])) w' := by
  refine ⟨?_, hb⟩
  rw [pvV_no h, h]
  rfl
theorem pvp_dash {u : Bool → Value} {w w' : World} (hb : Below w.heap.size w w') : PvPost [45] u w (.returned (.tuple #[.agg #[.int .i64 0, .float .f64 0, .string ⟨#[]⟩], u true])) w' := ⟨rfl, hb⟩
theorem pvp_num {r : List UInt8} {u : Bool → Value} {w w' : World} (h : parseOk r = true) (hb : Below w.heap.size w w') : PvPost (110 :: r) u w (.returned (.tuple #[.agg #[.int .i64 1, .float .f64 (parseN r), .string ⟨#[]⟩], u true])) w' := by
  have h1 : pvOk (110 :: r) = true := h
  refine ⟨?_, hb⟩
  unfold pvV
  rw [h1]
  rfl
theorem pvp_text {r : List UInt8} {u : Bool → Value} {w w' : World} (h : unOk r = true) (h2 : (unS r).length ≤ 32) (hb : Below w.heap.size w w') : PvPost (116 :: r) u w (.returned (.tuple #[.agg #[.int .i64 2, .float .f64 0, .string ⟨(unS r).toArray⟩], u true])) w' := by
  have h1 : pvOk (116 :: r) = true := by
    unfold pvOk
    dsimp only
    rw [if_neg (by decide), if_neg (by decide), if_pos rfl, h]
    simpa using h2
  refine ⟨?_, hb⟩
  unfold pvV
  rw [h1]
  rfl
theorem pvn_num {r : List UInt8} (h : parseOk r = false) : pvOk (110 :: r) = false := h
theorem pvn_text {r : List UInt8} (h : unOk r = false ∨ 32 < (unS r).length) : pvOk (116 :: r) = false := by
  unfold pvOk
  dsimp only
  rw [if_neg (by decide), if_neg (by decide), if_pos rfl]
  rcases h with h | h
  · rw [h]; rfl
  · rw [decide_eq_false (show ¬ (unS r).length ≤ 32 by omega), Bool.and_false]
theorem pvn_else {c : UInt8} {r : List UInt8} (h1 : ¬ (c = 45 ∧ r = [])) (h2 : c ≠ 110) (h3 : c ≠ 116) : pvOk (c :: r) = false := by
  unfold pvOk
  dsimp only
  by_cases hc : c = 45
  · rw [if_pos hc]
    simpa using fun h => h1 ⟨hc, h⟩
  · rw [if_neg hc, if_neg h2, if_neg h3]
theorem str_size {l : List UInt8} : (⟨l.toArray⟩ : ByteArray).size = l.length := by
  show l.toArray.size = l.length
  rw [List.size_toArray]
/-- An error's number. -/
def eV (b : Bool) : Value := .int .i64 (if b = true then 0 else 3)
set_option maxHeartbeats 3200000 in
theorem VParse_any (s : ByteArray) (w : World) (hs : s.size ≤ 4000) (hT : TzAt w) (hE : ErrAt w) :
    Calls Tryd.prog 22 #[.string s] w (PvPost s.data.toList eV w) := by
  have hmx : s.size ≤ maxLen := by unfold maxLen; omega
  have hst := run_store_float
  have HN : Hid (∀ w, Calls Tryd.prog 40 #[.string s, .string ⟨#[110]⟩] w fun e w' => e = .returned (.bool (headB s.data.toList 110)) ∧ w = w') := fun w => head_any s 110 hmx w
  have HTt : Hid (∀ w, Calls Tryd.prog 40 #[.string s, .string ⟨#[116]⟩] w fun e w' => e = .returned (.bool (headB s.data.toList 116)) ∧ w = w') := fun w => head_any s 116 hmx w
  have hsl : s.toList = s.data.toList := ByteArray.toList_eq s
  obtain ⟨W2, hW2⟩ : ∃ W2, (w.alloc (.cells #[.int .i64 0, .float .f64 0, .string ⟨#[]⟩] 24)).alloc (.cells #[.int .i64 0, .float .f64 0, .string ⟨#[]⟩] 24) = W2 := ⟨_, rfl⟩
  have hb2 : Below w.heap.size w W2 := by rw [← hW2]; exact two_below _ _ _
  have hz2 : W2.heap.size = w.heap.size + 2 := by rw [← hW2]; simp
  have Hr : Hid (∀ w', Below W2.heap.size W2 w' → w'.heap[w.heap.size]? = some (.cells #[.int .i64 0, .float .f64 0, .string ⟨#[]⟩] 24 (0, 0)) ∧ w'.heap[w.heap.size + 1]? = some (.cells #[.int .i64 0, .float .f64 0, .string ⟨#[]⟩] 24 (0, 0))) := fun w' hb => by
    refine ⟨?_, ?_⟩
    · rw [hb.block _ (by omega), ← hW2, Below.heap_alloc _ _ _ (by simp)]
      exact heap_alloc_new w _
    · rw [hb.block _ (by omega), ← hW2]
      exact heap_alloc2_new w _ _
  have HW2 := Lib.hid hW2
  clear hW2
  have hbc : Below W2.heap.size W2 W2 := Below.refl _ _
  obtain ⟨l, hl⟩ : ∃ l, s.data.toList = l := ⟨_, rfl⟩
  rw [hl] at HN HTt hsl ⊢
  rcases Decidable.em (l = [45]) with h45 | h45
  · have hq : (s.toList == [45]) = true := by rw [hsl, h45]; simp
    have HQ : Hid (∀ w', Below w.heap.size w w' → PvPost l eV w (.returned (.tuple #[.agg #[.int .i64 0, .float .f64 0, .string ⟨#[]⟩], eV true])) w') := fun w' h => by rw [h45]; exact pvp_dash h
    obtain ⟨J, hJ⟩ : ∃ J, PvPost l eV w = J := ⟨_, rfl⟩
    rw [hJ] at HQ ⊢
    obtain ⟨r0, r1⟩ := Hr.out _ hbc
    have c0 : W2.cell? ⟨w.heap.size + 1, 0, none⟩ = some (.int .i64 0) := cell_of_row _ _ _ _ _ _ r1
    have c1 : W2.cell? ⟨w.heap.size + 1, 1, none⟩ = some (.float .f64 0) := cell_of_row _ _ _ _ _ _ r1
    have c2 : W2.cell? ⟨w.heap.size + 1, 2, none⟩ = some (.string ⟨#[]⟩) := cell_of_row _ _ _ _ _ _ r1
    have R0 := Lib.hid r0
    clear hJ hl hsl h45 r0 r1 hT hE
    go_enter Tryd.func22, Tryd.ntmps22
    go_wp2_with fail
    rw [HW2.out]
    go_wp2_with (refine wpList_store_row rfl 24 (.tmp 2) _ rfl w.heap.size #[.int .i64 0, .float .f64 0, .string ⟨#[]⟩] rfl rfl 24 _ R0.out size3 rfl (val_one _ _ _) ?_)
    exact bodyPost_ret (results_valx Tryd.results22 _ _ w.heap.size _ _ _ _ rfl rfl R0.out) rfl (HQ.out _ hb2)
  have hq : (s.toList == [45]) = false := by rw [hsl]; simpa using h45
  cases l with
  | nil =>
    have HQ : Hid (∀ w', Below w.heap.size w w' → PvPost [] eV w (.returned (.tuple #[.agg #[.int .i64 0, .float .f64 0, .string ⟨#[]⟩], eV false])) w') := fun w' h => pvp_no rfl h
    have e1 : headB [] 110 = false := rfl
    have e2 : headB [] 116 = false := rfl
    rw [e1] at HN
    rw [e2] at HTt
    obtain ⟨J, hJ⟩ : ∃ J, PvPost [] eV w = J := ⟨_, rfl⟩
    rw [hJ] at HQ ⊢
    clear hJ hl hsl h45 hT hE e1 e2
    go_enter Tryd.func22, Tryd.ntmps22
    go_wp2_with fail
    rw [HW2.out]
    go_wp2_with (first
      | ((with_reducible refine (HN.out _).mono ?_); rintro e w5 ⟨rfl, rfl⟩)
      | ((with_reducible refine (HTt.out _).mono ?_); rintro e w5 ⟨rfl, rfl⟩)
      | (refine wpList_store_row rfl 24 (.tmp 2) _ rfl w.heap.size #[.int .i64 0, .float .f64 0, .string ⟨#[]⟩] rfl rfl 24 _ (Hr.out _ hbc).1 size3 rfl (val_one _ _ _) ?_))
    exact bodyPost_ret (results_valx Tryd.results22 _ _ w.heap.size _ _ _ _ rfl rfl (setRow_heap _ _ _ _ _ _ (Hr.out _ hbc).1)) rfl (HQ.out _ (below_setRow hb2 (Nat.le_refl _) _))
  | cons c r =>
    obtain ⟨hrl, hrz⟩ := rest_list hl
    have hcap : 1 ≤ s.size := by omega
    obtain ⟨R, hR⟩ : ∃ R, s.extract 1 s.size = R := ⟨_, rfl⟩
    rw [hR] at hrl hrz
    have HR := Lib.hid hR
    have Hrl := Lib.hid hrl
    have Hrz := Lib.hid hrz
    have hR4 : R.size ≤ 4000 := by omega
    have h1 : headB (c :: r) 110 = (c == 110) := rfl
    have h2 : headB (c :: r) 116 = (c == 116) := rfl
    rw [h1] at HN
    rw [h2] at HTt
    clear h1 h2 hR hrl hrz hl hsl
    have hR := HR.out
    rcases Decidable.em (c = 110) with rfl | hn
    · have e1 : ((110 : UInt8) == 110) = true := rfl
      rw [e1] at HN
      have HP : Hid (∀ w', Below w.heap.size w w' → Calls Tryd.prog 41 #[.string R] w' fun e w'' => e = .returned (.tuple #[.float .f64 (parseN r), .int .i64 (parseE r)]) ∧ Below w'.heap.size w' w'') := fun w' hb => by
        have := Parse_any R w' hR4 (hT.below hb) (hE.below hb)
        rw [Hrl.out] at this
        exact this
      obtain ⟨kq, xq, HM0, HQ0⟩ : ∃ (kq : Int) (xq : Nat), (∀ w', Calls Tryd.prog 42 #[.float .f64 (parseN r), .int .i64 (parseE r)] w' fun e w'' => e = .returned (.tuple #[.agg #[.int .i64 kq, .float .f64 xq, .string ⟨#[]⟩], .int .i64 (parseE r)]) ∧ Below w'.heap.size w' w'') ∧
          (∀ w', Below w.heap.size w w' → PvPost (110 :: r) eV w (.returned (.tuple #[.agg #[.int .i64 kq, .float .f64 xq, .string ⟨#[]⟩], .int .i64 (parseE r)])) w') := by
        unfold parseE
        cases hok : parseOk r
        · exact ⟨0, 0, fun w' => numbered_any _ 3 w', fun w' h => pvp_no (pvn_num hok) h⟩
        · exact ⟨1, parseN r, fun w' => numbered_any _ 0 w', fun w' h => pvp_num hok h⟩
      have HM := Lib.hid HM0
      have HQ := Lib.hid HQ0
      clear HM0 HQ0
      obtain ⟨J, hJ⟩ : ∃ J, PvPost (110 :: r) eV w = J := ⟨_, rfl⟩
      obtain ⟨x, hx⟩ : ∃ x, parseN r = x := ⟨_, rfl⟩
      obtain ⟨n, hn⟩ : ∃ n, parseE r = n := ⟨_, rfl⟩
      rw [hJ] at HQ ⊢
      rw [hx] at HM HP
      rw [hn] at HQ HP HM
      clear hJ h45 hT hE e1 hx hn
      go_enter Tryd.func22, Tryd.ntmps22
      go_wp2_with fail
      rw [HW2.out]
      go_wp2_with (first
        | (go_at_call 40; (with_reducible refine (HN.out _).mono ?_); rintro e w5 ⟨rfl, rfl⟩)
        | (go_at_call 41; (with_reducible refine (HP.out _ hb2).mono ?_); rintro e w6 ⟨rfl, hb6⟩
           have hbc6 : Below W2.heap.size W2 w6 := hb6)
        | (go_at_call 42; (with_reducible refine (HM.out _).mono ?_); rintro e w7 ⟨rfl, hb7⟩
           have hbc7 : Below W2.heap.size W2 w7 := hbc6.trans (hb7.mono hbc6.size)
           have Hr7 := Lib.hid (Hr.out _ hbc7).1)
        | (refine wpList_store_row rfl 24 (.tmp 2) _ rfl w.heap.size #[.int .i64 kq, .float .f64 xq, .string ⟨#[]⟩] rfl rfl 24 _ Hr7.out size3 rfl (val_one _ _ _) ?_))
      exact bodyPost_ret (results_valx Tryd.results22 _ _ w.heap.size _ _ _ _ rfl rfl (setRow_heap _ _ _ _ _ _ Hr7.out)) rfl (HQ.out _ (below_setRow (hb2.trans (hbc7.mono hb2.size)) (Nat.le_refl _) _))
    have e1 : (c == 110) = false := by simpa using hn
    rw [e1] at HN
    rcases Decidable.em (c = 116) with rfl | ht
    case inr =>
      have e2 : (c == 116) = false := by simpa using ht
      rw [e2] at HTt
      have HQ : Hid (∀ w', Below w.heap.size w w' → PvPost (c :: r) eV w (.returned (.tuple #[.agg #[.int .i64 0, .float .f64 0, .string ⟨#[]⟩], eV false])) w') := fun w' h => pvp_no (pvn_else (by rintro ⟨rfl, rfl⟩; exact h45 rfl) hn ht) h
      obtain ⟨J, hJ⟩ : ∃ J, PvPost (c :: r) eV w = J := ⟨_, rfl⟩
      rw [hJ] at HQ ⊢
      clear hJ h45 hT hE e1 e2 hn ht
      go_enter Tryd.func22, Tryd.ntmps22
      go_wp2_with fail
      rw [HW2.out]
      go_wp2_with (first
        | ((with_reducible refine (HN.out _).mono ?_); rintro e w5 ⟨rfl, rfl⟩)
        | ((with_reducible refine (HTt.out _).mono ?_); rintro e w5 ⟨rfl, rfl⟩)
        | (refine wpList_store_row rfl 24 (.tmp 2) _ rfl w.heap.size #[.int .i64 0, .float .f64 0, .string ⟨#[]⟩] rfl rfl 24 _ (Hr.out _ hbc).1 size3 rfl (val_one _ _ _) ?_))
      exact bodyPost_ret (results_valx Tryd.results22 _ _ w.heap.size _ _ _ _ rfl rfl (setRow_heap _ _ _ _ _ _ (Hr.out _ hbc).1)) rfl (HQ.out _ (below_setRow hb2 (Nat.le_refl _) _))
    have e2 : ((116 : UInt8) == 116) = true := rfl
    rw [e2] at HTt
    have HX : Hid (∀ w', Calls Tryd.prog 43 #[.string R] w' fun e w'' => e = .returned (.tuple #[.string ⟨(unS r).toArray⟩, .bool (unOk r)]) ∧ Below w'.heap.size w' w'') := fun w' => by
      have := vtext_any R w' hR4
      rw [Hrl.out] at this
      exact this
    have hul := unS_le r
    have hrlen : r.length ≤ 4000 := by
      have h1 : R.data.toList.length = R.size := Array.length_toList
      rw [Hrl.out] at h1
      omega
    have hss : (⟨(unS r).toArray⟩ : ByteArray).size = (unS r).length := str_size
    have HC : Hid (∀ w', Calls Tryd.prog 12 #[.agg #[.int .i64 2, .float .f64 0, .string ⟨(unS r).toArray⟩]] w' fun e w'' => e = .returned (.int .i64 (if 32 < (unS r).length then 2 else 0)) ∧ Below w'.heap.size w' w'') := fun w' => by
      have := VCheck_any ⟨2, 0, ⟨(unS r).toArray⟩⟩ w' (by dsimp only; omega) (by dsimp only; rw [hss]; unfold maxLen; omega)
      have e : chkVa ⟨2, 0, ⟨(unS r).toArray⟩⟩ = if 32 < (unS r).length then 2 else 0 := by
        unfold chkVa
        dsimp only
        rw [if_neg (by decide), if_neg (by decide), if_pos rfl, hss, same_nought]
        rfl
      rw [e] at this
      exact this
    have HQ : Hid (unOk r = false ∨ 32 < (unS r).length → ∀ w', Below w.heap.size w w' → PvPost (116 :: r) eV w (.returned (.tuple #[.agg #[.int .i64 0, .float .f64 0, .string ⟨#[]⟩], eV false])) w') := fun hno w' h => pvp_no (pvn_text hno) h
    have HY : Hid (unOk r = true → (unS r).length ≤ 32 → ∀ w', Below w.heap.size w w' → PvPost (116 :: r) eV w (.returned (.tuple #[.agg #[.int .i64 2, .float .f64 0, .string ⟨(unS r).toArray⟩], eV true])) w') := fun h1 h2 w' h => pvp_text h1 h2 h
    obtain ⟨J, hJ⟩ : ∃ J, PvPost (116 :: r) eV w = J := ⟨_, rfl⟩
    obtain ⟨T, hTe⟩ : ∃ T, (⟨(unS r).toArray⟩ : ByteArray) = T := ⟨_, rfl⟩
    obtain ⟨ln, hln⟩ : ∃ ln, (unS r).length = ln := ⟨_, rfl⟩
    rw [hJ] at HQ HY ⊢
    rw [hTe] at HX HC HY
    rw [hln] at HC HQ HY
    clear hJ h45 hT hE e1 e2 hn hul hss hTe hln
    have HZ : Hid (∀ w6 : World, Below W2.heap.size W2 w6 → ∃ w7, w6.setRow (w.heap.size + 1) #[.int .i64 2, .float .f64 0, .string T] = w7 ∧ w7.heap[w.heap.size + 1]? = some (.cells #[.int .i64 2, .float .f64 0, .string T] 24 (0, 0)) ∧
        w7.heap[w.heap.size]? = some (.cells #[.int .i64 0, .float .f64 0, .string ⟨#[]⟩] 24 (0, 0)) ∧ Below w.heap.size w w7 ∧ w.heap.size + 2 ≤ w7.heap.size) := fun w6 hb6 => by
      refine ⟨_, rfl, setRow_heap _ _ _ _ _ _ (Hr.out _ hb6).2, ?_, below_setRow (hb2.trans (hb6.mono hb2.size)) (by omega) _, ?_⟩
      · rw [setRow_other _ _ _ _ (by omega)]
        exact (Hr.out _ hb6).1
      · have := hb6.size
        simp
        omega
    cases hok : unOk r
    all_goals
      rw [hok] at HX HQ HY
      clear hok
      rcases Decidable.em (32 < ln) with hlen | hlen
    case' true.inl =>
      rw [if_pos hlen] at HC
      have HF := Lib.hid (HQ.out (.inr hlen))
    case' true.inr =>
      rw [if_neg hlen] at HC
      have HF := Lib.hid (HY.out rfl (by omega))
    case' false.inl => have HF := Lib.hid (HQ.out (.inl rfl))
    case' false.inr => have HF := Lib.hid (HQ.out (.inl rfl))
    all_goals
      clear HQ HY
      go_enter Tryd.func22, Tryd.ntmps22
      go_wp2_with fail
      rw [HW2.out]
      go_wp2_with (first
        | ((with_reducible refine (HN.out _).mono ?_); rintro e w5 ⟨rfl, rfl⟩)
        | ((with_reducible refine (HTt.out _).mono ?_); rintro e w5 ⟨rfl, rfl⟩)
        | (go_at_call 43; (with_reducible refine (HX.out _).mono ?_); rintro e w6 ⟨rfl, hb6⟩
           have hr6 := Hr.out _ hb6
           have HR6 := Lib.hid hr6
           clear hr6)
        | (refine wpList_store_row rfl 24 (.tmp 4) _ rfl (w.heap.size + 1) #[.int .i64 2, .float .f64 0, .string T] rfl rfl 24 _ HR6.out.2 size3 rfl (val_one _ _ _) ?_
           obtain ⟨w7, hw7, q7, p7, hb7, hz7⟩ := HZ.out _ hb6
           rw [hw7]
           have d0 : w7.cell? ⟨w.heap.size + 1, 0, none⟩ = some (.int .i64 2) := cell_of_row _ _ _ _ _ _ q7
           have d1 : w7.cell? ⟨w.heap.size + 1, 1, none⟩ = some (.float .f64 0) := cell_of_row _ _ _ _ _ _ q7
           have d2 : w7.cell? ⟨w.heap.size + 1, 2, none⟩ = some (.string T) := cell_of_row _ _ _ _ _ _ q7
           have Hp7 := Lib.hid p7
           have Hq7 := Lib.hid q7
           clear hw7 p7 q7)
        | (go_at_call 12; (with_reducible refine (HC.out _).mono ?_); rintro e w8 ⟨rfl, hb8⟩
           have Hp8 := Lib.hid ((hb8.block w.heap.size (by omega)).trans Hp7.out)
           have hq8 := (hb8.block (w.heap.size + 1) (by omega)).trans Hq7.out
           have g0 : w8.cell? ⟨w.heap.size + 1, 0, none⟩ = some (.int .i64 2) := cell_of_row _ _ _ _ _ _ hq8
           have g1 : w8.cell? ⟨w.heap.size + 1, 1, none⟩ = some (.float .f64 0) := cell_of_row _ _ _ _ _ _ hq8
           have g2 : w8.cell? ⟨w.heap.size + 1, 2, none⟩ = some (.string T) := cell_of_row _ _ _ _ _ _ hq8
           have hb9 : Below w.heap.size w w8 := hb7.trans (hb8.mono hb7.size)
           clear hq8 d0 d1 d2 hb8)
        | (refine wpList_store_row rfl 24 (.tmp 2) _ rfl w.heap.size #[.int .i64 0, .float .f64 0, .string ⟨#[]⟩] rfl rfl 24 _ Hp7.out size3 rfl (val_one _ _ _) ?_)
        | (refine wpList_store_row rfl 24 (.tmp 2) _ rfl w.heap.size #[.int .i64 0, .float .f64 0, .string ⟨#[]⟩] rfl rfl 24 _ Hp8.out size3 rfl (val_one _ _ _) ?_)
        | (refine wpList_store_row rfl 24 (.tmp 2) _ rfl w.heap.size #[.int .i64 2, .float .f64 0, .string T] rfl rfl 24 _ Hp8.out size3 rfl (val_one _ _ _) ?_))
      first
        | exact bodyPost_ret (results_valx Tryd.results22 _ _ w.heap.size _ _ _ _ rfl rfl (setRow_heap _ _ _ _ _ _ Hp8.out)) rfl (HF.out _ (below_setRow hb9 (Nat.le_refl _) _))
        | exact bodyPost_ret (results_valx Tryd.results22 _ _ w.heap.size _ _ _ _ rfl rfl (setRow_heap _ _ _ _ _ _ Hp7.out)) rfl (HF.out _ (below_setRow hb7 (Nat.le_refl _) _))
end Go.Proofs.YtpndhfnoppkmgaaDoor
