/-
  The walk of the page's Parse of a value.
-/
import Derived.Test.YtpndhfnoppkmgaaDoorVparse
namespace Go.Proofs.YtpndhfnoppkmgaaDoor
open Go.RowKit
set_option maxRecDepth 100000
def bV (b : Bool) : Value := .bool b
set_option maxHeartbeats 3200000 in
theorem RVParse_any (s : ByteArray) (w : World) (hs : s.size ≤ 4000) (hT : TzAt w) :
    Calls Tryd.prog 23 #[.string s] w (PvPost s.data.toList bV w) := by
  have hst := run_store_float
  have hsl : s.toList = s.data.toList := ByteArray.toList_eq s
  obtain ⟨W2, hW2⟩ : ∃ W2, w.alloc (.cells #[.int .i64 0, .float .f64 0, .string ⟨#[]⟩] 24) = W2 := ⟨_, rfl⟩
  have hb2 : Below w.heap.size w W2 := by rw [← hW2]; exact one_below _ _
  have hz2 : W2.heap.size = w.heap.size + 1 := by rw [← hW2]; simp
  have Hr : Hid (∀ w', Below W2.heap.size W2 w' → w'.heap[w.heap.size]? = some (.cells #[.int .i64 0, .float .f64 0, .string ⟨#[]⟩] 24 (0, 0))) := fun w' hb => by
    rw [hb.block _ (by omega), ← hW2]
    exact heap_alloc_new w _
  have HW2 := Lib.hid hW2
  clear hW2
  have hbc : Below W2.heap.size W2 W2 := Below.refl _ _
  have Hr2 := Lib.hid (Hr.out _ hbc)
  obtain ⟨l, hl⟩ : ∃ l, s.data.toList = l := ⟨_, rfl⟩
  rw [hl] at hsl ⊢
  rcases Decidable.em (l = [45]) with h45 | h45
  · have hq : (s.toList == [45]) = true := by rw [hsl, h45]; simp
    have HQ : Hid (∀ w', Below w.heap.size w w' → PvPost l bV w (.returned (.tuple #[.agg #[.int .i64 0, .float .f64 0, .string ⟨#[]⟩], bV true])) w') := fun w' h => by rw [h45]; exact pvp_dash h
    obtain ⟨J, hJ⟩ : ∃ J, PvPost l bV w = J := ⟨_, rfl⟩
    rw [hJ] at HQ ⊢
    clear hJ hl hsl h45 hT
    go_enter Tryd.func23, Tryd.ntmps23
    go_wp2_with fail
    rw [HW2.out]
    go_wp2_with (refine wpList_store_row rfl 24 (.tmp 2) _ rfl w.heap.size #[.int .i64 0, .float .f64 0, .string ⟨#[]⟩] rfl rfl 24 _ Hr2.out size3 rfl (val_one _ _ _) ?_)
    exact bodyPost_ret (results_valx Tryd.results23 _ _ w.heap.size _ _ _ _ rfl rfl Hr2.out) rfl (HQ.out _ hb2)
  have hq : (s.toList == [45]) = false := by rw [hsl]; simpa using h45
  cases l with
  | nil =>
    have HQ : Hid (∀ w', Below w.heap.size w w' → PvPost [] bV w (.returned (.tuple #[.agg #[.int .i64 0, .float .f64 0, .string ⟨#[]⟩], bV false])) w') := fun w' h => pvp_no rfl h
    obtain ⟨J, hJ⟩ : ∃ J, PvPost [] bV w = J := ⟨_, rfl⟩
    rw [hJ] at HQ ⊢
    have hz : s.size < 1 := by
      have h1 : s.data.toList.length = s.size := Array.length_toList
      rw [hl] at h1
      simp at h1
      omega
    clear hJ hl hsl h45 hT
    go_enter Tryd.func23, Tryd.ntmps23
    go_wp2_with fail
    rw [HW2.out]
    go_wp2_with (refine wpList_store_row rfl 24 (.tmp 2) _ rfl w.heap.size #[.int .i64 0, .float .f64 0, .string ⟨#[]⟩] rfl rfl 24 _ Hr2.out size3 rfl (val_one _ _ _) ?_)
    exact bodyPost_ret (results_valx Tryd.results23 _ _ w.heap.size _ _ _ _ rfl rfl Hr2.out) rfl (HQ.out _ hb2)
  | cons c r =>
    obtain ⟨hrl, hrz⟩ := rest_list hl
    have hcap : 1 ≤ s.size := by omega
    have h0s : 0 < s.size := by omega
    have hs0 : s[0] = c := by
      have h1 : s.data.toList[0]'(by rw [hl]; simp) = c := by simp [hl]
      rw [← h1]
      exact (Array.getElem_toList _).symm
    obtain ⟨R, hR⟩ : ∃ R, s.extract 1 s.size = R := ⟨_, rfl⟩
    rw [hR] at hrl hrz
    have Hrl := Lib.hid hrl
    have hR4 : R.size ≤ 4000 := by omega
    have hrlen : r.length ≤ 4000 := by
      have h1 : R.data.toList.length = R.size := Array.length_toList
      rw [Hrl.out] at h1
      omega
    clear hrl hl hsl hrz
    rcases Decidable.em (c = 110) with rfl | hn
    · have HP : Hid (∀ w', Below w.heap.size w w' → Calls Tryd.prog 44 #[.string R] w' fun e w'' => e = .returned (.tuple #[.float .f64 (parseN r), .bool (parseOk r)]) ∧ Below w'.heap.size w' w'') := fun w' hb => by
        have := RefParse_any R w' (hT.below hb)
        rw [Hrl.out] at this
        exact this
      have HQ : Hid (parseOk r = false → ∀ w', Below w.heap.size w w' → PvPost (110 :: r) bV w (.returned (.tuple #[.agg #[.int .i64 0, .float .f64 0, .string ⟨#[]⟩], bV false])) w') := fun hok w' h => pvp_no (pvn_num hok) h
      have HY : Hid (parseOk r = true → ∀ w', Below w.heap.size w w' → PvPost (110 :: r) bV w (.returned (.tuple #[.agg #[.int .i64 1, .float .f64 (parseN r), .string ⟨#[]⟩], bV true])) w') := fun hok w' h => pvp_num hok h
      obtain ⟨J, hJ⟩ : ∃ J, PvPost (110 :: r) bV w = J := ⟨_, rfl⟩
      obtain ⟨x, hx⟩ : ∃ x, parseN r = x := ⟨_, rfl⟩
      rw [hJ] at HQ HY ⊢
      rw [hx] at HP HY
      have hv : (s[0].toNat : Int) = 110 := by rw [hs0]; rfl
      clear hJ h45 hT hx hs0
      cases hok : parseOk r
      case' false => have HF := Lib.hid (HQ.out hok)
      case' true => have HF := Lib.hid (HY.out hok)
      all_goals
        rw [hok] at HP
        clear HQ HY hok
        go_enter Tryd.func23, Tryd.ntmps23
        go_wp2_with fail
        rw [HW2.out]
        go_wp2_with (first
          | (go_at_call 44; (with_reducible refine (HP.out _ hb2).mono ?_); rintro e w6 ⟨rfl, hb6⟩
             have Hr6 := Lib.hid (Hr.out _ hb6))
          | (refine wpList_store_row rfl 24 (.tmp 2) _ rfl w.heap.size #[.int .i64 1, .float .f64 x, .string ⟨#[]⟩] rfl rfl 24 _ Hr6.out size3 rfl (val_one _ _ _) ?_)
          | (refine wpList_store_row rfl 24 (.tmp 2) _ rfl w.heap.size #[.int .i64 0, .float .f64 0, .string ⟨#[]⟩] rfl rfl 24 _ Hr6.out size3 rfl (val_one _ _ _) ?_))
        exact bodyPost_ret (results_valx Tryd.results23 _ _ w.heap.size _ _ _ _ rfl rfl (setRow_heap _ _ _ _ _ _ Hr6.out)) rfl (HF.out _ (below_setRow (hb2.trans (hb6.mono hb2.size)) (Nat.le_refl _) _))
    have HX : Hid (∀ w', Calls Tryd.prog 45 #[.string R] w' fun e w'' => e = .returned (.tuple #[.string ⟨(unS r).toArray⟩, .bool (unOk r)]) ∧ Below w'.heap.size w' w'') := fun w' => by
      have := Unhex_any R w' hR4
      rw [Hrl.out] at this
      exact this
    have hul := unS_le r
    have hss : (⟨(unS r).toArray⟩ : ByteArray).size = (unS r).length := str_size
    have hne : c.toNat ≠ 110 := fun e => hn (UInt8.toNat_inj.1 e)
    have HQ : Hid (c ≠ 116 ∨ unOk r = false ∨ 32 < (unS r).length → ∀ w', Below w.heap.size w w' → PvPost (c :: r) bV w (.returned (.tuple #[.agg #[.int .i64 0, .float .f64 0, .string ⟨#[]⟩], bV false])) w') := fun hno w' h => by
      rcases Decidable.em (c = 116) with rfl | ht
      · refine pvp_no (pvn_text ?_) h
        rcases hno with h | h
        · exact absurd rfl h
        · exact h
      · exact pvp_no (pvn_else (by rintro ⟨rfl, rfl⟩; exact h45 rfl) hn ht) h
    have HY : Hid (c = 116 → unOk r = true → (unS r).length ≤ 32 → ∀ w', Below w.heap.size w w' → PvPost (c :: r) bV w (.returned (.tuple #[.agg #[.int .i64 2, .float .f64 0, .string ⟨(unS r).toArray⟩], bV true])) w') := fun h0 h1 h2 w' h => by
      subst h0
      exact pvp_text h1 h2 h
    obtain ⟨J, hJ⟩ : ∃ J, PvPost (c :: r) bV w = J := ⟨_, rfl⟩
    obtain ⟨T, hTe⟩ : ∃ T, (⟨(unS r).toArray⟩ : ByteArray) = T := ⟨_, rfl⟩
    rw [hJ] at HQ HY ⊢
    rw [hTe] at HX HY hss
    rw [← hss] at HQ HY hul
    have hTz : T.size ≤ 4000 := by omega
    obtain ⟨x, hx⟩ : ∃ x, c.toNat = x := ⟨_, rfl⟩
    rw [← hs0] at hx
    have hv : (s[0].toNat : Int) = (x : Int) := by rw [hx]
    have hxn : ((x : Int) == 110) = false := by
      rw [hs0] at hx
      simp
      omega
    have hxt : (c = 116 ↔ x = 116) := by
      rw [hs0] at hx
      rw [← hx]
      constructor
      · rintro rfl; rfl
      · intro e; exact UInt8.toNat_inj.1 e
    rw [hxt] at HY
    have HQ2 : Hid (x ≠ 116 ∨ unOk r = false ∨ 32 < T.size → ∀ w', Below w.heap.size w w' → J (.returned (.tuple #[.agg #[.int .i64 0, .float .f64 0, .string ⟨#[]⟩], bV false])) w') := fun h => HQ.out (by rw [Ne, hxt]; exact h)
    clear hJ h45 hT hn hss hTe hs0 hx hne hxt HQ hul
    cases hok : unOk r
    all_goals
      rw [hok] at HX HQ2 HY
      clear hok
    case' false => have HF := Lib.hid (HQ2.out (.inr (.inl rfl)))
    case' true =>
      rcases Decidable.em (x = 116) with rfl | h116
    case' true.inl =>
      rcases Decidable.em (32 < T.size) with hlen | hlen
    case' true.inl.inl => have HF := Lib.hid (HQ2.out (.inr (.inr hlen)))
    case' true.inl.inr => have HF := Lib.hid (HY.out rfl rfl (by omega))
    case' true.inr =>
      have HF := Lib.hid (HQ2.out (.inl h116))
      have h117 : ((x : Int) == 116) = false := by simp; omega
    case' false =>
      rcases Decidable.em (x = 116) with rfl | h116
    case' false.inr =>
      have h117 : ((x : Int) == 116) = false := by simp; omega
    all_goals
      clear HQ2 HY
      go_enter Tryd.func23, Tryd.ntmps23
      go_wp2_with fail
      rw [HW2.out]
      go_wp2_with (first
        | (go_at_call 45; (with_reducible refine (HX.out _).mono ?_); rintro e w6 ⟨rfl, hb6⟩
           have Hr6 := Lib.hid (Hr.out _ hb6))
        | (refine wpList_store_row rfl 24 (.tmp 2) _ rfl w.heap.size #[.int .i64 2, .float .f64 0, .string T] rfl rfl 24 _ Hr6.out size3 rfl (val_one _ _ _) ?_)
        | (refine wpList_store_row rfl 24 (.tmp 2) _ rfl w.heap.size #[.int .i64 0, .float .f64 0, .string ⟨#[]⟩] rfl rfl 24 _ Hr6.out size3 rfl (val_one _ _ _) ?_))
      exact bodyPost_ret (results_valx Tryd.results23 _ _ w.heap.size _ _ _ _ rfl rfl (setRow_heap _ _ _ _ _ _ Hr6.out)) rfl (HF.out _ (below_setRow (hb2.trans (hb6.mono hb2.size)) (Nat.le_refl _) _))
end Go.Proofs.YtpndhfnoppkmgaaDoor
