/-
  The walk of skerrylaw04.heavy.
-/
import Derived.Test.YtlopeflgleplfaaLastq
namespace Go.Proofs.Ytlopeflgleplfaa
open Go.RowKit
set_option maxRecDepth 100000 in
set_option maxHeartbeats 800000 in
theorem heavy_says (A : Option Addr) (n cap B : Nat) (l : List ActV) (w : World) (h : RdActs w B A n cap l) :
    Calls Try.prog 23 #[.slice A n cap] w fun e w' => (∃ b, e = .returned (.bool b) ∧ (b = false → ∀ (i : Nat) a, i < 300 → l[i]? = some a → a.b.length ≤ 2000)) ∧ w = w' := by
  have hn : n ≤ 9223372036854775807 := by have := h.2.1; have := h.2.2.1; unfold maxLen at this; omega
  by_cases hbig : 1200 < n
  · go_enter Try.func23, Try.ntmps23
    go_wp2_with fail
    go_ret
    exact ⟨⟨_, rfl, by simp⟩, rfl⟩
  go_enter Try.func23, Try.ntmps23
  go_wp2_with fail
  go_loopg [3] n (fun g s3 wr => ∃ i : Nat, i + g = n ∧ s3 = .int .i64 i ∧ wr = w ∧ ∀ (j : Nat) a, j < i → l[j]? = some a → a.b.length ≤ 2000)
  case atStart => exact ⟨0, by omega, rfl, rfl, fun j a h => by omega⟩
  case round =>
    obtain ⟨i, hig, rfl, rfl, hall⟩ := hrel
    have Hall := Lib.hid hall
    clear hall
    have him : i ≤ n := by omega
    have Hig := Lib.hid hig
    clear hig
    by_cases hlt : i < n
    · by_cases h3 : i < 300
      · obtain ⟨b, off, a, rfl, hbB, ⟨_, _, _, _, A', c', hc3, hy⟩, hla⟩ := h.step hlt
        have hl : a.b.length ≤ 9223372036854775807 := hy.n_le
        by_cases h2 : 2000 < a.b.length
        · go_wp2_with fail
          go_ret
          exact ⟨⟨_, rfl, by simp⟩, rfl⟩
        · go_wp2_with fail
          go_roundg (gk - 1)
          case rel => exact ⟨i + 1, by have := Hig.out; omega, by go_num, rfl, fun j a' hj e => by
            rcases Nat.lt_or_ge j i with h | h
            · exact Hall.out j a' h e
            · obtain rfl : j = i := by omega
              rw [hla.out.1] at e
              injection e with e
              subst e
              omega⟩
          case measure => have := Hig.out; omega
      · go_wp2_with fail
        go_ret
        exact ⟨⟨_, rfl, fun _ j a' hj e => Hall.out j a' (by omega) e⟩, rfl⟩
    · go_wp2_with fail
      go_ret
      exact ⟨⟨_, rfl, fun _ j a' _ e => Hall.out j a' (by have := h.1; have := (List.getElem?_eq_some_iff.1 e).1; omega) e⟩, rfl⟩
theorem heavy_any (A : Option Addr) (n cap B : Nat) (l : List ActV) (w : World) (h : RdActs w B A n cap l) :
    Calls Try.prog 23 #[.slice A n cap] w fun e w' => (∃ b, e = .returned (.bool b)) ∧ w = w' :=
  (heavy_says A n cap B l w h).mono fun _ _ ⟨⟨b, e, _⟩, h⟩ => ⟨⟨b, e⟩, h⟩
end Go.Proofs.Ytlopeflgleplfaa
