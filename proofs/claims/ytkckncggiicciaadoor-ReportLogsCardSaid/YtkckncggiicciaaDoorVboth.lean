/-
  Two values' sum, and the greater one: the walks.
-/
import Derived.Test.YtkckncggiicciaaDoorVtext
namespace Go.Proofs.YtkckncggiicciaaDoor
open Go.RowKit
set_option maxRecDepth 100000
def zeroVa : Va := ⟨0, 0, ⟨#[]⟩⟩
def joinV (mk : Nat → Nat → Nat) (a b : Va) : Va × Int :=
  if chkVa a ≠ 0 then (zeroVa, chkVa a) else if chkVa b ≠ 0 then (zeroVa, chkVa b) else if a.k = 0 then (b, 0) else if a.k ≠ 1 ∨ b.k ≠ 1 then (zeroVa, 8) else (⟨1, mk a.x b.x, ⟨#[]⟩⟩, 0)
def JPost (mk : Nat → Nat → Nat) (a b : Va) (w : World) (e : Ending) (w' : World) : Prop :=
  e = .returned (.tuple #[(joinV mk a b).1.v, .int .i64 (joinV mk a b).2]) ∧ Below w.heap.size w w'
theorem size3 : (Tryd.prog.info? 56).map (·.size) = some 3 := by kernel_rfl
theorem val_one (k : Int) (x : Nat) (s : ByteArray) : (#[.int .i64 k, .float .f64 x, .string s] : Array Value).all (·.oneCell') = true := by simp [Value.oneCell']
theorem results_val {fn : Func} {c t : Nat} (h : fn.results = #[.cell c 56, .tmp t]) (tmps : Array Value) (w : World) (g : Nat) (k : Int) (x : Nat) (s : ByteArray) (n : Int)
    (hp : tmps.getD c undef = .pointer (some ⟨g, 0, none⟩)) (h5 : tmps.getD t undef = .int .i64 n) (hg : w.heap[g]? = some (.cells #[.int .i64 k, .float .f64 x, .string s] 56 (0, 0))) :
    (results fn tmps).run Tryd.prog w = .ok (.tuple #[.agg #[.int .i64 k, .float .f64 x, .string s], .int .i64 n]) w := by
  have hl := run_loadVar_row (P := Tryd.prog) w g 56 56 #[.int .i64 k, .float .f64 x, .string s] (0, 0) _ hg Tryd.underlying56 rfl size3
  have hp' : tmps[c]?.getD undef = .pointer (some ⟨g, 0, none⟩) := by simpa using hp
  have h5' : tmps[t]?.getD undef = .int .i64 n := by simpa using h5
  simp [results, h, hp', h5', asAddr, hl]
theorem chk_vals (a : Va) : chkVa a = 0 ∨ chkVa a = 8 ∨ chkVa a = 2 ∨ chkVa a = 15 := by
  unfold chkVa
  repeat' split
  all_goals simp
end Go.Proofs.YtkckncggiicciaaDoor
