/-
  No cell of these rows narrows 'for every input' (looked for: loops, veiled, ifaces, maps, wideKeys, modest, calm, conditions, laid).
  DERIVED. THE GIVEN ROWS OF THIS SEAT. 9 by the template 'for every input the law returns true; each argument reads behind the call as it read before'; 0 by the template 'total and deterministic' (their statements: YtebfaghgcecacaaTotals.lean).
  GIVEN WITH THE SEED: the statements are not yours to turn. If you find one false, say at which input.
  Laid BY PROGRAM, IN A SANDBOX (cutbox-rows.mjs): the forced cells as the released guide's own fill.sh prints them over the translation d2efb65530906000… (all of the seat's roots in one cut). By AI agents, Wed Nov 11 2026. No macro, syntax, notation, axiom, sorry.
-/
import Derived.Test.YtebfaghgcecacaaChecked
import GoSem.Claim
import GoSem.ClaimJoined
import GoSem.ClaimMapViews
import Derived.JoinedTies
import Derived.KernelRfl
namespace Go.Proofs.Ytebfaghgcecacaa
/- THE CELL 'sum', in the pinned program and in every row, IS THE sha256 OF THE DUMP (.gsa) THAT YtebfaghgcecacaaProg.lean LOADS. Nothing in Lean hashes anything: it is a label: what it is worth is what the hold of that sum in a sandbox is worth. -/
noncomputable def Try.pinned : Pinned := { name := "ytebfaghgcecacaa", sum := "d2efb655309060003c875c7b6d83fcc53e24c34ccb85597510fef52f979c003d", checked := Try.checked }
namespace Rows
def none {H : Type} : Left H := { results := [], args := [] }

/-- 'skerrylaw13.PulseGrows': WHATEVER THE INPUT: true; the input reads as it did. -/
def pulseGrowsSpec : ChangeSpec := { name := "pulseGrows", fn := fun _ => fun
  | [d1, d2, d3] => { results := [.lit (.bool true)], args := [d1, d2, d3] }
  | _ => none }
def pulseGrowsRow : OpenClaim := { program := "ytebfaghgcecacaa", sum := "d2efb655309060003c875c7b6d83fcc53e24c34ccb85597510fef52f979c003d", func := "skerry/skerrylaw13.PulseGrows", spec := "pulseGrows", inPlace := ["math.Float64bits", "math.Float64frombits"], apart := false }
def PulseGrowsSaid : Prop := pulseGrowsRow.holds Try.pinned (OpenSpec.ofChange pulseGrowsSpec)

/-- ITS FALSE NEIGHBOUR: 'it returns false'. Refute it at one input. -/
def pulseGrowsWrong : ChangeSpec := { name := "pulseGrows", fn := fun _ => fun
  | [d1, d2, d3] => { results := [.lit (.bool false)], args := [d1, d2, d3] }
  | _ => none }
def PulseGrowsWrongFalsely : Prop := pulseGrowsRow.holds Try.pinned (OpenSpec.ofChange pulseGrowsWrong)

/-- 'skerrylaw13.PulseSilent': WHATEVER THE INPUT: true; the input reads as it did. -/
def pulseSilentSpec : ChangeSpec := { name := "pulseSilent", fn := fun _ => fun
  | [d1, d2, d3, d4] => { results := [.lit (.bool true)], args := [d1, d2, d3, d4] }
  | _ => none }
def pulseSilentRow : OpenClaim := { program := "ytebfaghgcecacaa", sum := "d2efb655309060003c875c7b6d83fcc53e24c34ccb85597510fef52f979c003d", func := "skerry/skerrylaw13.PulseSilent", spec := "pulseSilent", inPlace := ["math.Float64bits", "math.Float64frombits"], apart := false }
def PulseSilentSaid : Prop := pulseSilentRow.holds Try.pinned (OpenSpec.ofChange pulseSilentSpec)

/-- ITS FALSE NEIGHBOUR: 'it returns false'. Refute it at one input. -/
def pulseSilentWrong : ChangeSpec := { name := "pulseSilent", fn := fun _ => fun
  | [d1, d2, d3, d4] => { results := [.lit (.bool false)], args := [d1, d2, d3, d4] }
  | _ => none }
def PulseSilentWrongFalsely : Prop := pulseSilentRow.holds Try.pinned (OpenSpec.ofChange pulseSilentWrong)

/-- 'skerrylaw13.PulseWorst': WHATEVER THE INPUT: true; the input reads as it did. -/
def pulseWorstSpec : ChangeSpec := { name := "pulseWorst", fn := fun _ => fun
  | [d1, d2, d3] => { results := [.lit (.bool true)], args := [d1, d2, d3] }
  | _ => none }
def pulseWorstRow : OpenClaim := { program := "ytebfaghgcecacaa", sum := "d2efb655309060003c875c7b6d83fcc53e24c34ccb85597510fef52f979c003d", func := "skerry/skerrylaw13.PulseWorst", spec := "pulseWorst", inPlace := ["math.Float64bits", "math.Float64frombits"], apart := false }
def PulseWorstSaid : Prop := pulseWorstRow.holds Try.pinned (OpenSpec.ofChange pulseWorstSpec)

/-- ITS FALSE NEIGHBOUR: 'it returns false'. Refute it at one input. -/
def pulseWorstWrong : ChangeSpec := { name := "pulseWorst", fn := fun _ => fun
  | [d1, d2, d3] => { results := [.lit (.bool false)], args := [d1, d2, d3] }
  | _ => none }
def PulseWorstWrongFalsely : Prop := pulseWorstRow.holds Try.pinned (OpenSpec.ofChange pulseWorstWrong)

/-- 'skerrylaw13.PulseExact': WHATEVER THE INPUT: true; the input reads as it did. -/
def pulseExactSpec : ChangeSpec := { name := "pulseExact", fn := fun _ => fun
  | [d1, d2, d3, d4, d5, d6] => { results := [.lit (.bool true)], args := [d1, d2, d3, d4, d5, d6] }
  | _ => none }
def pulseExactRow : OpenClaim := { program := "ytebfaghgcecacaa", sum := "d2efb655309060003c875c7b6d83fcc53e24c34ccb85597510fef52f979c003d", func := "skerry/skerrylaw13.PulseExact", spec := "pulseExact", inPlace := ["math.Float64bits", "math.Float64frombits"], apart := false }
def PulseExactSaid : Prop := pulseExactRow.holds Try.pinned (OpenSpec.ofChange pulseExactSpec)

/-- ITS FALSE NEIGHBOUR: 'it returns false'. Refute it at one input. -/
def pulseExactWrong : ChangeSpec := { name := "pulseExact", fn := fun _ => fun
  | [d1, d2, d3, d4, d5, d6] => { results := [.lit (.bool false)], args := [d1, d2, d3, d4, d5, d6] }
  | _ => none }
def PulseExactWrongFalsely : Prop := pulseExactRow.holds Try.pinned (OpenSpec.ofChange pulseExactWrong)

/-- 'skerrylaw12.RttExact': WHATEVER THE INPUT: true; the input reads as it did. -/
def rttExactSpec : ChangeSpec := { name := "rttExact", fn := fun _ => fun
  | [d1, d2, d3, d4] => { results := [.lit (.bool true)], args := [d1, d2, d3, d4] }
  | _ => none }
def rttExactRow : OpenClaim := { program := "ytebfaghgcecacaa", sum := "d2efb655309060003c875c7b6d83fcc53e24c34ccb85597510fef52f979c003d", func := "skerry/skerrylaw12.RttExact", spec := "rttExact", inPlace := ["math.Float64frombits", "math.Float64bits", "math.archMax", "math.archCeil", "math.archFloor", "math.archTrunc"], apart := false }
def RttExactSaid : Prop := rttExactRow.holds Try.pinned (OpenSpec.ofChange rttExactSpec)

/-- ITS FALSE NEIGHBOUR: 'it returns false'. Refute it at one input. -/
def rttExactWrong : ChangeSpec := { name := "rttExact", fn := fun _ => fun
  | [d1, d2, d3, d4] => { results := [.lit (.bool false)], args := [d1, d2, d3, d4] }
  | _ => none }
def RttExactWrongFalsely : Prop := rttExactRow.holds Try.pinned (OpenSpec.ofChange rttExactWrong)

/-- 'skerrylaw12.RttSound': WHATEVER THE INPUT: true; the input reads as it did. -/
def rttSoundSpec : ChangeSpec := { name := "rttSound", fn := fun _ => fun
  | [d1, d2, d3] => { results := [.lit (.bool true)], args := [d1, d2, d3] }
  | _ => none }
def rttSoundRow : OpenClaim := { program := "ytebfaghgcecacaa", sum := "d2efb655309060003c875c7b6d83fcc53e24c34ccb85597510fef52f979c003d", func := "skerry/skerrylaw12.RttSound", spec := "rttSound", inPlace := ["math.Float64frombits", "math.Float64bits", "math.archMax", "math.archCeil", "math.archFloor", "math.archTrunc"], apart := false }
def RttSoundSaid : Prop := rttSoundRow.holds Try.pinned (OpenSpec.ofChange rttSoundSpec)

/-- ITS FALSE NEIGHBOUR: 'it returns false'. Refute it at one input. -/
def rttSoundWrong : ChangeSpec := { name := "rttSound", fn := fun _ => fun
  | [d1, d2, d3] => { results := [.lit (.bool false)], args := [d1, d2, d3] }
  | _ => none }
def RttSoundWrongFalsely : Prop := rttSoundRow.holds Try.pinned (OpenSpec.ofChange rttSoundWrong)

/-- 'skerrylaw12.RttSteady': WHATEVER THE INPUT: true; the input reads as it did. -/
def rttSteadySpec : ChangeSpec := { name := "rttSteady", fn := fun _ => fun
  | [d1, d2] => { results := [.lit (.bool true)], args := [d1, d2] }
  | _ => none }
def rttSteadyRow : OpenClaim := { program := "ytebfaghgcecacaa", sum := "d2efb655309060003c875c7b6d83fcc53e24c34ccb85597510fef52f979c003d", func := "skerry/skerrylaw12.RttSteady", spec := "rttSteady", inPlace := ["math.Float64frombits", "math.Float64bits", "math.archMax", "math.archCeil", "math.archFloor", "math.archTrunc"], apart := false }
def RttSteadySaid : Prop := rttSteadyRow.holds Try.pinned (OpenSpec.ofChange rttSteadySpec)

/-- ITS FALSE NEIGHBOUR: 'it returns false'. Refute it at one input. -/
def rttSteadyWrong : ChangeSpec := { name := "rttSteady", fn := fun _ => fun
  | [d1, d2] => { results := [.lit (.bool false)], args := [d1, d2] }
  | _ => none }
def RttSteadyWrongFalsely : Prop := rttSteadyRow.holds Try.pinned (OpenSpec.ofChange rttSteadyWrong)

/-- 'skerrylaw12.RttMore': WHATEVER THE INPUT: true; the input reads as it did. -/
def rttMoreSpec : ChangeSpec := { name := "rttMore", fn := fun _ => fun
  | [d1, d2, d3, d4, d5] => { results := [.lit (.bool true)], args := [d1, d2, d3, d4, d5] }
  | _ => none }
def rttMoreRow : OpenClaim := { program := "ytebfaghgcecacaa", sum := "d2efb655309060003c875c7b6d83fcc53e24c34ccb85597510fef52f979c003d", func := "skerry/skerrylaw12.RttMore", spec := "rttMore", inPlace := ["math.Float64bits", "math.Float64frombits", "math.archMax", "math.archCeil", "math.archFloor", "math.archTrunc"], apart := false }
def RttMoreSaid : Prop := rttMoreRow.holds Try.pinned (OpenSpec.ofChange rttMoreSpec)

/-- ITS FALSE NEIGHBOUR: 'it returns false'. Refute it at one input. -/
def rttMoreWrong : ChangeSpec := { name := "rttMore", fn := fun _ => fun
  | [d1, d2, d3, d4, d5] => { results := [.lit (.bool false)], args := [d1, d2, d3, d4, d5] }
  | _ => none }
def RttMoreWrongFalsely : Prop := rttMoreRow.holds Try.pinned (OpenSpec.ofChange rttMoreWrong)

/-- 'skerrylaw12.RttWorst': WHATEVER THE INPUT: true; the input reads as it did. -/
def rttWorstSpec : ChangeSpec := { name := "rttWorst", fn := fun _ => fun
  | [d] => { results := [.lit (.bool true)], args := [d] }
  | _ => none }
def rttWorstRow : OpenClaim := { program := "ytebfaghgcecacaa", sum := "d2efb655309060003c875c7b6d83fcc53e24c34ccb85597510fef52f979c003d", func := "skerry/skerrylaw12.RttWorst", spec := "rttWorst", inPlace := ["math.Float64bits", "math.Float64frombits", "math.archMax", "math.archCeil", "math.archFloor", "math.archTrunc"], apart := false }
def RttWorstSaid : Prop := rttWorstRow.holds Try.pinned (OpenSpec.ofChange rttWorstSpec)

/-- ITS FALSE NEIGHBOUR: 'it returns false'. Refute it at one input. -/
def rttWorstWrong : ChangeSpec := { name := "rttWorst", fn := fun _ => fun
  | [d] => { results := [.lit (.bool false)], args := [d] }
  | _ => none }
def RttWorstWrongFalsely : Prop := rttWorstRow.holds Try.pinned (OpenSpec.ofChange rttWorstWrong)

/- THE SECOND FORM. 'bulk': how many values and letters a reading holds, each counted each time it is reached (what is shared counts as often as it is met; a slice's spare places count too). A statement '..UptoSaid' is the law's where the arguments, and the package variables that the reading takes, are together of bulk at most 1048576: NARROWER than '..Said'. Prove '..Said' where nothing that the law and all that it calls make is longer than what came in: it says more and counts as full. Else prove '..UptoSaid'. A law counts once. -/
mutual
def uptoBulk {H : Type} : DataW H → Nat
  | .lit (.string bytes) => bytes.length + 1
  | .lit _ => 1
  | .nil => 1
  | .ptr d => uptoBulk d + 1
  | .slice elems spare => uptoBulkAll elems + uptoBulkAll spare + 1
  | .agg parts => uptoBulkAll parts + 1
  | .iface _ d => uptoBulk d + 1
  | .map entries => uptoBulkEntries entries + 1
  | .held _ => 1
def uptoBulkAll {H : Type} : List (DataW H) → Nat
  | [] => 0
  | d :: r => uptoBulk d + uptoBulkAll r
def uptoBulkEntries {H : Type} : List (Lit × DataW H) → Nat
  | [] => 0
  | x :: r => uptoBulkEntry x + uptoBulkEntries r
def uptoBulkEntry {H : Type} : Lit × DataW H → Nat
  | (.string bytes, d) => bytes.length + uptoBulk d + 1
  | (_, d) => uptoBulk d + 1
 end
def uptoSmall : (H : Type) → List (DataW H) → Bool := fun _ ds => decide (uptoBulkAll ds ≤ 1048576)
def OpenSpec.upto (s : _root_.Go.ChangeSpec) : _root_.Go.OpenSpec := { _root_.Go.OpenSpec.ofChange s with cond := some uptoSmall }

/-- 'skerrylaw13.PulseGrows', WHERE WHAT IT READS IS OF BULK AT MOST 1048576: true; the input reads as it did. -/
def pulseGrowsUptoRow : OpenClaim := { program := "ytebfaghgcecacaa", sum := "d2efb655309060003c875c7b6d83fcc53e24c34ccb85597510fef52f979c003d", func := "skerry/skerrylaw13.PulseGrows", spec := "pulseGrows", inPlace := ["math.Float64bits", "math.Float64frombits"], apart := false, narrowed := true }
def PulseGrowsUptoSaid : Prop := pulseGrowsUptoRow.holds Try.pinned (OpenSpec.upto pulseGrowsSpec)

/-- 'skerrylaw13.PulseSilent', WHERE WHAT IT READS IS OF BULK AT MOST 1048576: true; the input reads as it did. -/
def pulseSilentUptoRow : OpenClaim := { program := "ytebfaghgcecacaa", sum := "d2efb655309060003c875c7b6d83fcc53e24c34ccb85597510fef52f979c003d", func := "skerry/skerrylaw13.PulseSilent", spec := "pulseSilent", inPlace := ["math.Float64bits", "math.Float64frombits"], apart := false, narrowed := true }
def PulseSilentUptoSaid : Prop := pulseSilentUptoRow.holds Try.pinned (OpenSpec.upto pulseSilentSpec)

/-- 'skerrylaw13.PulseWorst', WHERE WHAT IT READS IS OF BULK AT MOST 1048576: true; the input reads as it did. -/
def pulseWorstUptoRow : OpenClaim := { program := "ytebfaghgcecacaa", sum := "d2efb655309060003c875c7b6d83fcc53e24c34ccb85597510fef52f979c003d", func := "skerry/skerrylaw13.PulseWorst", spec := "pulseWorst", inPlace := ["math.Float64bits", "math.Float64frombits"], apart := false, narrowed := true }
def PulseWorstUptoSaid : Prop := pulseWorstUptoRow.holds Try.pinned (OpenSpec.upto pulseWorstSpec)

/-- 'skerrylaw13.PulseExact', WHERE WHAT IT READS IS OF BULK AT MOST 1048576: true; the input reads as it did. -/
def pulseExactUptoRow : OpenClaim := { program := "ytebfaghgcecacaa", sum := "d2efb655309060003c875c7b6d83fcc53e24c34ccb85597510fef52f979c003d", func := "skerry/skerrylaw13.PulseExact", spec := "pulseExact", inPlace := ["math.Float64bits", "math.Float64frombits"], apart := false, narrowed := true }
def PulseExactUptoSaid : Prop := pulseExactUptoRow.holds Try.pinned (OpenSpec.upto pulseExactSpec)

/-- 'skerrylaw12.RttExact', WHERE WHAT IT READS IS OF BULK AT MOST 1048576: true; the input reads as it did. -/
def rttExactUptoRow : OpenClaim := { program := "ytebfaghgcecacaa", sum := "d2efb655309060003c875c7b6d83fcc53e24c34ccb85597510fef52f979c003d", func := "skerry/skerrylaw12.RttExact", spec := "rttExact", inPlace := ["math.Float64frombits", "math.Float64bits", "math.archMax", "math.archCeil", "math.archFloor", "math.archTrunc"], apart := false, narrowed := true }
def RttExactUptoSaid : Prop := rttExactUptoRow.holds Try.pinned (OpenSpec.upto rttExactSpec)

/-- 'skerrylaw12.RttSound', WHERE WHAT IT READS IS OF BULK AT MOST 1048576: true; the input reads as it did. -/
def rttSoundUptoRow : OpenClaim := { program := "ytebfaghgcecacaa", sum := "d2efb655309060003c875c7b6d83fcc53e24c34ccb85597510fef52f979c003d", func := "skerry/skerrylaw12.RttSound", spec := "rttSound", inPlace := ["math.Float64frombits", "math.Float64bits", "math.archMax", "math.archCeil", "math.archFloor", "math.archTrunc"], apart := false, narrowed := true }
def RttSoundUptoSaid : Prop := rttSoundUptoRow.holds Try.pinned (OpenSpec.upto rttSoundSpec)

/-- 'skerrylaw12.RttSteady', WHERE WHAT IT READS IS OF BULK AT MOST 1048576: true; the input reads as it did. -/
def rttSteadyUptoRow : OpenClaim := { program := "ytebfaghgcecacaa", sum := "d2efb655309060003c875c7b6d83fcc53e24c34ccb85597510fef52f979c003d", func := "skerry/skerrylaw12.RttSteady", spec := "rttSteady", inPlace := ["math.Float64frombits", "math.Float64bits", "math.archMax", "math.archCeil", "math.archFloor", "math.archTrunc"], apart := false, narrowed := true }
def RttSteadyUptoSaid : Prop := rttSteadyUptoRow.holds Try.pinned (OpenSpec.upto rttSteadySpec)

/-- 'skerrylaw12.RttMore', WHERE WHAT IT READS IS OF BULK AT MOST 1048576: true; the input reads as it did. -/
def rttMoreUptoRow : OpenClaim := { program := "ytebfaghgcecacaa", sum := "d2efb655309060003c875c7b6d83fcc53e24c34ccb85597510fef52f979c003d", func := "skerry/skerrylaw12.RttMore", spec := "rttMore", inPlace := ["math.Float64bits", "math.Float64frombits", "math.archMax", "math.archCeil", "math.archFloor", "math.archTrunc"], apart := false, narrowed := true }
def RttMoreUptoSaid : Prop := rttMoreUptoRow.holds Try.pinned (OpenSpec.upto rttMoreSpec)

/-- 'skerrylaw12.RttWorst', WHERE WHAT IT READS IS OF BULK AT MOST 1048576: true; the input reads as it did. -/
def rttWorstUptoRow : OpenClaim := { program := "ytebfaghgcecacaa", sum := "d2efb655309060003c875c7b6d83fcc53e24c34ccb85597510fef52f979c003d", func := "skerry/skerrylaw12.RttWorst", spec := "rttWorst", inPlace := ["math.Float64bits", "math.Float64frombits", "math.archMax", "math.archCeil", "math.archFloor", "math.archTrunc"], apart := false, narrowed := true }
def RttWorstUptoSaid : Prop := rttWorstUptoRow.holds Try.pinned (OpenSpec.upto rttWorstSpec)

end Rows
end Go.Proofs.Ytebfaghgcecacaa
