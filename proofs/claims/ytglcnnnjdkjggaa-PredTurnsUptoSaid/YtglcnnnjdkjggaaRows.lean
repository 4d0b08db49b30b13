/-
  NARROWER THAN 'FOR EVERY INPUT', by the rows' own cells (each row's printed sentence says how): PredChecks: loops · PredTurns: loops.
  DERIVED. THE GIVEN ROWS OF THIS SEAT. 4 by the template 'for every input the law returns true; each argument reads behind the call as it read before'; 0 by the template 'total and deterministic' (their statements: YtglcnnnjdkjggaaTotals.lean).
  GIVEN WITH THE SEED: the statements are not yours to turn. If you find one false, say at which input.
  Laid BY PROGRAM, IN A SANDBOX (cutbox-rows.mjs): the forced cells as the released guide's own fill.sh prints them over the translation d52d9ad49fd3f688… (all of the seat's roots in one cut). By AI agents, Wed Nov 11 2026. No macro, syntax, notation, axiom, sorry.
-/
import Derived.Test.YtglcnnnjdkjggaaChecked
import GoSem.Claim
import GoSem.ClaimJoined
import GoSem.ClaimMapViews
import Derived.JoinedTies
import Derived.KernelRfl
namespace Go.Proofs.Ytglcnnnjdkjggaa
/- THE CELL 'sum', in the pinned program and in every row, IS THE sha256 OF THE DUMP (.gsa) THAT YtglcnnnjdkjggaaProg.lean LOADS. Nothing in Lean hashes anything: it is a label: what it is worth is what the hold of that sum in a sandbox is worth. -/
noncomputable def Try.pinned : Pinned := { name := "ytglcnnnjdkjggaa", sum := "d52d9ad49fd3f68889b5ead0ce16651802ec9cb078e0cd1f73aa8ab9519519b9", checked := Try.checked }
namespace Rows
def none {H : Type} : Left H := { results := [], args := [] }

/-- 'offshootlaw16.PredChecks': WHATEVER THE INPUT: true; the input reads as it did. -/
def predChecksSpec : ChangeSpec := { name := "predChecks", fn := fun _ => fun
  | [d] => { results := [.lit (.bool true)], args := [d] }
  | _ => none }
def predChecksRow : OpenClaim := { program := "ytglcnnnjdkjggaa", sum := "d52d9ad49fd3f68889b5ead0ce16651802ec9cb078e0cd1f73aa8ab9519519b9", func := "offshoot/offshootlaw16.PredChecks", spec := "predChecks", inPlace := ["math.Float64bits", "math.Float64frombits", "internal/bytealg.abigen_runtime_cmpstring", "internal/bytealg.IndexByteString", "internal/bytealg.IndexString"], unfollowed := true, recurses := true, named := ["internal/bytealg.MaxLen"], loops := true, apart := false }
def PredChecksSaid : Prop := predChecksRow.holds Try.pinned (OpenSpec.ofChange predChecksSpec)

/-- ITS FALSE NEIGHBOUR: 'it returns false'. Refute it at one input. -/
def predChecksWrong : ChangeSpec := { name := "predChecks", fn := fun _ => fun
  | [d] => { results := [.lit (.bool false)], args := [d] }
  | _ => none }
def PredChecksWrongFalsely : Prop := predChecksRow.holds Try.pinned (OpenSpec.ofChange predChecksWrong)

/-- 'offshootlaw16.PredFloats': WHATEVER THE INPUT: true; the input reads as it did. -/
def predFloatsSpec : ChangeSpec := { name := "predFloats", fn := fun _ => fun
  | [d1, d2, d3] => { results := [.lit (.bool true)], args := [d1, d2, d3] }
  | _ => none }
def predFloatsRow : OpenClaim := { program := "ytglcnnnjdkjggaa", sum := "d52d9ad49fd3f68889b5ead0ce16651802ec9cb078e0cd1f73aa8ab9519519b9", func := "offshoot/offshootlaw16.PredFloats", spec := "predFloats", inPlace := ["math.Float64bits", "math.Float64frombits", "internal/bytealg.abigen_runtime_cmpstring", "internal/bytealg.IndexByteString", "internal/bytealg.IndexString"], unfollowed := true, recurses := true, named := ["internal/bytealg.MaxLen"], apart := false }
def PredFloatsSaid : Prop := predFloatsRow.holds Try.pinned (OpenSpec.ofChange predFloatsSpec)

/-- ITS FALSE NEIGHBOUR: 'it returns false'. Refute it at one input. -/
def predFloatsWrong : ChangeSpec := { name := "predFloats", fn := fun _ => fun
  | [d1, d2, d3] => { results := [.lit (.bool false)], args := [d1, d2, d3] }
  | _ => none }
def PredFloatsWrongFalsely : Prop := predFloatsRow.holds Try.pinned (OpenSpec.ofChange predFloatsWrong)

/-- 'offshootlaw16.PredTurns': WHATEVER THE INPUT: true; the input reads as it did. -/
def predTurnsSpec : ChangeSpec := { name := "predTurns", fn := fun _ => fun
  | [d1, d2, d3] => { results := [.lit (.bool true)], args := [d1, d2, d3] }
  | _ => none }
def predTurnsRow : OpenClaim := { program := "ytglcnnnjdkjggaa", sum := "d52d9ad49fd3f68889b5ead0ce16651802ec9cb078e0cd1f73aa8ab9519519b9", func := "offshoot/offshootlaw16.PredTurns", spec := "predTurns", inPlace := ["math.Float64bits", "math.Float64frombits", "internal/bytealg.abigen_runtime_cmpstring", "internal/bytealg.IndexByteString", "internal/bytealg.IndexString"], unfollowed := true, recurses := true, named := ["internal/bytealg.MaxLen"], loops := true, apart := false }
def PredTurnsSaid : Prop := predTurnsRow.holds Try.pinned (OpenSpec.ofChange predTurnsSpec)

/-- ITS FALSE NEIGHBOUR: 'it returns false'. Refute it at one input. -/
def predTurnsWrong : ChangeSpec := { name := "predTurns", fn := fun _ => fun
  | [d1, d2, d3] => { results := [.lit (.bool false)], args := [d1, d2, d3] }
  | _ => none }
def PredTurnsWrongFalsely : Prop := predTurnsRow.holds Try.pinned (OpenSpec.ofChange predTurnsWrong)

/-- 'offshootlaw16.PredTexts': WHATEVER THE INPUT: true; the input reads as it did. -/
def predTextsSpec : ChangeSpec := { name := "predTexts", fn := fun _ => fun
  | [d1, d2, d3] => { results := [.lit (.bool true)], args := [d1, d2, d3] }
  | _ => none }
def predTextsRow : OpenClaim := { program := "ytglcnnnjdkjggaa", sum := "d52d9ad49fd3f68889b5ead0ce16651802ec9cb078e0cd1f73aa8ab9519519b9", func := "offshoot/offshootlaw16.PredTexts", spec := "predTexts", inPlace := ["math.Float64bits", "math.Float64frombits", "internal/bytealg.abigen_runtime_cmpstring", "internal/bytealg.IndexByteString", "internal/bytealg.IndexString"], unfollowed := true, recurses := true, named := ["internal/bytealg.MaxLen"], apart := false }
def PredTextsSaid : Prop := predTextsRow.holds Try.pinned (OpenSpec.ofChange predTextsSpec)

/-- ITS FALSE NEIGHBOUR: 'it returns false'. Refute it at one input. -/
def predTextsWrong : ChangeSpec := { name := "predTexts", fn := fun _ => fun
  | [d1, d2, d3] => { results := [.lit (.bool false)], args := [d1, d2, d3] }
  | _ => none }
def PredTextsWrongFalsely : Prop := predTextsRow.holds Try.pinned (OpenSpec.ofChange predTextsWrong)

/- THE SECOND FORM. 'bulk': how many values and letters a reading holds, each counted each time it is reached (what is shared counts as often as it is met; a slice's spare places count too). A statement '..UptoSaid' is the law's where the arguments, and the package variables that the reading takes, are together of bulk at most 1048576: NARROWER than '..Said'. Prove '..Said' where nothing that the law and all that it calls make is longer than what came in: it says more and counts as full. Else prove '..UptoSaid'. A law counts once. -/
mutual
def uptoBulk {H : Type} : DataW H → Nat
  | .lit (.string bytes) => bytes.length + 1
  | .lit _ => 1
  | .nil => 1
  | .ptr d => uptoBulk d + 1
  | .slice elems spare => uptoBulkAll elems + uptoBulkAll spare + 1
  | .agg parts => uptoBulkAll parts + 1
  | .iface _ d => uptoBulk d + 1
  | .map entries => uptoBulkEntries entries + 1
  | .held _ => 1
def uptoBulkAll {H : Type} : List (DataW H) → Nat
  | [] => 0
  | d :: r => uptoBulk d + uptoBulkAll r
def uptoBulkEntries {H : Type} : List (Lit × DataW H) → Nat
  | [] => 0
  | x :: r => uptoBulkEntry x + uptoBulkEntries r
def uptoBulkEntry {H : Type} : Lit × DataW H → Nat
  | (.string bytes, d) => bytes.length + uptoBulk d + 1
  | (_, d) => uptoBulk d + 1
 end
def uptoSmall : (H : Type) → List (DataW H) → Bool := fun _ ds => decide (uptoBulkAll ds ≤ 1048576)
def OpenSpec.upto (s : _root_.Go.ChangeSpec) : _root_.Go.OpenSpec := { _root_.Go.OpenSpec.ofChange s with cond := some uptoSmall }

/-- 'offshootlaw16.PredChecks', WHERE WHAT IT READS IS OF BULK AT MOST 1048576: true; the input reads as it did. -/
def predChecksUptoRow : OpenClaim := { program := "ytglcnnnjdkjggaa", sum := "d52d9ad49fd3f68889b5ead0ce16651802ec9cb078e0cd1f73aa8ab9519519b9", func := "offshoot/offshootlaw16.PredChecks", spec := "predChecks", inPlace := ["math.Float64bits", "math.Float64frombits", "internal/bytealg.abigen_runtime_cmpstring", "internal/bytealg.IndexByteString", "internal/bytealg.IndexString"], unfollowed := true, recurses := true, named := ["internal/bytealg.MaxLen"], loops := true, apart := false, narrowed := true }
def PredChecksUptoSaid : Prop := predChecksUptoRow.holds Try.pinned (OpenSpec.upto predChecksSpec)

/-- 'offshootlaw16.PredFloats', WHERE WHAT IT READS IS OF BULK AT MOST 1048576: true; the input reads as it did. -/
def predFloatsUptoRow : OpenClaim := { program := "ytglcnnnjdkjggaa", sum := "d52d9ad49fd3f68889b5ead0ce16651802ec9cb078e0cd1f73aa8ab9519519b9", func := "offshoot/offshootlaw16.PredFloats", spec := "predFloats", inPlace := ["math.Float64bits", "math.Float64frombits", "internal/bytealg.abigen_runtime_cmpstring", "internal/bytealg.IndexByteString", "internal/bytealg.IndexString"], unfollowed := true, recurses := true, named := ["internal/bytealg.MaxLen"], apart := false, narrowed := true }
def PredFloatsUptoSaid : Prop := predFloatsUptoRow.holds Try.pinned (OpenSpec.upto predFloatsSpec)

/-- 'offshootlaw16.PredTurns', WHERE WHAT IT READS IS OF BULK AT MOST 1048576: true; the input reads as it did. -/
def predTurnsUptoRow : OpenClaim := { program := "ytglcnnnjdkjggaa", sum := "d52d9ad49fd3f68889b5ead0ce16651802ec9cb078e0cd1f73aa8ab9519519b9", func := "offshoot/offshootlaw16.PredTurns", spec := "predTurns", inPlace := ["math.Float64bits", "math.Float64frombits", "internal/bytealg.abigen_runtime_cmpstring", "internal/bytealg.IndexByteString", "internal/bytealg.IndexString"], unfollowed := true, recurses := true, named := ["internal/bytealg.MaxLen"], loops := true, apart := false, narrowed := true }
def PredTurnsUptoSaid : Prop := predTurnsUptoRow.holds Try.pinned (OpenSpec.upto predTurnsSpec)

/-- 'offshootlaw16.PredTexts', WHERE WHAT IT READS IS OF BULK AT MOST 1048576: true; the input reads as it did. -/
def predTextsUptoRow : OpenClaim := { program := "ytglcnnnjdkjggaa", sum := "d52d9ad49fd3f68889b5ead0ce16651802ec9cb078e0cd1f73aa8ab9519519b9", func := "offshoot/offshootlaw16.PredTexts", spec := "predTexts", inPlace := ["math.Float64bits", "math.Float64frombits", "internal/bytealg.abigen_runtime_cmpstring", "internal/bytealg.IndexByteString", "internal/bytealg.IndexString"], unfollowed := true, recurses := true, named := ["internal/bytealg.MaxLen"], apart := false, narrowed := true }
def PredTextsUptoSaid : Prop := predTextsUptoRow.holds Try.pinned (OpenSpec.upto predTextsSpec)

end Rows
end Go.Proofs.Ytglcnnnjdkjggaa
