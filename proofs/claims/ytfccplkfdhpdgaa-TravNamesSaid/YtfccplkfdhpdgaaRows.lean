/-
  NARROWER THAN 'FOR EVERY INPUT', by the rows' own cells (each row's printed sentence says how): TravMerges: loops · TravAgain: loops · TravGoes: loops · TravSimple: loops · TravCuts: loops · TravNames: loops.
  DERIVED. THE GIVEN ROWS OF THIS SEAT. 6 by the template 'for every input the law returns true; each argument reads behind the call as it read before'; 0 by the template 'total and deterministic' (their statements: YtfccplkfdhpdgaaTotals.lean).
  GIVEN WITH THE SEED: the statements are not yours to turn. If you find one false, say at which input.
  Laid BY PROGRAM, IN A SANDBOX (cutbox-rows.mjs): the forced cells as the released guide's own fill.sh prints them over the translation 3cc8629febf2ef4f… (all of the seat's roots in one cut). By AI agents, Wed Nov 11 2026. No macro, syntax, notation, axiom, sorry.
-/
import Derived.Test.YtfccplkfdhpdgaaChecked
import GoSem.Claim
import GoSem.ClaimJoined
import GoSem.ClaimMapViews
import Derived.JoinedTies
import Derived.KernelRfl
namespace Go.Proofs.Ytfccplkfdhpdgaa
/- THE CELL 'sum', in the pinned program and in every row, IS THE sha256 OF THE DUMP (.gsa) THAT YtfccplkfdhpdgaaProg.lean LOADS. Nothing in Lean hashes anything: it is a label: what it is worth is what the hold of that sum in a sandbox is worth. -/
noncomputable def Try.pinned : Pinned := { name := "ytfccplkfdhpdgaa", sum := "3cc8629febf2ef4f7f6138d36952ede746d37e63af5c87994a61ffe276a04730", checked := Try.checked }
namespace Rows
def none {H : Type} : Left H := { results := [], args := [] }

/-- 'offshootlaw18.TravMerges': WHATEVER THE INPUT: true; the input reads as it did. -/
def travMergesSpec : ChangeSpec := { name := "travMerges", fn := fun _ => fun
  | [d] => { results := [.lit (.bool true)], args := [d] }
  | _ => none }
def travMergesRow : OpenClaim := { program := "ytfccplkfdhpdgaa", sum := "3cc8629febf2ef4f7f6138d36952ede746d37e63af5c87994a61ffe276a04730", func := "offshoot/offshootlaw18.TravMerges", spec := "travMerges", inPlace := ["math.Float64frombits", "math.Float64bits", "internal/bytealg.abigen_runtime_cmpstring"], unfollowed := true, recurses := true, loops := true, apart := false }
def TravMergesSaid : Prop := travMergesRow.holds Try.pinned (OpenSpec.ofChange travMergesSpec)

/-- ITS FALSE NEIGHBOUR: 'it returns false'. Refute it at one input. -/
def travMergesWrong : ChangeSpec := { name := "travMerges", fn := fun _ => fun
  | [d] => { results := [.lit (.bool false)], args := [d] }
  | _ => none }
def TravMergesWrongFalsely : Prop := travMergesRow.holds Try.pinned (OpenSpec.ofChange travMergesWrong)

/-- 'offshootlaw18.TravAgain': WHATEVER THE INPUT: true; the input reads as it did. -/
def travAgainSpec : ChangeSpec := { name := "travAgain", fn := fun _ => fun
  | [d] => { results := [.lit (.bool true)], args := [d] }
  | _ => none }
def travAgainRow : OpenClaim := { program := "ytfccplkfdhpdgaa", sum := "3cc8629febf2ef4f7f6138d36952ede746d37e63af5c87994a61ffe276a04730", func := "offshoot/offshootlaw18.TravAgain", spec := "travAgain", inPlace := ["math.Float64frombits", "math.Float64bits", "internal/bytealg.abigen_runtime_cmpstring"], unfollowed := true, recurses := true, loops := true, apart := false }
def TravAgainSaid : Prop := travAgainRow.holds Try.pinned (OpenSpec.ofChange travAgainSpec)

/-- ITS FALSE NEIGHBOUR: 'it returns false'. Refute it at one input. -/
def travAgainWrong : ChangeSpec := { name := "travAgain", fn := fun _ => fun
  | [d] => { results := [.lit (.bool false)], args := [d] }
  | _ => none }
def TravAgainWrongFalsely : Prop := travAgainRow.holds Try.pinned (OpenSpec.ofChange travAgainWrong)

/-- 'offshootlaw18.TravGoes': WHATEVER THE INPUT: true; the input reads as it did. -/
def travGoesSpec : ChangeSpec := { name := "travGoes", fn := fun _ => fun
  | [d1, d2, d3] => { results := [.lit (.bool true)], args := [d1, d2, d3] }
  | _ => none }
def travGoesRow : OpenClaim := { program := "ytfccplkfdhpdgaa", sum := "3cc8629febf2ef4f7f6138d36952ede746d37e63af5c87994a61ffe276a04730", func := "offshoot/offshootlaw18.TravGoes", spec := "travGoes", inPlace := ["math.Float64frombits", "math.Float64bits", "internal/bytealg.abigen_runtime_cmpstring"], unfollowed := true, recurses := true, loops := true, apart := false }
def TravGoesSaid : Prop := travGoesRow.holds Try.pinned (OpenSpec.ofChange travGoesSpec)

/-- ITS FALSE NEIGHBOUR: 'it returns false'. Refute it at one input. -/
def travGoesWrong : ChangeSpec := { name := "travGoes", fn := fun _ => fun
  | [d1, d2, d3] => { results := [.lit (.bool false)], args := [d1, d2, d3] }
  | _ => none }
def TravGoesWrongFalsely : Prop := travGoesRow.holds Try.pinned (OpenSpec.ofChange travGoesWrong)

/-- 'offshootlaw18.TravSimple': WHATEVER THE INPUT: true; the input reads as it did. -/
def travSimpleSpec : ChangeSpec := { name := "travSimple", fn := fun _ => fun
  | [d] => { results := [.lit (.bool true)], args := [d] }
  | _ => none }
def travSimpleRow : OpenClaim := { program := "ytfccplkfdhpdgaa", sum := "3cc8629febf2ef4f7f6138d36952ede746d37e63af5c87994a61ffe276a04730", func := "offshoot/offshootlaw18.TravSimple", spec := "travSimple", inPlace := ["math.Float64frombits", "math.Float64bits", "internal/bytealg.abigen_runtime_cmpstring"], unfollowed := true, recurses := true, loops := true, apart := false }
def TravSimpleSaid : Prop := travSimpleRow.holds Try.pinned (OpenSpec.ofChange travSimpleSpec)

/-- ITS FALSE NEIGHBOUR: 'it returns false'. Refute it at one input. -/
def travSimpleWrong : ChangeSpec := { name := "travSimple", fn := fun _ => fun
  | [d] => { results := [.lit (.bool false)], args := [d] }
  | _ => none }
def TravSimpleWrongFalsely : Prop := travSimpleRow.holds Try.pinned (OpenSpec.ofChange travSimpleWrong)

/-- 'offshootlaw18.TravCuts': WHATEVER THE INPUT: true; the input reads as it did. -/
def travCutsSpec : ChangeSpec := { name := "travCuts", fn := fun _ => fun
  | [d1, d2, d3] => { results := [.lit (.bool true)], args := [d1, d2, d3] }
  | _ => none }
def travCutsRow : OpenClaim := { program := "ytfccplkfdhpdgaa", sum := "3cc8629febf2ef4f7f6138d36952ede746d37e63af5c87994a61ffe276a04730", func := "offshoot/offshootlaw18.TravCuts", spec := "travCuts", inPlace := ["math.Float64frombits", "math.Float64bits", "internal/bytealg.abigen_runtime_cmpstring"], unfollowed := true, recurses := true, loops := true, apart := false }
def TravCutsSaid : Prop := travCutsRow.holds Try.pinned (OpenSpec.ofChange travCutsSpec)

/-- ITS FALSE NEIGHBOUR: 'it returns false'. Refute it at one input. -/
def travCutsWrong : ChangeSpec := { name := "travCuts", fn := fun _ => fun
  | [d1, d2, d3] => { results := [.lit (.bool false)], args := [d1, d2, d3] }
  | _ => none }
def TravCutsWrongFalsely : Prop := travCutsRow.holds Try.pinned (OpenSpec.ofChange travCutsWrong)

/-- 'offshootlaw18.TravNames': WHATEVER THE INPUT: true; the input reads as it did. -/
def travNamesSpec : ChangeSpec := { name := "travNames", fn := fun _ => fun
  | [d1, d2, d3] => { results := [.lit (.bool true)], args := [d1, d2, d3] }
  | _ => none }
def travNamesRow : OpenClaim := { program := "ytfccplkfdhpdgaa", sum := "3cc8629febf2ef4f7f6138d36952ede746d37e63af5c87994a61ffe276a04730", func := "offshoot/offshootlaw18.TravNames", spec := "travNames", inPlace := ["math.Float64frombits", "math.Float64bits", "internal/bytealg.abigen_runtime_cmpstring"], unfollowed := true, recurses := true, loops := true, apart := false }
def TravNamesSaid : Prop := travNamesRow.holds Try.pinned (OpenSpec.ofChange travNamesSpec)

/-- ITS FALSE NEIGHBOUR: 'it returns false'. Refute it at one input. -/
def travNamesWrong : ChangeSpec := { name := "travNames", fn := fun _ => fun
  | [d1, d2, d3] => { results := [.lit (.bool false)], args := [d1, d2, d3] }
  | _ => none }
def TravNamesWrongFalsely : Prop := travNamesRow.holds Try.pinned (OpenSpec.ofChange travNamesWrong)

/- THE SECOND FORM. 'bulk': how many values and letters a reading holds, each counted each time it is reached (what is shared counts as often as it is met; a slice's spare places count too). A statement '..UptoSaid' is the law's where the arguments, and the package variables that the reading takes, are together of bulk at most 1048576: NARROWER than '..Said'. Prove '..Said' where nothing that the law and all that it calls make is longer than what came in: it says more and counts as full. Else prove '..UptoSaid'. A law counts once. -/
mutual
def uptoBulk {H : Type} : DataW H → Nat
  | .lit (.string bytes) => bytes.length + 1
  | .lit _ => 1
  | .nil => 1
  | .ptr d => uptoBulk d + 1
  | .slice elems spare => uptoBulkAll elems + uptoBulkAll spare + 1
  | .agg parts => uptoBulkAll parts + 1
  | .iface _ d => uptoBulk d + 1
  | .map entries => uptoBulkEntries entries + 1
  | .held _ => 1
def uptoBulkAll {H : Type} : List (DataW H) → Nat
  | [] => 0
  | d :: r => uptoBulk d + uptoBulkAll r
def uptoBulkEntries {H : Type} : List (Lit × DataW H) → Nat
  | [] => 0
  | x :: r => uptoBulkEntry x + uptoBulkEntries r
def uptoBulkEntry {H : Type} : Lit × DataW H → Nat
  | (.string bytes, d) => bytes.length + uptoBulk d + 1
  | (_, d) => uptoBulk d + 1
 end
def uptoSmall : (H : Type) → List (DataW H) → Bool := fun _ ds => decide (uptoBulkAll ds ≤ 1048576)
def OpenSpec.upto (s : _root_.Go.ChangeSpec) : _root_.Go.OpenSpec := { _root_.Go.OpenSpec.ofChange s with cond := some uptoSmall }

/-- 'offshootlaw18.TravMerges', WHERE WHAT IT READS IS OF BULK AT MOST 1048576: true; the input reads as it did. -/
def travMergesUptoRow : OpenClaim := { program := "ytfccplkfdhpdgaa", sum := "3cc8629febf2ef4f7f6138d36952ede746d37e63af5c87994a61ffe276a04730", func := "offshoot/offshootlaw18.TravMerges", spec := "travMerges", inPlace := ["math.Float64frombits", "math.Float64bits", "internal/bytealg.abigen_runtime_cmpstring"], unfollowed := true, recurses := true, loops := true, apart := false, narrowed := true }
def TravMergesUptoSaid : Prop := travMergesUptoRow.holds Try.pinned (OpenSpec.upto travMergesSpec)

/-- 'offshootlaw18.TravAgain', WHERE WHAT IT READS IS OF BULK AT MOST 1048576: true; the input reads as it did. -/
def travAgainUptoRow : OpenClaim := { program := "ytfccplkfdhpdgaa", sum := "3cc8629febf2ef4f7f6138d36952ede746d37e63af5c87994a61ffe276a04730", func := "offshoot/offshootlaw18.TravAgain", spec := "travAgain", inPlace := ["math.Float64frombits", "math.Float64bits", "internal/bytealg.abigen_runtime_cmpstring"], unfollowed := true, recurses := true, loops := true, apart := false, narrowed := true }
def TravAgainUptoSaid : Prop := travAgainUptoRow.holds Try.pinned (OpenSpec.upto travAgainSpec)

/-- 'offshootlaw18.TravGoes', WHERE WHAT IT READS IS OF BULK AT MOST 1048576: true; the input reads as it did. -/
def travGoesUptoRow : OpenClaim := { program := "ytfccplkfdhpdgaa", sum := "3cc8629febf2ef4f7f6138d36952ede746d37e63af5c87994a61ffe276a04730", func := "offshoot/offshootlaw18.TravGoes", spec := "travGoes", inPlace := ["math.Float64frombits", "math.Float64bits", "internal/bytealg.abigen_runtime_cmpstring"], unfollowed := true, recurses := true, loops := true, apart := false, narrowed := true }
def TravGoesUptoSaid : Prop := travGoesUptoRow.holds Try.pinned (OpenSpec.upto travGoesSpec)

/-- 'offshootlaw18.TravSimple', WHERE WHAT IT READS IS OF BULK AT MOST 1048576: true; the input reads as it did. -/
def travSimpleUptoRow : OpenClaim := { program := "ytfccplkfdhpdgaa", sum := "3cc8629febf2ef4f7f6138d36952ede746d37e63af5c87994a61ffe276a04730", func := "offshoot/offshootlaw18.TravSimple", spec := "travSimple", inPlace := ["math.Float64frombits", "math.Float64bits", "internal/bytealg.abigen_runtime_cmpstring"], unfollowed := true, recurses := true, loops := true, apart := false, narrowed := true }
def TravSimpleUptoSaid : Prop := travSimpleUptoRow.holds Try.pinned (OpenSpec.upto travSimpleSpec)

/-- 'offshootlaw18.TravCuts', WHERE WHAT IT READS IS OF BULK AT MOST 1048576: true; the input reads as it did. -/
def travCutsUptoRow : OpenClaim := { program := "ytfccplkfdhpdgaa", sum := "3cc8629febf2ef4f7f6138d36952ede746d37e63af5c87994a61ffe276a04730", func := "offshoot/offshootlaw18.TravCuts", spec := "travCuts", inPlace := ["math.Float64frombits", "math.Float64bits", "internal/bytealg.abigen_runtime_cmpstring"], unfollowed := true, recurses := true, loops := true, apart := false, narrowed := true }
def TravCutsUptoSaid : Prop := travCutsUptoRow.holds Try.pinned (OpenSpec.upto travCutsSpec)

/-- 'offshootlaw18.TravNames', WHERE WHAT IT READS IS OF BULK AT MOST 1048576: true; the input reads as it did. -/
def travNamesUptoRow : OpenClaim := { program := "ytfccplkfdhpdgaa", sum := "3cc8629febf2ef4f7f6138d36952ede746d37e63af5c87994a61ffe276a04730", func := "offshoot/offshootlaw18.TravNames", spec := "travNames", inPlace := ["math.Float64frombits", "math.Float64bits", "internal/bytealg.abigen_runtime_cmpstring"], unfollowed := true, recurses := true, loops := true, apart := false, narrowed := true }
def TravNamesUptoSaid : Prop := travNamesUptoRow.holds Try.pinned (OpenSpec.upto travNamesSpec)

end Rows
end Go.Proofs.Ytfccplkfdhpdgaa
