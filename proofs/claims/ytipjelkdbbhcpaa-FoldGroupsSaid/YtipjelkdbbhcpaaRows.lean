/-
  NARROWER THAN 'FOR EVERY INPUT', by the rows' own cells (each row's printed sentence says how): FoldRows: loops · FoldEnds: loops · FoldSums: loops · FoldAdds: loops · FoldTurns: loops · FoldGroups: loops.
  DERIVED. THE GIVEN ROWS OF THIS SEAT. 6 by the template 'for every input the law returns true; each argument reads behind the call as it read before'; 0 by the template 'total and deterministic' (their statements: YtipjelkdbbhcpaaTotals.lean).
  GIVEN WITH THE SEED: the statements are not yours to turn. If you find one false, say at which input.
  Laid BY PROGRAM, IN A SANDBOX (cutbox-rows.mjs): the forced cells as the released guide's own fill.sh prints them over the translation 4f6dad4744ad4137… (all of the seat's roots in one cut). By AI agents, Wed Nov 11 2026. No macro, syntax, notation, axiom, sorry.
-/
import Derived.Test.YtipjelkdbbhcpaaChecked
import GoSem.Claim
import GoSem.ClaimJoined
import GoSem.ClaimMapViews
import Derived.JoinedTies
import Derived.KernelRfl
namespace Go.Proofs.Ytipjelkdbbhcpaa
/- THE CELL 'sum', in the pinned program and in every row, IS THE sha256 OF THE DUMP (.gsa) THAT YtipjelkdbbhcpaaProg.lean LOADS. Nothing in Lean hashes anything: it is a label: what it is worth is what the hold of that sum in a sandbox is worth. -/
noncomputable def Try.pinned : Pinned := { name := "ytipjelkdbbhcpaa", sum := "4f6dad4744ad41375ca93419ccc90d9b9fbab9685f0d64826a5957b418339e5b", checked := Try.checked }
namespace Rows
def none {H : Type} : Left H := { results := [], args := [] }

/-- 'offshootlaw19.FoldRows': WHATEVER THE INPUT: true; the input reads as it did. -/
def foldRowsSpec : ChangeSpec := { name := "foldRows", fn := fun _ => fun
  | [d] => { results := [.lit (.bool true)], args := [d] }
  | _ => none }
def foldRowsRow : OpenClaim := { program := "ytipjelkdbbhcpaa", sum := "4f6dad4744ad41375ca93419ccc90d9b9fbab9685f0d64826a5957b418339e5b", func := "offshoot/offshootlaw19.FoldRows", spec := "foldRows", inPlace := ["math.Float64frombits", "math.Float64bits", "internal/bytealg.abigen_runtime_cmpstring"], unfollowed := true, recurses := true, loops := true, apart := false }
def FoldRowsSaid : Prop := foldRowsRow.holds Try.pinned (OpenSpec.ofChange foldRowsSpec)

/-- ITS FALSE NEIGHBOUR: 'it returns false'. Refute it at one input. -/
def foldRowsWrong : ChangeSpec := { name := "foldRows", fn := fun _ => fun
  | [d] => { results := [.lit (.bool false)], args := [d] }
  | _ => none }
def FoldRowsWrongFalsely : Prop := foldRowsRow.holds Try.pinned (OpenSpec.ofChange foldRowsWrong)

/-- 'offshootlaw19.FoldEnds': WHATEVER THE INPUT: true; the input reads as it did. -/
def foldEndsSpec : ChangeSpec := { name := "foldEnds", fn := fun _ => fun
  | [d1, d2] => { results := [.lit (.bool true)], args := [d1, d2] }
  | _ => none }
def foldEndsRow : OpenClaim := { program := "ytipjelkdbbhcpaa", sum := "4f6dad4744ad41375ca93419ccc90d9b9fbab9685f0d64826a5957b418339e5b", func := "offshoot/offshootlaw19.FoldEnds", spec := "foldEnds", inPlace := ["math.Float64frombits", "math.Float64bits", "internal/bytealg.abigen_runtime_cmpstring"], unfollowed := true, recurses := true, loops := true, apart := false }
def FoldEndsSaid : Prop := foldEndsRow.holds Try.pinned (OpenSpec.ofChange foldEndsSpec)

/-- ITS FALSE NEIGHBOUR: 'it returns false'. Refute it at one input. -/
def foldEndsWrong : ChangeSpec := { name := "foldEnds", fn := fun _ => fun
  | [d1, d2] => { results := [.lit (.bool false)], args := [d1, d2] }
  | _ => none }
def FoldEndsWrongFalsely : Prop := foldEndsRow.holds Try.pinned (OpenSpec.ofChange foldEndsWrong)

/-- 'offshootlaw19.FoldSums': WHATEVER THE INPUT: true; the input reads as it did. -/
def foldSumsSpec : ChangeSpec := { name := "foldSums", fn := fun _ => fun
  | [d] => { results := [.lit (.bool true)], args := [d] }
  | _ => none }
def foldSumsRow : OpenClaim := { program := "ytipjelkdbbhcpaa", sum := "4f6dad4744ad41375ca93419ccc90d9b9fbab9685f0d64826a5957b418339e5b", func := "offshoot/offshootlaw19.FoldSums", spec := "foldSums", inPlace := ["math.Float64frombits", "math.Float64bits", "internal/bytealg.abigen_runtime_cmpstring"], unfollowed := true, recurses := true, loops := true, apart := false }
def FoldSumsSaid : Prop := foldSumsRow.holds Try.pinned (OpenSpec.ofChange foldSumsSpec)

/-- ITS FALSE NEIGHBOUR: 'it returns false'. Refute it at one input. -/
def foldSumsWrong : ChangeSpec := { name := "foldSums", fn := fun _ => fun
  | [d] => { results := [.lit (.bool false)], args := [d] }
  | _ => none }
def FoldSumsWrongFalsely : Prop := foldSumsRow.holds Try.pinned (OpenSpec.ofChange foldSumsWrong)

/-- 'offshootlaw19.FoldAdds': WHATEVER THE INPUT: true; the input reads as it did. -/
def foldAddsSpec : ChangeSpec := { name := "foldAdds", fn := fun _ => fun
  | [d1, d2] => { results := [.lit (.bool true)], args := [d1, d2] }
  | _ => none }
def foldAddsRow : OpenClaim := { program := "ytipjelkdbbhcpaa", sum := "4f6dad4744ad41375ca93419ccc90d9b9fbab9685f0d64826a5957b418339e5b", func := "offshoot/offshootlaw19.FoldAdds", spec := "foldAdds", inPlace := ["math.Float64frombits", "math.Float64bits", "internal/bytealg.abigen_runtime_cmpstring"], unfollowed := true, recurses := true, loops := true, apart := false }
def FoldAddsSaid : Prop := foldAddsRow.holds Try.pinned (OpenSpec.ofChange foldAddsSpec)

/-- ITS FALSE NEIGHBOUR: 'it returns false'. Refute it at one input. -/
def foldAddsWrong : ChangeSpec := { name := "foldAdds", fn := fun _ => fun
  | [d1, d2] => { results := [.lit (.bool false)], args := [d1, d2] }
  | _ => none }
def FoldAddsWrongFalsely : Prop := foldAddsRow.holds Try.pinned (OpenSpec.ofChange foldAddsWrong)

/-- 'offshootlaw19.FoldTurns': WHATEVER THE INPUT: true; the input reads as it did. -/
def foldTurnsSpec : ChangeSpec := { name := "foldTurns", fn := fun _ => fun
  | [d1, d2] => { results := [.lit (.bool true)], args := [d1, d2] }
  | _ => none }
def foldTurnsRow : OpenClaim := { program := "ytipjelkdbbhcpaa", sum := "4f6dad4744ad41375ca93419ccc90d9b9fbab9685f0d64826a5957b418339e5b", func := "offshoot/offshootlaw19.FoldTurns", spec := "foldTurns", inPlace := ["math.Float64frombits", "math.Float64bits", "internal/bytealg.abigen_runtime_cmpstring"], unfollowed := true, recurses := true, loops := true, apart := false }
def FoldTurnsSaid : Prop := foldTurnsRow.holds Try.pinned (OpenSpec.ofChange foldTurnsSpec)

/-- ITS FALSE NEIGHBOUR: 'it returns false'. Refute it at one input. -/
def foldTurnsWrong : ChangeSpec := { name := "foldTurns", fn := fun _ => fun
  | [d1, d2] => { results := [.lit (.bool false)], args := [d1, d2] }
  | _ => none }
def FoldTurnsWrongFalsely : Prop := foldTurnsRow.holds Try.pinned (OpenSpec.ofChange foldTurnsWrong)

/-- 'offshootlaw19.FoldGroups': WHATEVER THE INPUT: true; the input reads as it did. -/
def foldGroupsSpec : ChangeSpec := { name := "foldGroups", fn := fun _ => fun
  | [d] => { results := [.lit (.bool true)], args := [d] }
  | _ => none }
def foldGroupsRow : OpenClaim := { program := "ytipjelkdbbhcpaa", sum := "4f6dad4744ad41375ca93419ccc90d9b9fbab9685f0d64826a5957b418339e5b", func := "offshoot/offshootlaw19.FoldGroups", spec := "foldGroups", inPlace := ["math.Float64frombits", "math.Float64bits", "internal/bytealg.abigen_runtime_cmpstring", "slices.overlaps[offshoot/api.Value]", "slices.overlaps[[]int]"], unfollowed := true, recurses := true, loops := true, apart := false }
def FoldGroupsSaid : Prop := foldGroupsRow.holds Try.pinned (OpenSpec.ofChange foldGroupsSpec)

/-- ITS FALSE NEIGHBOUR: 'it returns false'. Refute it at one input. -/
def foldGroupsWrong : ChangeSpec := { name := "foldGroups", fn := fun _ => fun
  | [d] => { results := [.lit (.bool false)], args := [d] }
  | _ => none }
def FoldGroupsWrongFalsely : Prop := foldGroupsRow.holds Try.pinned (OpenSpec.ofChange foldGroupsWrong)

/- THE SECOND FORM. 'bulk': how many values and letters a reading holds, each counted each time it is reached (what is shared counts as often as it is met; a slice's spare places count too). A statement '..UptoSaid' is the law's where the arguments, and the package variables that the reading takes, are together of bulk at most 1048576: NARROWER than '..Said'. Prove '..Said' where nothing that the law and all that it calls make is longer than what came in: it says more and counts as full. Else prove '..UptoSaid'. A law counts once. -/
mutual
def uptoBulk {H : Type} : DataW H → Nat
  | .lit (.string bytes) => bytes.length + 1
  | .lit _ => 1
  | .nil => 1
  | .ptr d => uptoBulk d + 1
  | .slice elems spare => uptoBulkAll elems + uptoBulkAll spare + 1
  | .agg parts => uptoBulkAll parts + 1
  | .iface _ d => uptoBulk d + 1
  | .map entries => uptoBulkEntries entries + 1
  | .held _ => 1
def uptoBulkAll {H : Type} : List (DataW H) → Nat
  | [] => 0
  | d :: r => uptoBulk d + uptoBulkAll r
def uptoBulkEntries {H : Type} : List (Lit × DataW H) → Nat
  | [] => 0
  | x :: r => uptoBulkEntry x + uptoBulkEntries r
def uptoBulkEntry {H : Type} : Lit × DataW H → Nat
  | (.string bytes, d) => bytes.length + uptoBulk d + 1
  | (_, d) => uptoBulk d + 1
 end
def uptoSmall : (H : Type) → List (DataW H) → Bool := fun _ ds => decide (uptoBulkAll ds ≤ 1048576)
def OpenSpec.upto (s : _root_.Go.ChangeSpec) : _root_.Go.OpenSpec := { _root_.Go.OpenSpec.ofChange s with cond := some uptoSmall }

/-- 'offshootlaw19.FoldRows', WHERE WHAT IT READS IS OF BULK AT MOST 1048576: true; the input reads as it did. -/
def foldRowsUptoRow : OpenClaim := { program := "ytipjelkdbbhcpaa", sum := "4f6dad4744ad41375ca93419ccc90d9b9fbab9685f0d64826a5957b418339e5b", func := "offshoot/offshootlaw19.FoldRows", spec := "foldRows", inPlace := ["math.Float64frombits", "math.Float64bits", "internal/bytealg.abigen_runtime_cmpstring"], unfollowed := true, recurses := true, loops := true, apart := false, narrowed := true }
def FoldRowsUptoSaid : Prop := foldRowsUptoRow.holds Try.pinned (OpenSpec.upto foldRowsSpec)

/-- 'offshootlaw19.FoldEnds', WHERE WHAT IT READS IS OF BULK AT MOST 1048576: true; the input reads as it did. -/
def foldEndsUptoRow : OpenClaim := { program := "ytipjelkdbbhcpaa", sum := "4f6dad4744ad41375ca93419ccc90d9b9fbab9685f0d64826a5957b418339e5b", func := "offshoot/offshootlaw19.FoldEnds", spec := "foldEnds", inPlace := ["math.Float64frombits", "math.Float64bits", "internal/bytealg.abigen_runtime_cmpstring"], unfollowed := true, recurses := true, loops := true, apart := false, narrowed := true }
def FoldEndsUptoSaid : Prop := foldEndsUptoRow.holds Try.pinned (OpenSpec.upto foldEndsSpec)

/-- 'offshootlaw19.FoldSums', WHERE WHAT IT READS IS OF BULK AT MOST 1048576: true; the input reads as it did. -/
def foldSumsUptoRow : OpenClaim := { program := "ytipjelkdbbhcpaa", sum := "4f6dad4744ad41375ca93419ccc90d9b9fbab9685f0d64826a5957b418339e5b", func := "offshoot/offshootlaw19.FoldSums", spec := "foldSums", inPlace := ["math.Float64frombits", "math.Float64bits", "internal/bytealg.abigen_runtime_cmpstring"], unfollowed := true, recurses := true, loops := true, apart := false, narrowed := true }
def FoldSumsUptoSaid : Prop := foldSumsUptoRow.holds Try.pinned (OpenSpec.upto foldSumsSpec)

/-- 'offshootlaw19.FoldAdds', WHERE WHAT IT READS IS OF BULK AT MOST 1048576: true; the input reads as it did. -/
def foldAddsUptoRow : OpenClaim := { program := "ytipjelkdbbhcpaa", sum := "4f6dad4744ad41375ca93419ccc90d9b9fbab9685f0d64826a5957b418339e5b", func := "offshoot/offshootlaw19.FoldAdds", spec := "foldAdds", inPlace := ["math.Float64frombits", "math.Float64bits", "internal/bytealg.abigen_runtime_cmpstring"], unfollowed := true, recurses := true, loops := true, apart := false, narrowed := true }
def FoldAddsUptoSaid : Prop := foldAddsUptoRow.holds Try.pinned (OpenSpec.upto foldAddsSpec)

/-- 'offshootlaw19.FoldTurns', WHERE WHAT IT READS IS OF BULK AT MOST 1048576: true; the input reads as it did. -/
def foldTurnsUptoRow : OpenClaim := { program := "ytipjelkdbbhcpaa", sum := "4f6dad4744ad41375ca93419ccc90d9b9fbab9685f0d64826a5957b418339e5b", func := "offshoot/offshootlaw19.FoldTurns", spec := "foldTurns", inPlace := ["math.Float64frombits", "math.Float64bits", "internal/bytealg.abigen_runtime_cmpstring"], unfollowed := true, recurses := true, loops := true, apart := false, narrowed := true }
def FoldTurnsUptoSaid : Prop := foldTurnsUptoRow.holds Try.pinned (OpenSpec.upto foldTurnsSpec)

/-- 'offshootlaw19.FoldGroups', WHERE WHAT IT READS IS OF BULK AT MOST 1048576: true; the input reads as it did. -/
def foldGroupsUptoRow : OpenClaim := { program := "ytipjelkdbbhcpaa", sum := "4f6dad4744ad41375ca93419ccc90d9b9fbab9685f0d64826a5957b418339e5b", func := "offshoot/offshootlaw19.FoldGroups", spec := "foldGroups", inPlace := ["math.Float64frombits", "math.Float64bits", "internal/bytealg.abigen_runtime_cmpstring", "slices.overlaps[offshoot/api.Value]", "slices.overlaps[[]int]"], unfollowed := true, recurses := true, loops := true, apart := false, narrowed := true }
def FoldGroupsUptoSaid : Prop := foldGroupsUptoRow.holds Try.pinned (OpenSpec.upto foldGroupsSpec)

end Rows
end Go.Proofs.Ytipjelkdbbhcpaa
