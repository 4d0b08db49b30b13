/-
  No cell of these rows narrows 'for every input' (looked for: loops, veiled, ifaces, maps, wideKeys, modest, calm, conditions, laid).
  DERIVED. THE GIVEN ROWS OF THIS SEAT. 10 by the template 'for every input the law returns true; each argument reads behind the call as it read before'; 0 by the template 'total and deterministic' (their statements: YtibgbihleeocpaaTotals.lean).
  GIVEN WITH THE SEED: the statements are not yours to turn. If you find one false, say at which input.
  Laid BY PROGRAM, IN A SANDBOX (cutbox-rows.mjs): the forced cells as the released guide's own fill.sh prints them over the translation f024596444cfc9ee… (all of the seat's roots in one cut). By AI agents, Wed Nov 11 2026. No macro, syntax, notation, axiom, sorry.
-/
import Derived.Test.YtibgbihleeocpaaChecked
import GoSem.Claim
import GoSem.ClaimJoined
import GoSem.ClaimMapViews
import Derived.JoinedTies
import Derived.KernelRfl
namespace Go.Proofs.Ytibgbihleeocpaa
/- THE CELL 'sum', in the pinned program and in every row, IS THE sha256 OF THE DUMP (.gsa) THAT YtibgbihleeocpaaProg.lean LOADS. Nothing in Lean hashes anything: it is a label: what it is worth is what the hold of that sum in a sandbox is worth. -/
noncomputable def Try.pinned : Pinned := { name := "ytibgbihleeocpaa", sum := "f024596444cfc9eeef166e99b0a812afb84f90747aed319f8f4142377ceb1256", checked := Try.checked }
namespace Rows
def none {H : Type} : Left H := { results := [], args := [] }

/-- 'offshootlaw01.NumOrder': WHATEVER THE INPUT: true; the input reads as it did. -/
def numOrderSpec : ChangeSpec := { name := "numOrder", fn := fun _ => fun
  | [d1, d2] => { results := [.lit (.bool true)], args := [d1, d2] }
  | _ => none }
def numOrderRow : OpenClaim := { program := "ytibgbihleeocpaa", sum := "f024596444cfc9eeef166e99b0a812afb84f90747aed319f8f4142377ceb1256", func := "offshoot/offshootlaw01.NumOrder", spec := "numOrder", inPlace := ["math.Float64bits", "math.Float64frombits"], apart := false }
def NumOrderSaid : Prop := numOrderRow.holds Try.pinned (OpenSpec.ofChange numOrderSpec)

/-- ITS FALSE NEIGHBOUR: 'it returns false'. Refute it at one input. -/
def numOrderWrong : ChangeSpec := { name := "numOrder", fn := fun _ => fun
  | [d1, d2] => { results := [.lit (.bool false)], args := [d1, d2] }
  | _ => none }
def NumOrderWrongFalsely : Prop := numOrderRow.holds Try.pinned (OpenSpec.ofChange numOrderWrong)

/-- 'offshootlaw01.NumAdds': WHATEVER THE INPUT: true; the input reads as it did. -/
def numAddsSpec : ChangeSpec := { name := "numAdds", fn := fun _ => fun
  | [d1, d2] => { results := [.lit (.bool true)], args := [d1, d2] }
  | _ => none }
def numAddsRow : OpenClaim := { program := "ytibgbihleeocpaa", sum := "f024596444cfc9eeef166e99b0a812afb84f90747aed319f8f4142377ceb1256", func := "offshoot/offshootlaw01.NumAdds", spec := "numAdds", inPlace := ["math.Float64frombits", "math.Float64bits"], apart := false }
def NumAddsSaid : Prop := numAddsRow.holds Try.pinned (OpenSpec.ofChange numAddsSpec)

/-- ITS FALSE NEIGHBOUR: 'it returns false'. Refute it at one input. -/
def numAddsWrong : ChangeSpec := { name := "numAdds", fn := fun _ => fun
  | [d1, d2] => { results := [.lit (.bool false)], args := [d1, d2] }
  | _ => none }
def NumAddsWrongFalsely : Prop := numAddsRow.holds Try.pinned (OpenSpec.ofChange numAddsWrong)

/-- 'offshootlaw01.NumBack': WHATEVER THE INPUT: true; the input reads as it did. -/
def numBackSpec : ChangeSpec := { name := "numBack", fn := fun _ => fun
  | [d1, d2] => { results := [.lit (.bool true)], args := [d1, d2] }
  | _ => none }
def numBackRow : OpenClaim := { program := "ytibgbihleeocpaa", sum := "f024596444cfc9eeef166e99b0a812afb84f90747aed319f8f4142377ceb1256", func := "offshoot/offshootlaw01.NumBack", spec := "numBack", inPlace := ["math.Float64frombits", "math.Float64bits"], apart := false }
def NumBackSaid : Prop := numBackRow.holds Try.pinned (OpenSpec.ofChange numBackSpec)

/-- ITS FALSE NEIGHBOUR: 'it returns false'. Refute it at one input. -/
def numBackWrong : ChangeSpec := { name := "numBack", fn := fun _ => fun
  | [d1, d2] => { results := [.lit (.bool false)], args := [d1, d2] }
  | _ => none }
def NumBackWrongFalsely : Prop := numBackRow.holds Try.pinned (OpenSpec.ofChange numBackWrong)

/-- 'offshootlaw01.NumSums': WHATEVER THE INPUT: true; the input reads as it did. -/
def numSumsSpec : ChangeSpec := { name := "numSums", fn := fun _ => fun
  | [d] => { results := [.lit (.bool true)], args := [d] }
  | _ => none }
def numSumsRow : OpenClaim := { program := "ytibgbihleeocpaa", sum := "f024596444cfc9eeef166e99b0a812afb84f90747aed319f8f4142377ceb1256", func := "offshoot/offshootlaw01.NumSums", spec := "numSums", inPlace := ["math.Float64frombits", "math.Float64bits"], apart := false }
def NumSumsSaid : Prop := numSumsRow.holds Try.pinned (OpenSpec.ofChange numSumsSpec)

/-- ITS FALSE NEIGHBOUR: 'it returns false'. Refute it at one input. -/
def numSumsWrong : ChangeSpec := { name := "numSums", fn := fun _ => fun
  | [d] => { results := [.lit (.bool false)], args := [d] }
  | _ => none }
def NumSumsWrongFalsely : Prop := numSumsRow.holds Try.pinned (OpenSpec.ofChange numSumsWrong)

/-- 'offshootlaw01.NumKeys': WHATEVER THE INPUT: true; the input reads as it did. -/
def numKeysSpec : ChangeSpec := { name := "numKeys", fn := fun _ => fun
  | [d1, d2] => { results := [.lit (.bool true)], args := [d1, d2] }
  | _ => none }
def numKeysRow : OpenClaim := { program := "ytibgbihleeocpaa", sum := "f024596444cfc9eeef166e99b0a812afb84f90747aed319f8f4142377ceb1256", func := "offshoot/offshootlaw01.NumKeys", spec := "numKeys", inPlace := ["math.Float64frombits", "math.Float64bits"], apart := false }
def NumKeysSaid : Prop := numKeysRow.holds Try.pinned (OpenSpec.ofChange numKeysSpec)

/-- ITS FALSE NEIGHBOUR: 'it returns false'. Refute it at one input. -/
def numKeysWrong : ChangeSpec := { name := "numKeys", fn := fun _ => fun
  | [d1, d2] => { results := [.lit (.bool false)], args := [d1, d2] }
  | _ => none }
def NumKeysWrongFalsely : Prop := numKeysRow.holds Try.pinned (OpenSpec.ofChange numKeysWrong)

/-- 'offshootlaw01.NumMuls': WHATEVER THE INPUT: true; the input reads as it did. -/
def numMulsSpec : ChangeSpec := { name := "numMuls", fn := fun _ => fun
  | [d1, d2] => { results := [.lit (.bool true)], args := [d1, d2] }
  | _ => none }
def numMulsRow : OpenClaim := { program := "ytibgbihleeocpaa", sum := "f024596444cfc9eeef166e99b0a812afb84f90747aed319f8f4142377ceb1256", func := "offshoot/offshootlaw01.NumMuls", spec := "numMuls", inPlace := ["math.Float64frombits", "math.Float64bits"], apart := false }
def NumMulsSaid : Prop := numMulsRow.holds Try.pinned (OpenSpec.ofChange numMulsSpec)

/-- ITS FALSE NEIGHBOUR: 'it returns false'. Refute it at one input. -/
def numMulsWrong : ChangeSpec := { name := "numMuls", fn := fun _ => fun
  | [d1, d2] => { results := [.lit (.bool false)], args := [d1, d2] }
  | _ => none }
def NumMulsWrongFalsely : Prop := numMulsRow.holds Try.pinned (OpenSpec.ofChange numMulsWrong)

/-- 'offshootlaw01.NumParts': WHATEVER THE INPUT: true; the input reads as it did. -/
def numPartsSpec : ChangeSpec := { name := "numParts", fn := fun _ => fun
  | [d1, d2] => { results := [.lit (.bool true)], args := [d1, d2] }
  | _ => none }
def numPartsRow : OpenClaim := { program := "ytibgbihleeocpaa", sum := "f024596444cfc9eeef166e99b0a812afb84f90747aed319f8f4142377ceb1256", func := "offshoot/offshootlaw01.NumParts", spec := "numParts", inPlace := ["math.Float64frombits", "math.Float64bits"], apart := false }
def NumPartsSaid : Prop := numPartsRow.holds Try.pinned (OpenSpec.ofChange numPartsSpec)

/-- ITS FALSE NEIGHBOUR: 'it returns false'. Refute it at one input. -/
def numPartsWrong : ChangeSpec := { name := "numParts", fn := fun _ => fun
  | [d1, d2] => { results := [.lit (.bool false)], args := [d1, d2] }
  | _ => none }
def NumPartsWrongFalsely : Prop := numPartsRow.holds Try.pinned (OpenSpec.ofChange numPartsWrong)

/-- 'offshootlaw01.NumMixes': WHATEVER THE INPUT: true; the input reads as it did. -/
def numMixesSpec : ChangeSpec := { name := "numMixes", fn := fun _ => fun
  | [d1, d2, d3] => { results := [.lit (.bool true)], args := [d1, d2, d3] }
  | _ => none }
def numMixesRow : OpenClaim := { program := "ytibgbihleeocpaa", sum := "f024596444cfc9eeef166e99b0a812afb84f90747aed319f8f4142377ceb1256", func := "offshoot/offshootlaw01.NumMixes", spec := "numMixes", inPlace := ["math.Float64frombits", "math.Float64bits"], apart := false }
def NumMixesSaid : Prop := numMixesRow.holds Try.pinned (OpenSpec.ofChange numMixesSpec)

/-- ITS FALSE NEIGHBOUR: 'it returns false'. Refute it at one input. -/
def numMixesWrong : ChangeSpec := { name := "numMixes", fn := fun _ => fun
  | [d1, d2, d3] => { results := [.lit (.bool false)], args := [d1, d2, d3] }
  | _ => none }
def NumMixesWrongFalsely : Prop := numMixesRow.holds Try.pinned (OpenSpec.ofChange numMixesWrong)

/-- 'offshootlaw01.NumSplits': WHATEVER THE INPUT: true; the input reads as it did. -/
def numSplitsSpec : ChangeSpec := { name := "numSplits", fn := fun _ => fun
  | [d] => { results := [.lit (.bool true)], args := [d] }
  | _ => none }
def numSplitsRow : OpenClaim := { program := "ytibgbihleeocpaa", sum := "f024596444cfc9eeef166e99b0a812afb84f90747aed319f8f4142377ceb1256", func := "offshoot/offshootlaw01.NumSplits", spec := "numSplits", inPlace := ["math.Float64frombits", "math.Float64bits", "math.archTrunc"], apart := false }
def NumSplitsSaid : Prop := numSplitsRow.holds Try.pinned (OpenSpec.ofChange numSplitsSpec)

/-- ITS FALSE NEIGHBOUR: 'it returns false'. Refute it at one input. -/
def numSplitsWrong : ChangeSpec := { name := "numSplits", fn := fun _ => fun
  | [d] => { results := [.lit (.bool false)], args := [d] }
  | _ => none }
def NumSplitsWrongFalsely : Prop := numSplitsRow.holds Try.pinned (OpenSpec.ofChange numSplitsWrong)

/-- 'offshootlaw01.NumWhole': WHATEVER THE INPUT: true; the input reads as it did. -/
def numWholeSpec : ChangeSpec := { name := "numWhole", fn := fun _ => fun
  | [d] => { results := [.lit (.bool true)], args := [d] }
  | _ => none }
def numWholeRow : OpenClaim := { program := "ytibgbihleeocpaa", sum := "f024596444cfc9eeef166e99b0a812afb84f90747aed319f8f4142377ceb1256", func := "offshoot/offshootlaw01.NumWhole", spec := "numWhole", inPlace := ["math.archTrunc", "math.Float64bits", "math.Float64frombits", "math.archFloor"], apart := false }
def NumWholeSaid : Prop := numWholeRow.holds Try.pinned (OpenSpec.ofChange numWholeSpec)

/-- ITS FALSE NEIGHBOUR: 'it returns false'. Refute it at one input. -/
def numWholeWrong : ChangeSpec := { name := "numWhole", fn := fun _ => fun
  | [d] => { results := [.lit (.bool false)], args := [d] }
  | _ => none }
def NumWholeWrongFalsely : Prop := numWholeRow.holds Try.pinned (OpenSpec.ofChange numWholeWrong)

/- THE SECOND FORM. 'bulk': how many values and letters a reading holds, each counted each time it is reached (what is shared counts as often as it is met; a slice's spare places count too). A statement '..UptoSaid' is the law's where the arguments, and the package variables that the reading takes, are together of bulk at most 1048576: NARROWER than '..Said'. Prove '..Said' where nothing that the law and all that it calls make is longer than what came in: it says more and counts as full. Else prove '..UptoSaid'. A law counts once. -/
mutual
def uptoBulk {H : Type} : DataW H → Nat
  | .lit (.string bytes) => bytes.length + 1
  | .lit _ => 1
  | .nil => 1
  | .ptr d => uptoBulk d + 1
  | .slice elems spare => uptoBulkAll elems + uptoBulkAll spare + 1
  | .agg parts => uptoBulkAll parts + 1
  | .iface _ d => uptoBulk d + 1
  | .map entries => uptoBulkEntries entries + 1
  | .held _ => 1
def uptoBulkAll {H : Type} : List (DataW H) → Nat
  | [] => 0
  | d :: r => uptoBulk d + uptoBulkAll r
def uptoBulkEntries {H : Type} : List (Lit × DataW H) → Nat
  | [] => 0
  | x :: r => uptoBulkEntry x + uptoBulkEntries r
def uptoBulkEntry {H : Type} : Lit × DataW H → Nat
  | (.string bytes, d) => bytes.length + uptoBulk d + 1
  | (_, d) => uptoBulk d + 1
 end
def uptoSmall : (H : Type) → List (DataW H) → Bool := fun _ ds => decide (uptoBulkAll ds ≤ 1048576)
def OpenSpec.upto (s : _root_.Go.ChangeSpec) : _root_.Go.OpenSpec := { _root_.Go.OpenSpec.ofChange s with cond := some uptoSmall }

/-- 'offshootlaw01.NumOrder', WHERE WHAT IT READS IS OF BULK AT MOST 1048576: true; the input reads as it did. -/
def numOrderUptoRow : OpenClaim := { program := "ytibgbihleeocpaa", sum := "f024596444cfc9eeef166e99b0a812afb84f90747aed319f8f4142377ceb1256", func := "offshoot/offshootlaw01.NumOrder", spec := "numOrder", inPlace := ["math.Float64bits", "math.Float64frombits"], apart := false, narrowed := true }
def NumOrderUptoSaid : Prop := numOrderUptoRow.holds Try.pinned (OpenSpec.upto numOrderSpec)

/-- 'offshootlaw01.NumAdds', WHERE WHAT IT READS IS OF BULK AT MOST 1048576: true; the input reads as it did. -/
def numAddsUptoRow : OpenClaim := { program := "ytibgbihleeocpaa", sum := "f024596444cfc9eeef166e99b0a812afb84f90747aed319f8f4142377ceb1256", func := "offshoot/offshootlaw01.NumAdds", spec := "numAdds", inPlace := ["math.Float64frombits", "math.Float64bits"], apart := false, narrowed := true }
def NumAddsUptoSaid : Prop := numAddsUptoRow.holds Try.pinned (OpenSpec.upto numAddsSpec)

/-- 'offshootlaw01.NumBack', WHERE WHAT IT READS IS OF BULK AT MOST 1048576: true; the input reads as it did. -/
def numBackUptoRow : OpenClaim := { program := "ytibgbihleeocpaa", sum := "f024596444cfc9eeef166e99b0a812afb84f90747aed319f8f4142377ceb1256", func := "offshoot/offshootlaw01.NumBack", spec := "numBack", inPlace := ["math.Float64frombits", "math.Float64bits"], apart := false, narrowed := true }
def NumBackUptoSaid : Prop := numBackUptoRow.holds Try.pinned (OpenSpec.upto numBackSpec)

/-- 'offshootlaw01.NumSums', WHERE WHAT IT READS IS OF BULK AT MOST 1048576: true; the input reads as it did. -/
def numSumsUptoRow : OpenClaim := { program := "ytibgbihleeocpaa", sum := "f024596444cfc9eeef166e99b0a812afb84f90747aed319f8f4142377ceb1256", func := "offshoot/offshootlaw01.NumSums", spec := "numSums", inPlace := ["math.Float64frombits", "math.Float64bits"], apart := false, narrowed := true }
def NumSumsUptoSaid : Prop := numSumsUptoRow.holds Try.pinned (OpenSpec.upto numSumsSpec)

/-- 'offshootlaw01.NumKeys', WHERE WHAT IT READS IS OF BULK AT MOST 1048576: true; the input reads as it did. -/
def numKeysUptoRow : OpenClaim := { program := "ytibgbihleeocpaa", sum := "f024596444cfc9eeef166e99b0a812afb84f90747aed319f8f4142377ceb1256", func := "offshoot/offshootlaw01.NumKeys", spec := "numKeys", inPlace := ["math.Float64frombits", "math.Float64bits"], apart := false, narrowed := true }
def NumKeysUptoSaid : Prop := numKeysUptoRow.holds Try.pinned (OpenSpec.upto numKeysSpec)

/-- 'offshootlaw01.NumMuls', WHERE WHAT IT READS IS OF BULK AT MOST 1048576: true; the input reads as it did. -/
def numMulsUptoRow : OpenClaim := { program := "ytibgbihleeocpaa", sum := "f024596444cfc9eeef166e99b0a812afb84f90747aed319f8f4142377ceb1256", func := "offshoot/offshootlaw01.NumMuls", spec := "numMuls", inPlace := ["math.Float64frombits", "math.Float64bits"], apart := false, narrowed := true }
def NumMulsUptoSaid : Prop := numMulsUptoRow.holds Try.pinned (OpenSpec.upto numMulsSpec)

/-- 'offshootlaw01.NumParts', WHERE WHAT IT READS IS OF BULK AT MOST 1048576: true; the input reads as it did. -/
def numPartsUptoRow : OpenClaim := { program := "ytibgbihleeocpaa", sum := "f024596444cfc9eeef166e99b0a812afb84f90747aed319f8f4142377ceb1256", func := "offshoot/offshootlaw01.NumParts", spec := "numParts", inPlace := ["math.Float64frombits", "math.Float64bits"], apart := false, narrowed := true }
def NumPartsUptoSaid : Prop := numPartsUptoRow.holds Try.pinned (OpenSpec.upto numPartsSpec)

/-- 'offshootlaw01.NumMixes', WHERE WHAT IT READS IS OF BULK AT MOST 1048576: true; the input reads as it did. -/
def numMixesUptoRow : OpenClaim := { program := "ytibgbihleeocpaa", sum := "f024596444cfc9eeef166e99b0a812afb84f90747aed319f8f4142377ceb1256", func := "offshoot/offshootlaw01.NumMixes", spec := "numMixes", inPlace := ["math.Float64frombits", "math.Float64bits"], apart := false, narrowed := true }
def NumMixesUptoSaid : Prop := numMixesUptoRow.holds Try.pinned (OpenSpec.upto numMixesSpec)

/-- 'offshootlaw01.NumSplits', WHERE WHAT IT READS IS OF BULK AT MOST 1048576: true; the input reads as it did. -/
def numSplitsUptoRow : OpenClaim := { program := "ytibgbihleeocpaa", sum := "f024596444cfc9eeef166e99b0a812afb84f90747aed319f8f4142377ceb1256", func := "offshoot/offshootlaw01.NumSplits", spec := "numSplits", inPlace := ["math.Float64frombits", "math.Float64bits", "math.archTrunc"], apart := false, narrowed := true }
def NumSplitsUptoSaid : Prop := numSplitsUptoRow.holds Try.pinned (OpenSpec.upto numSplitsSpec)

/-- 'offshootlaw01.NumWhole', WHERE WHAT IT READS IS OF BULK AT MOST 1048576: true; the input reads as it did. -/
def numWholeUptoRow : OpenClaim := { program := "ytibgbihleeocpaa", sum := "f024596444cfc9eeef166e99b0a812afb84f90747aed319f8f4142377ceb1256", func := "offshoot/offshootlaw01.NumWhole", spec := "numWhole", inPlace := ["math.archTrunc", "math.Float64bits", "math.Float64frombits", "math.archFloor"], apart := false, narrowed := true }
def NumWholeUptoSaid : Prop := numWholeUptoRow.holds Try.pinned (OpenSpec.upto numWholeSpec)

end Rows
end Go.Proofs.Ytibgbihleeocpaa
