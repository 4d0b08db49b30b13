/-
  NARROWER THAN 'FOR EVERY INPUT', by the rows' own cells (each row's printed sentence says how): ValChecks: loops · ValGoesOn: loops · ValApart: loops · ValOrder: loops · ValCopies: loops · ValMaps: loops.
  DERIVED. THE GIVEN ROWS OF THIS SEAT. 8 by the template 'for every input the law returns true; each argument reads behind the call as it read before'; 0 by the template 'total and deterministic' (their statements: YtkbacjlnfmibaaaTotals.lean).
  GIVEN WITH THE SEED: the statements are not yours to turn. If you find one false, say at which input.
  Laid BY PROGRAM, IN A SANDBOX (cutbox-rows.mjs): the forced cells as the released guide's own fill.sh prints them over the translation c703b99e201097eb… (all of the seat's roots in one cut). By AI agents, Wed Nov 11 2026. No macro, syntax, notation, axiom, sorry.
-/
import Derived.Test.YtkbacjlnfmibaaaChecked
import GoSem.Claim
import GoSem.ClaimJoined
import GoSem.ClaimMapViews
import Derived.JoinedTies
import Derived.KernelRfl
namespace Go.Proofs.Ytkbacjlnfmibaaa
/- THE CELL 'sum', in the pinned program and in every row, IS THE sha256 OF THE DUMP (.gsa) THAT YtkbacjlnfmibaaaProg.lean LOADS. Nothing in Lean hashes anything: it is a label: what it is worth is what the hold of that sum in a sandbox is worth. -/
noncomputable def Try.pinned : Pinned := { name := "ytkbacjlnfmibaaa", sum := "c703b99e201097eb0bbce23fb9eaad4aa74189f4411cd427aabd600576b46e58", checked := Try.checked }
namespace Rows
def none {H : Type} : Left H := { results := [], args := [] }

/-- 'offshootlaw02.ValChecks': WHATEVER THE INPUT: true; the input reads as it did. -/
def valChecksSpec : ChangeSpec := { name := "valChecks", fn := fun _ => fun
  | [d] => { results := [.lit (.bool true)], args := [d] }
  | _ => none }
def valChecksRow : OpenClaim := { program := "ytkbacjlnfmibaaa", sum := "c703b99e201097eb0bbce23fb9eaad4aa74189f4411cd427aabd600576b46e58", func := "offshoot/offshootlaw02.ValChecks", spec := "valChecks", inPlace := ["math.Float64bits", "math.Float64frombits", "internal/bytealg.abigen_runtime_cmpstring", "internal/abi.NoEscape"], unfollowed := true, recurses := true, loops := true, apart := false }
def ValChecksSaid : Prop := valChecksRow.holds Try.pinned (OpenSpec.ofChange valChecksSpec)

/-- ITS FALSE NEIGHBOUR: 'it returns false'. Refute it at one input. -/
def valChecksWrong : ChangeSpec := { name := "valChecks", fn := fun _ => fun
  | [d] => { results := [.lit (.bool false)], args := [d] }
  | _ => none }
def ValChecksWrongFalsely : Prop := valChecksRow.holds Try.pinned (OpenSpec.ofChange valChecksWrong)

/-- 'offshootlaw02.ValGoesOn': WHATEVER THE INPUT: true; the input reads as it did. -/
def valGoesOnSpec : ChangeSpec := { name := "valGoesOn", fn := fun _ => fun
  | [d1, d2, d3] => { results := [.lit (.bool true)], args := [d1, d2, d3] }
  | _ => none }
def valGoesOnRow : OpenClaim := { program := "ytkbacjlnfmibaaa", sum := "c703b99e201097eb0bbce23fb9eaad4aa74189f4411cd427aabd600576b46e58", func := "offshoot/offshootlaw02.ValGoesOn", spec := "valGoesOn", inPlace := ["math.Float64bits", "math.Float64frombits", "internal/bytealg.abigen_runtime_cmpstring", "internal/abi.NoEscape"], unfollowed := true, recurses := true, loops := true, apart := false }
def ValGoesOnSaid : Prop := valGoesOnRow.holds Try.pinned (OpenSpec.ofChange valGoesOnSpec)

/-- ITS FALSE NEIGHBOUR: 'it returns false'. Refute it at one input. -/
def valGoesOnWrong : ChangeSpec := { name := "valGoesOn", fn := fun _ => fun
  | [d1, d2, d3] => { results := [.lit (.bool false)], args := [d1, d2, d3] }
  | _ => none }
def ValGoesOnWrongFalsely : Prop := valGoesOnRow.holds Try.pinned (OpenSpec.ofChange valGoesOnWrong)

/-- 'offshootlaw02.ValBytes': WHATEVER THE INPUT: true; the input reads as it did. -/
def valBytesSpec : ChangeSpec := { name := "valBytes", fn := fun _ => fun
  | [d1, d2] => { results := [.lit (.bool true)], args := [d1, d2] }
  | _ => none }
def valBytesRow : OpenClaim := { program := "ytkbacjlnfmibaaa", sum := "c703b99e201097eb0bbce23fb9eaad4aa74189f4411cd427aabd600576b46e58", func := "offshoot/offshootlaw02.ValBytes", spec := "valBytes", inPlace := ["math.Float64bits", "math.Float64frombits", "internal/bytealg.abigen_runtime_cmpstring", "internal/abi.NoEscape"], unfollowed := true, recurses := true, apart := false }
def ValBytesSaid : Prop := valBytesRow.holds Try.pinned (OpenSpec.ofChange valBytesSpec)

/-- ITS FALSE NEIGHBOUR: 'it returns false'. Refute it at one input. -/
def valBytesWrong : ChangeSpec := { name := "valBytes", fn := fun _ => fun
  | [d1, d2] => { results := [.lit (.bool false)], args := [d1, d2] }
  | _ => none }
def ValBytesWrongFalsely : Prop := valBytesRow.holds Try.pinned (OpenSpec.ofChange valBytesWrong)

/-- 'offshootlaw02.ValApart': WHATEVER THE INPUT: true; the input reads as it did. -/
def valApartSpec : ChangeSpec := { name := "valApart", fn := fun _ => fun
  | [d1, d2] => { results := [.lit (.bool true)], args := [d1, d2] }
  | _ => none }
def valApartRow : OpenClaim := { program := "ytkbacjlnfmibaaa", sum := "c703b99e201097eb0bbce23fb9eaad4aa74189f4411cd427aabd600576b46e58", func := "offshoot/offshootlaw02.ValApart", spec := "valApart", inPlace := ["math.Float64bits", "math.Float64frombits", "internal/bytealg.abigen_runtime_cmpstring", "internal/abi.NoEscape"], unfollowed := true, recurses := true, loops := true, apart := false }
def ValApartSaid : Prop := valApartRow.holds Try.pinned (OpenSpec.ofChange valApartSpec)

/-- ITS FALSE NEIGHBOUR: 'it returns false'. Refute it at one input. -/
def valApartWrong : ChangeSpec := { name := "valApart", fn := fun _ => fun
  | [d1, d2] => { results := [.lit (.bool false)], args := [d1, d2] }
  | _ => none }
def ValApartWrongFalsely : Prop := valApartRow.holds Try.pinned (OpenSpec.ofChange valApartWrong)

/-- 'offshootlaw02.ValOrder': WHATEVER THE INPUT: true; the input reads as it did. -/
def valOrderSpec : ChangeSpec := { name := "valOrder", fn := fun _ => fun
  | [d1, d2] => { results := [.lit (.bool true)], args := [d1, d2] }
  | _ => none }
def valOrderRow : OpenClaim := { program := "ytkbacjlnfmibaaa", sum := "c703b99e201097eb0bbce23fb9eaad4aa74189f4411cd427aabd600576b46e58", func := "offshoot/offshootlaw02.ValOrder", spec := "valOrder", inPlace := ["math.Float64bits", "math.Float64frombits", "internal/bytealg.abigen_runtime_cmpstring", "internal/abi.NoEscape"], unfollowed := true, recurses := true, loops := true, apart := false }
def ValOrderSaid : Prop := valOrderRow.holds Try.pinned (OpenSpec.ofChange valOrderSpec)

/-- ITS FALSE NEIGHBOUR: 'it returns false'. Refute it at one input. -/
def valOrderWrong : ChangeSpec := { name := "valOrder", fn := fun _ => fun
  | [d1, d2] => { results := [.lit (.bool false)], args := [d1, d2] }
  | _ => none }
def ValOrderWrongFalsely : Prop := valOrderRow.holds Try.pinned (OpenSpec.ofChange valOrderWrong)

/-- 'offshootlaw02.ValCopies': WHATEVER THE INPUT: true; the input reads as it did. -/
def valCopiesSpec : ChangeSpec := { name := "valCopies", fn := fun _ => fun
  | [d] => { results := [.lit (.bool true)], args := [d] }
  | _ => none }
def valCopiesRow : OpenClaim := { program := "ytkbacjlnfmibaaa", sum := "c703b99e201097eb0bbce23fb9eaad4aa74189f4411cd427aabd600576b46e58", func := "offshoot/offshootlaw02.ValCopies", spec := "valCopies", inPlace := ["math.Float64bits", "math.Float64frombits", "internal/bytealg.abigen_runtime_cmpstring", "internal/abi.NoEscape"], unfollowed := true, recurses := true, loops := true, apart := false }
def ValCopiesSaid : Prop := valCopiesRow.holds Try.pinned (OpenSpec.ofChange valCopiesSpec)

/-- ITS FALSE NEIGHBOUR: 'it returns false'. Refute it at one input. -/
def valCopiesWrong : ChangeSpec := { name := "valCopies", fn := fun _ => fun
  | [d] => { results := [.lit (.bool false)], args := [d] }
  | _ => none }
def ValCopiesWrongFalsely : Prop := valCopiesRow.holds Try.pinned (OpenSpec.ofChange valCopiesWrong)

/-- 'offshootlaw02.ValMakes': WHATEVER THE INPUT: true; the input reads as it did. -/
def valMakesSpec : ChangeSpec := { name := "valMakes", fn := fun _ => fun
  | [d1, d2, d3] => { results := [.lit (.bool true)], args := [d1, d2, d3] }
  | _ => none }
def valMakesRow : OpenClaim := { program := "ytkbacjlnfmibaaa", sum := "c703b99e201097eb0bbce23fb9eaad4aa74189f4411cd427aabd600576b46e58", func := "offshoot/offshootlaw02.ValMakes", spec := "valMakes", inPlace := ["math.Float64bits", "math.Float64frombits", "internal/bytealg.abigen_runtime_cmpstring", "internal/abi.NoEscape"], unfollowed := true, recurses := true, apart := false }
def ValMakesSaid : Prop := valMakesRow.holds Try.pinned (OpenSpec.ofChange valMakesSpec)

/-- ITS FALSE NEIGHBOUR: 'it returns false'. Refute it at one input. -/
def valMakesWrong : ChangeSpec := { name := "valMakes", fn := fun _ => fun
  | [d1, d2, d3] => { results := [.lit (.bool false)], args := [d1, d2, d3] }
  | _ => none }
def ValMakesWrongFalsely : Prop := valMakesRow.holds Try.pinned (OpenSpec.ofChange valMakesWrong)

/-- 'offshootlaw02.ValMaps': WHATEVER THE INPUT: true; the input reads as it did. -/
def valMapsSpec : ChangeSpec := { name := "valMaps", fn := fun _ => fun
  | [d] => { results := [.lit (.bool true)], args := [d] }
  | _ => none }
def valMapsRow : OpenClaim := { program := "ytkbacjlnfmibaaa", sum := "c703b99e201097eb0bbce23fb9eaad4aa74189f4411cd427aabd600576b46e58", func := "offshoot/offshootlaw02.ValMaps", spec := "valMaps", inPlace := ["math.Float64bits", "math.Float64frombits", "internal/bytealg.abigen_runtime_cmpstring", "internal/abi.NoEscape", "slices.overlaps[offshoot/api.Value]"], unfollowed := true, recurses := true, loops := true, apart := false }
def ValMapsSaid : Prop := valMapsRow.holds Try.pinned (OpenSpec.ofChange valMapsSpec)

/-- ITS FALSE NEIGHBOUR: 'it returns false'. Refute it at one input. -/
def valMapsWrong : ChangeSpec := { name := "valMaps", fn := fun _ => fun
  | [d] => { results := [.lit (.bool false)], args := [d] }
  | _ => none }
def ValMapsWrongFalsely : Prop := valMapsRow.holds Try.pinned (OpenSpec.ofChange valMapsWrong)

/- THE SECOND FORM. 'bulk': how many values and letters a reading holds, each counted each time it is reached (what is shared counts as often as it is met; a slice's spare places count too). A statement '..UptoSaid' is the law's where the arguments, and the package variables that the reading takes, are together of bulk at most 1048576: NARROWER than '..Said'. Prove '..Said' where nothing that the law and all that it calls make is longer than what came in: it says more and counts as full. Else prove '..UptoSaid'. A law counts once. -/
mutual
def uptoBulk {H : Type} : DataW H → Nat
  | .lit (.string bytes) => bytes.length + 1
  | .lit _ => 1
  | .nil => 1
  | .ptr d => uptoBulk d + 1
  | .slice elems spare => uptoBulkAll elems + uptoBulkAll spare + 1
  | .agg parts => uptoBulkAll parts + 1
  | .iface _ d => uptoBulk d + 1
  | .map entries => uptoBulkEntries entries + 1
  | .held _ => 1
def uptoBulkAll {H : Type} : List (DataW H) → Nat
  | [] => 0
  | d :: r => uptoBulk d + uptoBulkAll r
def uptoBulkEntries {H : Type} : List (Lit × DataW H) → Nat
  | [] => 0
  | x :: r => uptoBulkEntry x + uptoBulkEntries r
def uptoBulkEntry {H : Type} : Lit × DataW H → Nat
  | (.string bytes, d) => bytes.length + uptoBulk d + 1
  | (_, d) => uptoBulk d + 1
 end
def uptoSmall : (H : Type) → List (DataW H) → Bool := fun _ ds => decide (uptoBulkAll ds ≤ 1048576)
def OpenSpec.upto (s : _root_.Go.ChangeSpec) : _root_.Go.OpenSpec := { _root_.Go.OpenSpec.ofChange s with cond := some uptoSmall }

/-- 'offshootlaw02.ValChecks', WHERE WHAT IT READS IS OF BULK AT MOST 1048576: true; the input reads as it did. -/
def valChecksUptoRow : OpenClaim := { program := "ytkbacjlnfmibaaa", sum := "c703b99e201097eb0bbce23fb9eaad4aa74189f4411cd427aabd600576b46e58", func := "offshoot/offshootlaw02.ValChecks", spec := "valChecks", inPlace := ["math.Float64bits", "math.Float64frombits", "internal/bytealg.abigen_runtime_cmpstring", "internal/abi.NoEscape"], unfollowed := true, recurses := true, loops := true, apart := false, narrowed := true }
def ValChecksUptoSaid : Prop := valChecksUptoRow.holds Try.pinned (OpenSpec.upto valChecksSpec)

/-- 'offshootlaw02.ValGoesOn', WHERE WHAT IT READS IS OF BULK AT MOST 1048576: true; the input reads as it did. -/
def valGoesOnUptoRow : OpenClaim := { program := "ytkbacjlnfmibaaa", sum := "c703b99e201097eb0bbce23fb9eaad4aa74189f4411cd427aabd600576b46e58", func := "offshoot/offshootlaw02.ValGoesOn", spec := "valGoesOn", inPlace := ["math.Float64bits", "math.Float64frombits", "internal/bytealg.abigen_runtime_cmpstring", "internal/abi.NoEscape"], unfollowed := true, recurses := true, loops := true, apart := false, narrowed := true }
def ValGoesOnUptoSaid : Prop := valGoesOnUptoRow.holds Try.pinned (OpenSpec.upto valGoesOnSpec)

/-- 'offshootlaw02.ValBytes', WHERE WHAT IT READS IS OF BULK AT MOST 1048576: true; the input reads as it did. -/
def valBytesUptoRow : OpenClaim := { program := "ytkbacjlnfmibaaa", sum := "c703b99e201097eb0bbce23fb9eaad4aa74189f4411cd427aabd600576b46e58", func := "offshoot/offshootlaw02.ValBytes", spec := "valBytes", inPlace := ["math.Float64bits", "math.Float64frombits", "internal/bytealg.abigen_runtime_cmpstring", "internal/abi.NoEscape"], unfollowed := true, recurses := true, apart := false, narrowed := true }
def ValBytesUptoSaid : Prop := valBytesUptoRow.holds Try.pinned (OpenSpec.upto valBytesSpec)

/-- 'offshootlaw02.ValApart', WHERE WHAT IT READS IS OF BULK AT MOST 1048576: true; the input reads as it did. -/
def valApartUptoRow : OpenClaim := { program := "ytkbacjlnfmibaaa", sum := "c703b99e201097eb0bbce23fb9eaad4aa74189f4411cd427aabd600576b46e58", func := "offshoot/offshootlaw02.ValApart", spec := "valApart", inPlace := ["math.Float64bits", "math.Float64frombits", "internal/bytealg.abigen_runtime_cmpstring", "internal/abi.NoEscape"], unfollowed := true, recurses := true, loops := true, apart := false, narrowed := true }
def ValApartUptoSaid : Prop := valApartUptoRow.holds Try.pinned (OpenSpec.upto valApartSpec)

/-- 'offshootlaw02.ValOrder', WHERE WHAT IT READS IS OF BULK AT MOST 1048576: true; the input reads as it did. -/
def valOrderUptoRow : OpenClaim := { program := "ytkbacjlnfmibaaa", sum := "c703b99e201097eb0bbce23fb9eaad4aa74189f4411cd427aabd600576b46e58", func := "offshoot/offshootlaw02.ValOrder", spec := "valOrder", inPlace := ["math.Float64bits", "math.Float64frombits", "internal/bytealg.abigen_runtime_cmpstring", "internal/abi.NoEscape"], unfollowed := true, recurses := true, loops := true, apart := false, narrowed := true }
def ValOrderUptoSaid : Prop := valOrderUptoRow.holds Try.pinned (OpenSpec.upto valOrderSpec)

/-- 'offshootlaw02.ValCopies', WHERE WHAT IT READS IS OF BULK AT MOST 1048576: true; the input reads as it did. -/
def valCopiesUptoRow : OpenClaim := { program := "ytkbacjlnfmibaaa", sum := "c703b99e201097eb0bbce23fb9eaad4aa74189f4411cd427aabd600576b46e58", func := "offshoot/offshootlaw02.ValCopies", spec := "valCopies", inPlace := ["math.Float64bits", "math.Float64frombits", "internal/bytealg.abigen_runtime_cmpstring", "internal/abi.NoEscape"], unfollowed := true, recurses := true, loops := true, apart := false, narrowed := true }
def ValCopiesUptoSaid : Prop := valCopiesUptoRow.holds Try.pinned (OpenSpec.upto valCopiesSpec)

/-- 'offshootlaw02.ValMakes', WHERE WHAT IT READS IS OF BULK AT MOST 1048576: true; the input reads as it did. -/
def valMakesUptoRow : OpenClaim := { program := "ytkbacjlnfmibaaa", sum := "c703b99e201097eb0bbce23fb9eaad4aa74189f4411cd427aabd600576b46e58", func := "offshoot/offshootlaw02.ValMakes", spec := "valMakes", inPlace := ["math.Float64bits", "math.Float64frombits", "internal/bytealg.abigen_runtime_cmpstring", "internal/abi.NoEscape"], unfollowed := true, recurses := true, apart := false, narrowed := true }
def ValMakesUptoSaid : Prop := valMakesUptoRow.holds Try.pinned (OpenSpec.upto valMakesSpec)

/-- 'offshootlaw02.ValMaps', WHERE WHAT IT READS IS OF BULK AT MOST 1048576: true; the input reads as it did. -/
def valMapsUptoRow : OpenClaim := { program := "ytkbacjlnfmibaaa", sum := "c703b99e201097eb0bbce23fb9eaad4aa74189f4411cd427aabd600576b46e58", func := "offshoot/offshootlaw02.ValMaps", spec := "valMaps", inPlace := ["math.Float64bits", "math.Float64frombits", "internal/bytealg.abigen_runtime_cmpstring", "internal/abi.NoEscape", "slices.overlaps[offshoot/api.Value]"], unfollowed := true, recurses := true, loops := true, apart := false, narrowed := true }
def ValMapsUptoSaid : Prop := valMapsUptoRow.holds Try.pinned (OpenSpec.upto valMapsSpec)

end Rows
end Go.Proofs.Ytkbacjlnfmibaaa
