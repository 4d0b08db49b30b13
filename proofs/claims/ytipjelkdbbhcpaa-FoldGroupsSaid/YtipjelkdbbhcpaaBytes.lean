
/-
  val.Eight, Two, Wide and the reference's: bytes of numbers. Strings are told as lists of bytes.
-/
import Derived.Test.YtipjelkdbbhcpaaRet
import Derived.WalkKit
import Derived.WalkSpells
import Derived.WalkLawsBesides
import Derived.Lib.Hide
import Derived.Handy
import Derived.KernelRfl
import Derived.Laws.BytesArg
set_option linter.unusedSimpArgs false
set_option linter.unusedVariables false
namespace Go.Proofs.Ytipjelkdbbhcpaa
open Go.RowKit

/-- a string of these bytes -/
abbrev st (l : List UInt8) : ByteArray := ⟨l.toArray⟩
def byte (n : Int) : UInt8 := UInt8.ofNat n.toNat
def twoL (n : Int) : List UInt8 := [byte (n / 256 % 256), byte (n % 256)]
def eightL (n : Int) : List UInt8 := [byte (n / 72057594037927936 % 256), byte (n / 281474976710656 % 256), byte (n / 1099511627776 % 256), byte (n / 4294967296 % 256), byte (n / 16777216 % 256), byte (n / 65536 % 256), byte (n / 256 % 256), byte (n % 256)]
theorem ret_str {a b : List UInt8} (h : a = b) : Ending.returned (.string (st a)) = .returned (.string (st b)) := by rw [h]
def StrEnds (l : List UInt8) (w : World) (e : Ending) (w' : World) : Prop := e = .returned (.string (st l)) ∧ Below w.heap.size w w'
/-- the number of bytes, the highest first -/
def wide (l : List UInt8) : Nat := l.foldl (fun n c => n * 256 + c.toNat) 0
theorem wide_snoc (l : List UInt8) (c : UInt8) : wide (l ++ [c]) = wide l * 256 + c.toNat := by simp [wide]
theorem wide_lt (l : List UInt8) : wide l < 256 ^ l.length := by
  suffices h : ∀ (l : List UInt8) (n k : Nat), n < 256 ^ k → l.foldl (fun n c => n * 256 + c.toNat) n < 256 ^ (k + l.length) from by
    have := h l 0 0 (by decide); simpa [wide] using this
  intro l
  induction l with
  | nil => intro n k h; simpa using h
  | cons c l ih =>
    intro n k h
    have hc := c.toNat_lt
    have := ih (n * 256 + c.toNat) (k + 1) (by rw [Nat.pow_succ]; omega)
    simp only [List.foldl_cons, List.length_cons]
    rwa [show k + 1 + l.length = k + (l.length + 1) by omega] at this
theorem take_snoc (l : List UInt8) (k : Nat) (h : k < l.length) : l.take (k + 1) = l.take k ++ [l[k]] := by
  rw [List.take_succ_eq_append_getElem h]
def wideN (l : List UInt8) (k : Nat) : Int := wide (l.take k)
theorem st_size (l : List UInt8) : (st l).size = l.length := by simp [ByteArray.size]
theorem st_lt {l : List UInt8} {k : Nat} (h : k < l.length) : k < (st l).size := by rw [st_size]; exact h
theorem st_get (l : List UInt8) (k : Nat) (h : k < l.length) : (st l)[k]'(st_lt h) = l[k] := by
  show l.toArray[k]'_ = _
  simp
theorem wrap_u64' (n : Int) : IntKind.u64.wrap n = n % 18446744073709551616 := by simp [IntKind.wrap, IntKind.bits, IntKind.signed]
theorem or_byte (n c : Nat) (hn : n < 72057594037927936) (hc : c < 256) : bits .or .u64 (IntKind.u64.wrap ((n : Int) * 256)) (IntKind.u64.wrap (c : Int)) = ((n * 256 + c : Nat) : Int) := by
  have e1 : IntKind.u64.wrap ((n : Int) * 256) = ((n * 256 : Nat) : Int) := by rw [wrap_u64']; omega
  have e2 : IntKind.u64.wrap (c : Int) = (c : Int) := by rw [wrap_u64']; omega
  rw [e1, e2]
  have e : bits .or .u64 ((n * 256 : Nat) : Int) (c : Int) = IntKind.u64.wrap ((BitVec.ofInt 64 ((n * 256 : Nat) : Int) ||| BitVec.ofInt 64 (c : Int)).toNat : Int) := rfl
  have bv : ∀ x : Nat, x < 18446744073709551616 → (BitVec.ofInt 64 (x : Int)).toNat = x := fun x hx => by rw [BitVec.toNat_ofInt]; omega
  rw [e, BitVec.toNat_or, bv _ (by omega), bv _ (by omega), wrap_u64']
  have := Nat.two_pow_add_eq_or_of_lt (b := c) (i := 8) (by omega) n
  rw [show 2 ^ 8 * n = n * 256 by rw [Nat.mul_comm]] at this
  rw [← this]; omega
theorem wideN_succ (l : List UInt8) (k : Nat) (h : k < l.length) (hk : k < 8) :
    bits .or .u64 (IntKind.u64.wrap (wideN l k * 256)) (IntKind.u64.wrap ((st l)[k]'(st_lt h)).toNat) = wideN l (k + 1) := by
  unfold wideN
  rw [st_get l k h, take_snoc l k h, wide_snoc]
  have h1 := wide_lt (l.take k)
  rw [List.length_take, Nat.min_eq_left (by omega)] at h1
  have h2 : 256 ^ k ≤ 256 ^ 7 := Nat.pow_le_pow_right (by decide) (by omega)
  exact or_byte _ _ (by omega) l[k].toNat_lt
theorem wideN_short {l : List UInt8} (h : l.length ≤ 8) : wideN l l.length = wideN l 8 := by
  unfold wideN
  rw [List.take_of_length_le (Nat.le_refl _), List.take_of_length_le h]
end Go.Proofs.Ytipjelkdbbhcpaa
