/-
  Four bytes joined by shifts and ors are the number that they say.
-/
import Derived.Test.YtijkliffgihglaaBytesR
set_option linter.unusedSimpArgs false
set_option linter.unusedVariables false
namespace Go.Proofs.Ytijkliffgihglaa
open Go.RowKit

theorem wrap_i64_id (n : Int) (h0 : 0 ≤ n) (h1 : n < 9223372036854775808) : IntKind.i64.wrap n = n := by
  simp [IntKind.wrap, IntKind.bits, IntKind.signed]; omega
theorem or_i64 (x y m : Nat) (e : Nat) (hx : x * 2 ^ e < 9223372036854775808) (hy : y < 2 ^ e) (hm : x * 2 ^ e + y < 9223372036854775808) :
    bits .or .i64 ((x * 2 ^ e : Nat) : Int) (y : Int) = ((x * 2 ^ e + y : Nat) : Int) := by
  have h : bits .or .i64 ((x * 2 ^ e : Nat) : Int) (y : Int) = IntKind.i64.wrap ((BitVec.ofInt 64 ((x * 2 ^ e : Nat) : Int) ||| BitVec.ofInt 64 (y : Int)).toNat : Int) := rfl
  have bv : ∀ x : Nat, x < 18446744073709551616 → (BitVec.ofInt 64 (x : Int)).toNat = x := fun x hx => by rw [BitVec.toNat_ofInt]; omega
  have hy' : y < 9223372036854775808 := Nat.lt_of_le_of_lt (Nat.le_add_left _ _) hm
  rw [h, BitVec.toNat_or, bv _ (by omega), bv _ (by omega)]
  have := Nat.two_pow_add_eq_or_of_lt (b := y) (i := e) hy x
  rw [show 2 ^ e * x = x * 2 ^ e by rw [Nat.mul_comm]] at this
  rw [← this]
  exact wrap_i64_id _ (by omega) (by omega)
theorem wide4 (a b c d : UInt8) : wide [a, b, c, d] = ((a.toNat * 256 + b.toNat) * 256 + c.toNat) * 256 + d.toNat := by simp [wide]
theorem or4 (a b c d : UInt8) :
    bits .or .i64 (bits .or .i64 (bits .or .i64 (IntKind.i64.wrap (IntKind.i64.wrap (a.toNat : Int) * 16777216)) (IntKind.i64.wrap (IntKind.i64.wrap (b.toNat : Int) * 65536))) (IntKind.i64.wrap (IntKind.i64.wrap (c.toNat : Int) * 256))) (IntKind.i64.wrap (d.toNat : Int))
      = (wide [a, b, c, d] : Int) := by
  have ha := a.toNat_lt
  have hb := b.toNat_lt
  have hc := c.toNat_lt
  have hd := d.toNat_lt
  rw [wide4]
  generalize a.toNat = a at *
  generalize b.toNat = b at *
  generalize c.toNat = c at *
  generalize d.toNat = d at *
  rw [wrap_i64_id (a : Int) (by omega) (by omega), wrap_i64_id (b : Int) (by omega) (by omega), wrap_i64_id (c : Int) (by omega) (by omega), wrap_i64_id (d : Int) (by omega) (by omega)]
  rw [wrap_i64_id ((a : Int) * 16777216) (by omega) (by omega), wrap_i64_id ((b : Int) * 65536) (by omega) (by omega), wrap_i64_id ((c : Int) * 256) (by omega) (by omega)]
  have s1 := or_i64 a (b * 65536) 0 24 (by omega) (by omega) (by omega)
  have s2 := or_i64 (a * 256 + b) (c * 256) 0 16 (by omega) (by omega) (by omega)
  have s3 := or_i64 ((a * 256 + b) * 256 + c) d 0 8 (by omega) (by omega) (by omega)
  have e1 : ((a : Int) * 16777216) = ((a * 2 ^ 24 : Nat) : Int) := by omega
  have e2 : ((b : Int) * 65536) = ((b * 65536 : Nat) : Int) := by omega
  have e3 : ((c : Int) * 256) = ((c * 256 : Nat) : Int) := by omega
  rw [e1, e2, s1, e3, show a * 2 ^ 24 + b * 65536 = (a * 256 + b) * 2 ^ 16 by omega, s2, show (a * 256 + b) * 2 ^ 16 + c * 256 = ((a * 256 + b) * 256 + c) * 2 ^ 8 by omega, s3]
theorem take4 (t : List UInt8) (a : Nat) (h : a + 3 < t.length) : (t.drop a).take 4 = [t[a], t[a + 1], t[a + 2], t[a + 3]] := by
  apply List.ext_getElem
  · simp; omega
  · intro i h1 h2
    match i, h2 with
    | 0, _ => simp
    | 1, _ => simp
    | 2, _ => simp
    | 3, _ => simp
theorem or4_at (t : List UInt8) (a : Nat) (h : a + 3 < t.length) :
    bits .or .i64 (bits .or .i64 (bits .or .i64 (IntKind.i64.wrap (IntKind.i64.wrap (((st t)[a]'(st_lt (by omega))).toNat : Int) * 16777216)) (IntKind.i64.wrap (IntKind.i64.wrap (((st t)[a + 1]'(st_lt (by omega))).toNat : Int) * 65536))) (IntKind.i64.wrap (IntKind.i64.wrap (((st t)[a + 2]'(st_lt (by omega))).toNat : Int) * 256))) (IntKind.i64.wrap (((st t)[a + 3]'(st_lt (by omega))).toNat : Int))
      = (wide ((t.drop a).take 4) : Int) := by
  rw [take4 t a h, ← or4, st_get t a (by omega), st_get t (a + 1) (by omega), st_get t (a + 2) (by omega), st_get t (a + 3) (by omega)]
end Go.Proofs.Ytijkliffgihglaa
