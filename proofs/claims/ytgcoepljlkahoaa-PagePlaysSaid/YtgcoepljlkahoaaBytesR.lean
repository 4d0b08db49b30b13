
/-
  The reference's Eight, Two, Wide.
-/
import Derived.Test.YtgcoepljlkahoaaBytes
set_option linter.unusedSimpArgs false
set_option linter.unusedVariables false
namespace Go.Proofs.Ytgcoepljlkahoaa
open Go.RowKit

@[go_sem] theorem conv1 (w : World) (b : Nat) (x : Int) (h : b = w.heap.size) : (convert 27 9 (.slice (some ⟨b, 0, none⟩) 1 1)).run Try.prog (w.alloc (.cells #[.int .u8 x] 5)) = .ok (.string (st [byte x])) (w.alloc (.cells #[.int .u8 x] 5)) := by
  subst h; exact conv_new w 5 [x]
@[go_sem] theorem conv2 (w : World) (b : Nat) (x y : Int) (h : b = w.heap.size) : (convert 27 9 (.slice (some ⟨b, 0, none⟩) 2 2)).run Try.prog (w.alloc (.cells #[.int .u8 x, .int .u8 y] 5)) = .ok (.string (st [byte x, byte y])) (w.alloc (.cells #[.int .u8 x, .int .u8 y] 5)) := by
  subst h; exact conv_new w 5 [x, y]

@[go_sem] theorem st_append (a b : List UInt8) : (⟨a.toArray⟩ : ByteArray) ++ (⟨b.toArray⟩ : ByteArray) = ⟨(a ++ b).toArray⟩ := by
  apply ByteArray.ext
  simp
set_option maxHeartbeats 400000 in
theorem rtwo_c (n : Int) (w : World) (h0 : 0 ≤ n) (h1 : n ≤ 9223372036854775807) :
    Calls Try.prog 31 #[.int .i64 n] w (StrEnds (twoL n) w) := by
  go_enter Try.func31, Try.ntmps31
  go_wp2
  go_ret
  refine ⟨ret_str ?_, by go_grown⟩
  rfl
theorem eight_eq (n : Int) : [byte (n / 256 / 256 / 256 / 256 / 256 / 256 / 256 % 256), byte (n / 256 / 256 / 256 / 256 / 256 / 256 % 256), byte (n / 256 / 256 / 256 / 256 / 256 % 256), byte (n / 256 / 256 / 256 / 256 % 256), byte (n / 256 / 256 / 256 % 256), byte (n / 256 / 256 % 256), byte (n / 256 % 256), byte (n % 256)] = eightL n := by
  have h2 : n / 256 / 256 = n / 65536 := by omega
  have h3 : n / 65536 / 256 = n / 16777216 := by omega
  have h4 : n / 16777216 / 256 = n / 4294967296 := by omega
  have h5 : n / 4294967296 / 256 = n / 1099511627776 := by omega
  have h6 : n / 1099511627776 / 256 = n / 281474976710656 := by omega
  have h7 : n / 281474976710656 / 256 = n / 72057594037927936 := by omega
  unfold eightL
  rw [h2, h3, h4, h5, h6, h7]
set_option maxHeartbeats 1000000 in
theorem reight_c (n : Int) (w : World) (h0 : 0 ≤ n) (h1 : n ≤ 18446744073709551615) :
    Calls Try.prog 32 #[.int .u64 n] w (StrEnds (eightL n) w) := by
  go_enter Try.func32, Try.ntmps32
  go_wp2
  go_rounds 9
  go_ret
  exact ⟨ret_str (eight_eq n), by go_grown⟩
end Go.Proofs.Ytgcoepljlkahoaa
