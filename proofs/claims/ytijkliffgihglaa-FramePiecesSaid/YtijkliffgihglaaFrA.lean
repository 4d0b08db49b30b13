/-
  Frames: what the bytes begin with; Put; Held.
-/
import Derived.Test.YtijkliffgihglaaBytesR
import Derived.Test.YtijkliffgihglaaFlow
set_option linter.unusedSimpArgs false
set_option linter.unusedVariables false
namespace Go.Proofs.Ytijkliffgihglaa
open Go.RowKit

/-- the frames that bytes begin with, what is left, and whether one says too much -/
def parse : Nat → List UInt8 → List (List UInt8) × List UInt8 × Bool
  | 0, h => ([], h, false)
  | k + 1, h =>
    if h.length < 4 then ([], h, false)
    else if 30000 < wide (h.take 4) then ([], [], true)
    else if h.length < 4 + wide (h.take 4) then ([], h, false)
    else ((h.drop 4).take (wide (h.take 4)) :: (parse k (h.drop (4 + wide (h.take 4)))).1, (parse k (h.drop (4 + wide (h.take 4)))).2)

def frameL (s : List UInt8) : List UInt8 := (eightL s.length).drop 4 ++ s
theorem frameL_len (s : List UInt8) : (frameL s).length = 4 + s.length := by simp [frameL, eightL]; omega

theorem put_frame_c (s : List UInt8) (w : World) (hl : s.length ≤ 30000) :
    Calls Try.prog 13 #[.string (st s)] w (fun e w' => e = .returned (.tuple #[.string (st (frameL s)), .int .i64 0]) ∧ Below w.heap.size w w') := by
  have h1 : ¬ 30000 < (s.length : Int) := by omega
  have w1 : IntKind.u64.wrap s.length = s.length := by rw [wrap_u64']; omega
  have h8 : (eightL (s.length : Int)).length = 8 := rfl
  have h9 : ¬ 9223372036854775807 < 4 + s.length := by omega
  have c := fun w => eight_c (s.length : Int) w (by omega)
  go_enter Try.func13, Try.ntmps13
  go_wp2_with ((with_reducible refine (c _).mono ?_); rintro e w1 ⟨rfl, hb⟩; (first | ((with_reducible obtain ⟨p, hw''⟩ := In.of2 p hb); subst hw'') | (obtain ⟨p, hw''⟩ := In.of hb; subst hw'')))
  go_ret2
  refine ⟨?_, p.h⟩
  have : (st (eightL (s.length : Int))).extract 4 8 ++ st s = st (frameL s) := by
    apply ByteArray.ext
    simp [frameL, eightL, ByteArray.data_extract]
  exact congrArg (fun x => Ending.returned (.tuple #[.string x, .int .i64 0])) this

theorem put_long_c (s : List UInt8) (w : World) (hl : 30000 < s.length) (hm : s.length ≤ maxLen) :
    Calls Try.prog 13 #[.string (st s)] w (fun e w' => e = .returned (.tuple #[.string (st []), .int .i64 3]) ∧ w = w') := by
  unfold maxLen at hm
  have h1 : 30000 < (s.length : Int) := by omega
  go_enter Try.func13, Try.ntmps13
  go_wp2
  go_ret2
  exact ⟨rfl, rfl⟩

theorem held_nil_c (w : World) : Calls Try.prog 16 #[.pointer none] w (fun e w' => e = .returned (.int .i64 0) ∧ w = w') := by
  go_enter Try.func16, Try.ntmps16
  go_wp2
  go_ret
  exact ⟨rfl, rfl⟩
theorem held_c (rb : Nat) (h : List UInt8) (w : World) (hc : w.cell? ⟨rb, 0, none⟩ = some (.string (st h))) (hl : h.length ≤ 1000000) :
    Calls Try.prog 16 #[.pointer (some ⟨rb, 0, none⟩)] w (fun e w' => e = .returned (.int .i64 h.length) ∧ w = w') := by
  go_enter Try.func16, Try.ntmps16
  go_wp2
  go_ret
  exact ⟨rfl, rfl⟩
theorem feed_nil_c (s : List UInt8) (w : World) : Calls Try.prog 15 #[.pointer none, .string (st s)] w (fun e w' => e = .returned (.tuple #[.slice none 0 0, .int .i64 1]) ∧ w = w') := by
  go_enter Try.func15, Try.ntmps15
  go_wp2
  go_ret2
  exact ⟨rfl, rfl⟩
end Go.Proofs.Ytijkliffgihglaa
