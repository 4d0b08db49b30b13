/-
  Requests: their check, their bytes, and the reference's.
-/
import Derived.Test.YtijkliffgihglaaBytesR
import Derived.Test.YtijkliffgihglaaFlow
set_option linter.unusedSimpArgs false
set_option linter.unusedVariables false
namespace Go.Proofs.Ytijkliffgihglaa
open Go.RowKit

/-- a request -/
structure Ask where
  id : Int
  kind : Int
  sess : Int
  rules : Int
  fuel : Int
  room : Int
  batch : Int
  body : List UInt8

abbrev askV (id kind sess rules fuel room batch : Int) (body : List UInt8) : Value := .agg #[.int .u64 id, .int .i64 kind, .int .i64 sess, .int .i64 rules, .int .i64 fuel, .int .i64 room, .int .i64 batch, .string (st body)]
def askE (kind sess rules fuel room batch : Int) (len : Nat) : Int :=
  if kind < 1 ∨ 7 < kind ∨ rules < 0 ∨ 255 < rules ∨ sess < 0 ∨ fuel < 0 ∨ room < 0 ∨ batch < 1 ∨ 200 < batch then 1 else if 20000 < len then 3 else 0
def IntEnds (n : Int) (w : World) (e : Ending) (w' : World) : Prop := e = .returned (.int .i64 n) ∧ Below w.heap.size w w'

theorem askE_cases {kind sess rules fuel room batch : Int} {len : Nat} (P : Prop) (h1 : kind < 1 → P) (h2 : ¬ kind < 1 → 7 < kind → P)
    (h3 : ¬ kind < 1 → ¬ 7 < kind → rules < 0 → P) (h4 : ¬ kind < 1 → ¬ 7 < kind → ¬ rules < 0 → 255 < rules → P)
    (h5 : ¬ kind < 1 → ¬ 7 < kind → ¬ rules < 0 → ¬ 255 < rules → sess < 0 → P)
    (h6 : ¬ kind < 1 → ¬ 7 < kind → ¬ rules < 0 → ¬ 255 < rules → ¬ sess < 0 → fuel < 0 → P)
    (h7 : ¬ kind < 1 → ¬ 7 < kind → ¬ rules < 0 → ¬ 255 < rules → ¬ sess < 0 → ¬ fuel < 0 → room < 0 → P)
    (h8 : ¬ kind < 1 → ¬ 7 < kind → ¬ rules < 0 → ¬ 255 < rules → ¬ sess < 0 → ¬ fuel < 0 → ¬ room < 0 → batch < 1 → P)
    (h9 : ¬ kind < 1 → ¬ 7 < kind → ¬ rules < 0 → ¬ 255 < rules → ¬ sess < 0 → ¬ fuel < 0 → ¬ room < 0 → ¬ batch < 1 → 200 < batch → P)
    (h10 : ¬ kind < 1 → ¬ 7 < kind → ¬ rules < 0 → ¬ 255 < rules → ¬ sess < 0 → ¬ fuel < 0 → ¬ room < 0 → ¬ batch < 1 → ¬ 200 < batch → 20000 < (len : Int) → P)
    (h11 : ¬ kind < 1 → ¬ 7 < kind → ¬ rules < 0 → ¬ 255 < rules → ¬ sess < 0 → ¬ fuel < 0 → ¬ room < 0 → ¬ batch < 1 → ¬ 200 < batch → ¬ 20000 < (len : Int) → P) : P := by
  by_cases c1 : kind < 1; · exact h1 c1
  by_cases c2 : 7 < kind; · exact h2 c1 c2
  by_cases c3 : rules < 0; · exact h3 c1 c2 c3
  by_cases c4 : 255 < rules; · exact h4 c1 c2 c3 c4
  by_cases c5 : sess < 0; · exact h5 c1 c2 c3 c4 c5
  by_cases c6 : fuel < 0; · exact h6 c1 c2 c3 c4 c5 c6
  by_cases c7 : room < 0; · exact h7 c1 c2 c3 c4 c5 c6 c7
  by_cases c8 : batch < 1; · exact h8 c1 c2 c3 c4 c5 c6 c7 c8
  by_cases c9 : 200 < batch; · exact h9 c1 c2 c3 c4 c5 c6 c7 c8 c9
  by_cases c10 : 20000 < (len : Int); · exact h10 c1 c2 c3 c4 c5 c6 c7 c8 c9 c10
  exact h11 c1 c2 c3 c4 c5 c6 c7 c8 c9 c10

theorem ret_int' {a b : Int} (h : a = b) : Ending.returned (.int .i64 a) = .returned (.int .i64 b) := by rw [h]

set_option maxHeartbeats 1000000 in
theorem check_c (id kind sess rules fuel room batch : Int) (body : List UInt8) (w : World) (hl : body.length ≤ maxLen) :
    Calls Try.prog 10 #[askV id kind sess rules fuel room batch body] w (IntEnds (askE kind sess rules fuel room batch body.length) w) := by
  unfold maxLen at hl
  refine askE_cases (len := body.length) (kind := kind) (sess := sess) (rules := rules) (fuel := fuel) (room := room) (batch := batch) _ ?_ ?_ ?_ ?_ ?_ ?_ ?_ ?_ ?_ ?_ ?_ <;> intros
  all_goals
    go_enter Try.func10, Try.ntmps10
    go_wp2
    go_ret
    exact ⟨ret_int' (by unfold askE; split <;> (try split) <;> omega), by go_grown⟩
set_option maxHeartbeats 1000000 in
theorem rcheck_c (id kind sess rules fuel room batch : Int) (body : List UInt8) (w : World) (hl : body.length ≤ maxLen) :
    Calls Try.prog 7 #[askV id kind sess rules fuel room batch body] w (IntEnds (askE kind sess rules fuel room batch body.length) w) := by
  unfold maxLen at hl
  refine askE_cases (len := body.length) (kind := kind) (sess := sess) (rules := rules) (fuel := fuel) (room := room) (batch := batch) _ ?_ ?_ ?_ ?_ ?_ ?_ ?_ ?_ ?_ ?_ ?_ <;> intros
  all_goals
    go_enter Try.func7, Try.ntmps7
    go_wp2
    go_ret
    exact ⟨ret_int' (by unfold askE; split <;> (try split) <;> omega), by go_grown⟩
end Go.Proofs.Ytijkliffgihglaa
