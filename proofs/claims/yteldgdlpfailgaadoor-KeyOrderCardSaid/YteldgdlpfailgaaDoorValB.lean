
/-
  How many values stand in one, counted up to so many: the laws' own count.
-/
import Derived.Test.YteldgdlpfailgaaDoorValA
import Derived.Test.YteldgdlpfailgaaDoorFlow
set_option linter.unusedSimpArgs false
set_option linter.unusedVariables false
namespace Go.Proofs.YteldgdlpfailgaaDoor
open Go.RowKit

mutual
def wsz : Val → Nat
  | .mk _ _ _ _ _ l => 1 + wszL l
def wszL : List Val → Nat
  | [] => 0
  | v :: l => wsz v + wszL l
end
theorem wsz_eq (v : Val) : wsz v = 1 + wszL v.l := by cases v; simp [wsz, Val.l]
theorem wsz_pos (v : Val) : 1 ≤ wsz v := by rw [wsz_eq]; omega
theorem wszL_get {l : List Val} : ∀ {i : Nat} {x : Val}, l[i]? = some x → wsz x ≤ wszL l := by
  induction l with
  | nil => intro i x h; simp at h
  | cons v l ih =>
    intro i x h
    rw [wszL]
    cases i with
    | zero => simp at h; subst h; omega
    | succ i => have := ih (i := i) (x := x) (by simpa using h); omega
theorem wsz_part {v x : Val} {i : Nat} (h : v.l[i]? = some x) : wsz x < wsz v := by
  have := wszL_get h
  rw [wsz_eq v]; omega
theorem wszL_append (a b : List Val) : wszL (a ++ b) = wszL a + wszL b := by
  induction a with
  | nil => simp [wszL]
  | cons v a ih => simp [wszL, ih]; omega
theorem wszL_take {l : List Val} {i : Nat} {x : Val} (h : l[i]? = some x) : wszL (l.take (i + 1)) = wszL (l.take i) + wsz x := by
  obtain ⟨hi, rfl⟩ := List.getElem?_eq_some_iff.1 h
  rw [List.take_succ_eq_append_getElem hi, wszL_append]
  simp [wszL]

def WeighEnds (v : Val) (m : Nat) (w : World) (e : Ending) (w' : World) : Prop := ∃ r : Nat, e = .returned (.int .i64 r) ∧ 1 ≤ r ∧ r ≤ m + 1 ∧ (r ≤ m → r = wsz v) ∧ Below w.heap.size w w'
end Go.Proofs.YteldgdlpfailgaaDoor
