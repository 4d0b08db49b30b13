
/-
  Two lists, element by element.
-/
import Derived.Test.YtipjelkdbbhcpaaRet
set_option linter.unusedSimpArgs false
set_option linter.unusedVariables false
namespace Go.Proofs.Ytipjelkdbbhcpaa

def eqBy {α : Type} (p : α → α → Bool) : List α → List α → Bool
  | [], [] => true
  | a :: la, b :: lb => p a b && eqBy p la lb
  | _, _ => false
theorem eqBy_len {α : Type} (p : α → α → Bool) : ∀ (la lb : List α), la.length ≠ lb.length → eqBy p la lb = false
  | [], [], h => absurd rfl h
  | [], _ :: _, _ => rfl
  | _ :: _, [], _ => rfl
  | a :: la, b :: lb, h => by
    rw [eqBy, eqBy_len p la lb (by simpa using h)]
    simp
theorem eqBy_step {α : Type} (p : α → α → Bool) {la lb : List α} {i : Nat} {x y : α} (hx : la[i]? = some x) (hy : lb[i]? = some y) : eqBy p (la.drop i) (lb.drop i) = (p x y && eqBy p (la.drop (i + 1)) (lb.drop (i + 1))) := by
  obtain ⟨h1, rfl⟩ := List.getElem?_eq_some_iff.1 hx
  obtain ⟨h2, rfl⟩ := List.getElem?_eq_some_iff.1 hy
  rw [List.drop_eq_getElem_cons h1, List.drop_eq_getElem_cons h2, eqBy]
theorem eqBy_end {α : Type} (p : α → α → Bool) {la lb : List α} {i : Nat} (ha : i = la.length) (hb : la.length = lb.length) : eqBy p (la.drop i) (lb.drop i) = true := by
  rw [List.drop_eq_nil_of_le (by omega), List.drop_eq_nil_of_le (by omega)]
  rfl
theorem eqBy_self {α : Type} {p : α → α → Bool} (h : ∀ x, p x x = true) : ∀ l : List α, eqBy p l l = true
  | [] => rfl
  | x :: l => by simp [eqBy, h x, eqBy_self h l]
theorem eqBy_symm {α : Type} {p : α → α → Bool} (h : ∀ x y, p y x = p x y) : ∀ a b : List α, eqBy p b a = eqBy p a b
  | [], [] => rfl
  | [], _ :: _ => rfl
  | _ :: _, [] => rfl
  | x :: a, y :: b => by simp [eqBy, h x y, eqBy_symm h a b]
theorem eqBy_append {α : Type} {p : α → α → Bool} : ∀ {a b c d : List α}, eqBy p a b = true → eqBy p c d = true → eqBy p (a ++ c) (b ++ d) = true
  | [], [], _, _, _, h => h
  | [], _ :: _, _, _, h, _ => by simp [eqBy] at h
  | _ :: _, [], _, _, h, _ => by simp [eqBy] at h
  | x :: a, y :: b, c, d, h, h2 => by
    simp [eqBy] at h ⊢
    exact ⟨h.1, eqBy_append h.2 h2⟩
theorem eqBy_at {α : Type} {p : α → α → Bool} : ∀ {a b : List α}, eqBy p a b = true → ∀ {i : Nat} {x y : α}, a[i]? = some x → b[i]? = some y → p x y = true
  | [], _, _, i, x, y, hx, _ => by simp at hx
  | _ :: _, [], h, _, _, _, _, _ => by simp [eqBy] at h
  | x0 :: a, y0 :: b, h, i, x, y, hx, hy => by
    simp [eqBy] at h
    cases i with
    | zero => simp at hx hy; rw [← hx, ← hy]; exact h.1
    | succ i => exact eqBy_at h.2 (i := i) (by simpa using hx) (by simpa using hy)
theorem eqBy_true_len {α : Type} {p : α → α → Bool} {a b : List α} (h : eqBy p a b = true) : a.length = b.length := by
  rcases Nat.decEq a.length b.length with h1 | h1
  · rw [eqBy_len p a b h1] at h; cases h
  · exact h1
end Go.Proofs.Ytipjelkdbbhcpaa
