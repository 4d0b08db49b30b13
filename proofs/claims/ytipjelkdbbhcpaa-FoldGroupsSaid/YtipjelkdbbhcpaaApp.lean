
/-
  A slice appended to an empty row that has no room: whatever slice it is.
-/
import Derived.Test.YtipjelkdbbhcpaaRel
import Derived.ArgAppend
import Derived.Deep.Upon
set_option linter.unusedSimpArgs false
set_option linter.unusedVariables false
namespace Go.Proofs.Ytipjelkdbbhcpaa
open Go.RowKit

theorem wpList_append_fresh {P : Program} (w : World) {ops : Array Oper} {rest : List Oper} {o : Oper} {a : Act} {Q : Exit → Act → World → Prop}
    (hg : o.guard = none) (s x : Operand) (t : TypeId) (hop : o.op = Op.call { callee := Callee.builtin Builtin.append, args := #[s, x], argTypes := #[t, t] })
    (e : TypeId) (i : TypeInfo) (z : Value) (size bytes : Nat) (h1 : P.underlying t = some (.slice e)) (h2 : P.info? e = some i) (h3 : i.zero = some z) (h4 : i.size = size) (h5 : i.bytes = bytes) (h6 : z.cells.size = size) (h7 : 0 < size)
    (b : Nat) (hs : a.eval s = .slice (some ⟨b, 0, none⟩) 0 0) (T : TypeId) (hT : T = e) (hb : w.heap[b]? = some (.cells #[] T)) (base : Nat) (hbase : base ≤ b)
    (ao : Option Addr) (n cap : Nat) (xs : List Value) (hx : a.eval x = .slice ao n cap) (hnone : ao = none → n = 0) (hl : xs.length = n * size) (hcs : ∀ ad, ao = some ad → ∀ j u, xs[j]? = some u → w.cell? (ad.add j) = some u) (h1c : ∀ u ∈ xs, u.oneCell' = true)
    (b1 : n ≤ maxLen) (b2 : n * bytes ≤ 140737488355328)
    (hK : ∀ v' w', w'.ownsRow base e size v' n xs → Below w.heap.size w w' → wpList P ops Q rest (a.put o.dst v') w') :
    wpList P ops Q (o :: rest) a w := by
  subst hT
  have hlt := (Array.getElem?_eq_some_iff.1 hb).1
  rcases Nat.eq_zero_or_pos n with h0 | h0
  · subst h0
    have hxs : xs = [] := List.eq_nil_of_length_eq_zero (by simpa using hl)
    subst hxs
    subst h4
    have hsrc : Src P i.size t (.slice ao 0 cap) 0 [] w := by
      cases ao with
      | none => exact Src.ofNil w h1 cap
      | some ad => exact Src.ofSlice w h1 ad 0 cap [] (by simp) (fun j u hu => by simp at hu) (fun u hu => by cases hu)
    have hrun := run_append_nothing (P := P) w t t o.type T i h1 h2 (some ⟨b, 0, none⟩) 0 0 (Nat.le_refl _) (.slice ao 0 cap) hsrc
    refine wpList_plain hg fun K hK' => ?_
    unfold Oper.wp
    simp [execOp, hop, resolve, invoke, builtin, hs, hx, hrun, Result.andThen]
    refine hK' _ _ (hK _ w ?_ (Below.refl _ _))
    exact ⟨by simp, .inr ⟨b, 0, #[], rfl, hbase, hb, Nat.le_refl _, by unfold maxLen; omega, by simp, by simp⟩⟩
  · cases ao with
    | none => exact absurd (hnone rfl) (by omega)
    | some ad =>
      refine wpList_append_grows w hg s x t hop T i z size bytes h1 h2 h3 h4 h5 h6 h7 (some ⟨b, 0, none⟩) 0 0 [] hs (fun h => by cases h) (by simp) (fun _ _ j u hu => by simp at hu) ad n cap xs hx hl (hcs ad rfl) h1c (by omega) (by omega) (by rw [Nat.zero_add]; exact b2) ?_
      intro v' w' r1 r2
      refine hK v' w' ?_ ((Below.refl _ _).grown r2 (Nat.le_refl _) fun k hk => by cases hk)
      have := r1.mono (Nat.le_trans hbase (Nat.le_of_lt hlt))
      simpa using this
end Go.Proofs.Ytipjelkdbbhcpaa
