
/-
  Rows of values that a call has laid itself: joined, parted, one value put in the place of another.
-/
import Derived.Test.YtipjelkdbbhcpaaValR
import Derived.Test.YtipjelkdbbhcpaaInsA
set_option linter.unusedSimpArgs false
set_option linter.unusedVariables false
namespace Go.Proofs.Ytipjelkdbbhcpaa
open Go.RowKit

theorem valC_one (k : Int) (b : Bool) (n : Int) (f : Nat) (s : List UInt8) (B : Option Addr) (len c : Nat) : ∀ u ∈ valC k b n f s B len c, u.oneCell' = true := by
  intro u hu
  simp only [List.mem_cons, List.not_mem_nil, or_false] at hu
  rcases hu with rfl | rfl | rfl | rfl | rfl | rfl <;> rfl
theorem VRow.append {w : World} {ys zs : List Val} {xs us : List Value} (h : VRow w ys xs) (h' : VRow w zs us) : VRow w (ys ++ zs) (xs ++ us) := by
  have hl := h.1
  refine ⟨by rw [List.length_append, List.length_append, h.1, h'.1, Nat.add_mul], fun i x hi => ?_⟩
  by_cases hil : i < ys.length
  · rw [List.getElem?_append_left hil] at hi
    obtain ⟨k, b, n, f, s, B, len, c, h1, h2⟩ := h.2 i x hi
    refine ⟨k, b, n, f, s, B, len, c, h1, fun j u hu => ?_⟩
    have h3 := h2 j u hu
    rw [List.getElem?_append_left (List.getElem?_eq_some_iff.1 h3).1]
    exact h3
  · rw [List.getElem?_append_right (by omega)] at hi
    obtain ⟨k, b, n, f, s, B, len, c, h1, h2⟩ := h'.2 _ x hi
    refine ⟨k, b, n, f, s, B, len, c, h1, fun j u hu => ?_⟩
    have h3 := h2 j u hu
    rw [List.getElem?_append_right (by omega), show i * 6 + j - xs.length = (i - ys.length) * 6 + j by omega]
    exact h3
theorem VRow.take {w : World} {ys : List Val} {xs : List Value} (h : VRow w ys xs) (m : Nat) (hm : m ≤ ys.length) : VRow w (ys.take m) (xs.take (m * 6)) := by
  have hl := h.1
  refine ⟨by rw [List.length_take, List.length_take]; omega, fun i x hi => ?_⟩
  have him : i < m := by have := (List.getElem?_eq_some_iff.1 hi).1; rw [List.length_take] at this; omega
  rw [List.getElem?_take_of_lt him] at hi
  obtain ⟨k, b, n, f, s, B, len, c, h1, h2⟩ := h.2 i x hi
  refine ⟨k, b, n, f, s, B, len, c, h1, fun j u hu => ?_⟩
  have hj : j < 6 := (List.getElem?_eq_some_iff.1 hu).1
  rw [List.getElem?_take_of_lt (by omega)]
  exact h2 j u hu
theorem VRow.drop {w : World} {ys : List Val} {xs : List Value} (h : VRow w ys xs) (m : Nat) : VRow w (ys.drop m) (xs.drop (m * 6)) := by
  have hl := h.1
  refine ⟨by rw [List.length_drop, List.length_drop]; omega, fun i x hi => ?_⟩
  rw [List.getElem?_drop] at hi
  obtain ⟨k, b, n, f, s, B, len, c, h1, h2⟩ := h.2 _ x hi
  refine ⟨k, b, n, f, s, B, len, c, h1, fun j u hu => ?_⟩
  rw [List.getElem?_drop, show m * 6 + (i * 6 + j) = (m + i) * 6 + j by omega]
  exact h2 j u hu
theorem VRow.single {w : World} {k : Int} {b : Bool} {n : Int} {f : Nat} {s : List UInt8} {B : Option Addr} {len c : Nat} {x : Val} (hx : Has w (valV k b n f s B len c) x) : VRow w [x] (valC k b n f s B len c) := (VRow.nil w).snoc hx
theorem VRow.one {w : World} {ys : List Val} {xs : List Value} (h : VRow w ys xs) : ∀ u ∈ xs, u.oneCell' = true := by
  intro u hu
  obtain ⟨p, hp, rfl⟩ := List.mem_iff_getElem.1 hu
  have hl := h.1
  have hi : p / 6 < ys.length := by omega
  obtain ⟨k, b, n, f, s, B, len, c, h1, h2⟩ := h.2 (p / 6) _ (List.getElem?_eq_getElem hi)
  have hm : p % 6 < (valC k b n f s B len c).length := Nat.mod_lt _ (by decide)
  have h3 := h2 (p % 6) _ (List.getElem?_eq_getElem hm)
  rw [show p / 6 * 6 + p % 6 = p by omega, List.getElem?_eq_getElem hp] at h3
  rw [Option.some.inj h3]
  exact valC_one k b n f s B len c _ (List.getElem_mem hm)
theorem VRow.put {w : World} {ys : List Val} {xs : List Value} (h : VRow w ys xs) {i : Nat} (hi : i < ys.length) {k : Int} {b : Bool} {n : Int} {f : Nat} {s : List UInt8} {B : Option Addr} {len c : Nat} {x : Val} (hx : Has w (valV k b n f s B len c) x) :
    VRow w (ys.set i x) (puts xs (i * 6) (valC k b n f s B len c)) := by
  have e : ys.set i x = ys.take i ++ [x] ++ ys.drop (i + 1) := by rw [List.set_eq_take_append_cons_drop, if_pos hi]; simp
  have := ((h.take i (by omega)).append (VRow.single hx)).append (h.drop (i + 1))
  rw [← e] at this
  unfold puts
  rw [show i * 6 + (valC k b n f s B len c).length = (i + 1) * 6 by simp; omega]
  exact this
/-- values put among others -/
theorem VRow.insert {w : World} {ys zs : List Val} {xs us : List Value} (h : VRow w ys xs) (h' : VRow w zs us) (i : Nat) (hi : i ≤ ys.length) : VRow w (ys.take i ++ zs ++ ys.drop i) (xs.take (i * 6) ++ us ++ xs.drop (i * 6)) :=
  ((h.take i hi).append h').append (h.drop i)
theorem own_stays {w w' : World} {base : Nat} {e : TypeId} {size : Nat} {v : Value} {n : Nat} {xs : List Value} (h : w.ownsRow base e size v n xs) (hb : Below w.heap.size w w') : w'.ownsRow base e size v n xs := by
  refine ⟨h.1, ?_⟩
  rcases h.2 with h | ⟨g, cap, cur, hv, hbg, hc, hr⟩
  · exact .inl h
  · exact .inr ⟨g, cap, cur, hv, hbg, (hb.block g (Array.getElem?_eq_some_iff.1 hc).1).trans hc, hr⟩
theorem own_block {w : World} {base : Nat} {e : TypeId} {size : Nat} {v : Value} {n : Nat} {xs : List Value} (h : w.ownsRow base e size v n xs) {g : Nat} (hg : g < base) : v.ownBlock ≠ some g := fun e => by
  have := (h.lt g e).1
  omega
theorem own_form {w : World} {base : Nat} {e : TypeId} {size : Nat} {v : Value} {n : Nat} {xs : List Value} (h : w.ownsRow base e size v n xs) : ∃ A cap, v = .slice A n cap ∧ n ≤ cap ∧ cap ≤ maxLen := by
  rcases h.2 with ⟨hv, hn⟩ | ⟨gb, cap, cur, hv, _, _, hnc, hm, _⟩
  · exact ⟨none, 0, by rw [hv, hn], by omega, Nat.zero_le _⟩
  · exact ⟨_, cap, hv, hnc, hm⟩
theorem own_some {w : World} {base : Nat} {e : TypeId} {size : Nat} {v : Value} {n : Nat} {xs : List Value} (h : w.ownsRow base e size v n xs) (hn : 0 < n) : ∃ g cap, v = .slice (some ⟨g, 0, none⟩) n cap ∧ base ≤ g ∧ g < w.heap.size ∧ n ≤ cap ∧ cap ≤ maxLen := by
  rcases h.2 with ⟨hv, hn'⟩ | ⟨gb, cap, cur, hv, hb, hc, hnc, hm, _⟩
  · omega
  · exact ⟨_, cap, hv, hb, (Array.getElem?_eq_some_iff.1 hc).1, hnc, hm⟩
theorem vrow_grown {w w' : World} {base B : Nat} {e : TypeId} {size : Nat} {v : Value} {n : Nat} {xs : List Value} (hg : w.grownBy w' v.ownBlock) (h : w.ownsRow base e size v n xs) (hB : B ≤ base) (hBs : B ≤ w.heap.size) : Below B w w' :=
  ((Below.refl w.heap.size w).mono hBs).grown hg hBs fun k hk => Nat.le_trans hB (h.lt k hk).1
end Go.Proofs.Ytipjelkdbbhcpaa
