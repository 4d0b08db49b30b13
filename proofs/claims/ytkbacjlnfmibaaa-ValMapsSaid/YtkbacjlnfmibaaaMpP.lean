
/-
  Plain laws of maps of values: keys and values by turns, keys in their order.
-/
import Derived.Test.YtkbacjlnfmibaaaTra
import Derived.Test.YtkbacjlnfmibaaaValP
set_option linter.unusedSimpArgs false
set_option linter.unusedVariables false
namespace Go.Proofs.Ytkbacjlnfmibaaa
open Go.RowKit

/-- a key and its value put among others -/
def insQ : List (Val × Val) → Val → Val → List (Val × Val)
  | [], k, v => [(k, v)]
  | (a, b) :: r, k, v => if cmpV a k < 0 then (a, b) :: insQ r k v else if cmpV a k = 0 then (a, v) :: r else (k, v) :: (a, b) :: r
theorem insQ_mid {k v : Val} : ∀ (q : Nat) (ps : List (Val × Val)), q ≤ ps.length → (∀ (t : Nat) (x : Val × Val), t < q → ps[t]? = some x → cmpV x.1 k < 0) → insQ ps k v = ps.take q ++ insQ (ps.drop q) k v
  | 0, ps, _, _ => by simp
  | q + 1, [], h, _ => by simp at h
  | q + 1, (a, b) :: r, h, hlt => by
    have h0 : cmpV a k < 0 := hlt 0 (a, b) (by omega) rfl
    have ih := insQ_mid (k := k) (v := v) q r (by simpa using h) fun t x ht hx => hlt (t + 1) x (by omega) (by simpa using hx)
    rw [insQ, if_pos h0, ih]
    rfl
theorem insQ_end {k v : Val} {ps : List (Val × Val)} (h : ∀ (t : Nat) (x : Val × Val), t < ps.length → ps[t]? = some x → cmpV x.1 k < 0) : insQ ps k v = ps ++ [(k, v)] := by
  rw [insQ_mid ps.length ps (Nat.le_refl _) h, List.take_length, List.drop_length]
  rfl
theorem insQ_new {k v : Val} {ps : List (Val × Val)} {q : Nat} {x : Val × Val} (hx : ps[q]? = some x) (h : ∀ (t : Nat) (x : Val × Val), t < q → ps[t]? = some x → cmpV x.1 k < 0) (h1 : ¬ cmpV x.1 k < 0) (h2 : ¬ cmpV x.1 k = 0) : insQ ps k v = ps.take q ++ (k, v) :: ps.drop q := by
  obtain ⟨hq, rfl⟩ := List.getElem?_eq_some_iff.1 hx
  rw [insQ_mid q ps (by omega) h, List.drop_eq_getElem_cons hq]
  generalize ps[q] = x at *
  obtain ⟨a, b⟩ := x
  rw [insQ, if_neg h1, if_neg h2]
theorem insQ_old {k v : Val} {ps : List (Val × Val)} {q : Nat} {x : Val × Val} (hx : ps[q]? = some x) (h : ∀ (t : Nat) (x : Val × Val), t < q → ps[t]? = some x → cmpV x.1 k < 0) (h2 : cmpV x.1 k = 0) : insQ ps k v = ps.set q (x.1, v) := by
  obtain ⟨hq, rfl⟩ := List.getElem?_eq_some_iff.1 hx
  rw [insQ_mid q ps (by omega) h, List.set_eq_take_append_cons_drop, if_pos hq, List.drop_eq_getElem_cons hq]
  generalize ps[q] = x at *
  obtain ⟨a, b⟩ := x
  rw [insQ, if_neg (by rw [show cmpV a k = 0 from h2]; omega), if_pos h2]
theorem insQ_len (ps : List (Val × Val)) (k v : Val) : (insQ ps k v).length ≤ ps.length + 1 := by
  induction ps with
  | nil => simp [insQ]
  | cons x r ih =>
    obtain ⟨a, b⟩ := x
    unfold insQ
    split
    · simp only [List.length_cons]; omega
    · split
      · simp
      · simp
theorem insQ_lies {ps : List (Val × Val)} {k v : Val} (h : ∀ x ∈ ps, Lies x.1) (hk : Lies k) : ∀ x ∈ insQ ps k v, Lies x.1 := by
  induction ps with
  | nil => intro x hx; simp [insQ] at hx; subst hx; exact hk
  | cons y r ih =>
    obtain ⟨a, b⟩ := y
    intro x hx
    have ha : Lies a := h (a, b) (by simp)
    have hr : ∀ x ∈ r, Lies x.1 := fun x hx => h x (by simp [hx])
    unfold insQ at hx
    split at hx
    · rcases List.mem_cons.1 hx with rfl | hx
      · exact ha
      · exact ih hr x hx
    · split at hx
      · rcases List.mem_cons.1 hx with rfl | hx
        · exact ha
        · exact hr x hx
      · rcases List.mem_cons.1 hx with rfl | hx
        · exact hk
        · exact h x hx
theorem insQ_comm {k1 k2 v1 v2 : Val} (h1 : Lies k1) (h2 : Lies k2) (hne : cmpV k1 k2 ≠ 0) : ∀ ps : List (Val × Val), (∀ x ∈ ps, Lies x.1) → insQ (insQ ps k1 v1) k2 v2 = insQ (insQ ps k2 v2) k1 v1
  | [], _ => by
    have ha := cmpV_anti k1 k2
    simp only [insQ]
    by_cases c : cmpV k1 k2 < 0
    · rw [if_pos c, if_neg (by omega), if_neg (by omega)]
    · rw [if_neg c, if_neg hne, if_pos (by omega)]
  | (a, b) :: r, hl => by
    have la : Lies a := hl (a, b) (by simp)
    have lr : ∀ x ∈ r, Lies x.1 := fun x hx => hl x (by simp [hx])
    have ih := insQ_comm h1 h2 hne r lr (v1 := v1) (v2 := v2)
    have ha := cmpV_anti k1 k2
    have n1 := cmpV_anti a k1
    have n2 := cmpV_anti a k2
    by_cases c1 : cmpV a k1 < 0
    · by_cases c2 : cmpV a k2 < 0
      · simp only [insQ, c1, c2, if_true]
        rw [ih]
      · by_cases e2 : cmpV a k2 = 0
        · simp [insQ, c1, c2, e2]
        · have t := cmpV_goes h2 la h1 (by omega) (by omega)
          have t' : cmpV k2 k1 < 0 := by omega
          simp [insQ, c1, c2, e2, t']
    · by_cases e1 : cmpV a k1 = 0
      · by_cases c2 : cmpV a k2 < 0
        · simp [insQ, c1, c2, e1]
        · by_cases e2 : cmpV a k2 = 0
          · have t := cmpV_goes h1 la h2 (by omega) (by omega)
            have t' := cmpV_goes h2 la h1 (by omega) (by omega)
            omega
          · have t := cmpV_goes h2 la h1 (by omega) (by omega)
            have t' : cmpV k2 k1 < 0 := by omega
            simp [insQ, c1, c2, e1, e2, t']
      · by_cases c2 : cmpV a k2 < 0
        · have t := cmpV_goes h1 la h2 (by omega) (by omega)
          have t' : cmpV k1 k2 < 0 := by omega
          simp [insQ, c1, c2, e1, t']
        · by_cases e2 : cmpV a k2 = 0
          · have t := cmpV_goes h1 la h2 (by omega) (by omega)
            have t' : cmpV k1 k2 < 0 := by omega
            simp [insQ, c1, c2, e1, e2, t']
          · by_cases c : cmpV k1 k2 < 0
            · have c' : ¬ cmpV k2 k1 < 0 := by omega
              have c'' : ¬ cmpV k2 k1 = 0 := by omega
              simp [insQ, c1, c2, e1, e2, c, c', c'']
            · have c' : cmpV k2 k1 < 0 := by omega
              simp [insQ, c1, c2, e1, e2, c, c', hne]
/-- one pair behind the other -/
def insF (o : List (Val × Val)) (x : Val × Val) : List (Val × Val) := insQ o x.1 x.2
theorem foldl_lies : ∀ (xs o : List (Val × Val)), (∀ x ∈ o, Lies x.1) → (∀ x ∈ xs, Lies x.1) → ∀ x ∈ xs.foldl insF o, Lies x.1
  | [], _, h, _ => h
  | y :: ys, o, h, hx => foldl_lies ys _ (insQ_lies h (hx y (by simp))) fun x h => hx x (by simp [h])
theorem foldl_later : ∀ (xs : List (Val × Val)) (x : Val × Val) (o : List (Val × Val)), (∀ y ∈ o, Lies y.1) → Lies x.1 → (∀ y ∈ xs, Lies y.1 ∧ cmpV x.1 y.1 ≠ 0) → xs.foldl insF (insF o x) = insF (xs.foldl insF o) x
  | [], _, _, _, _, _ => rfl
  | y :: ys, x, o, ho, hx, hxs => by
    have hy := hxs y (by simp)
    have e : insF (insF o x) y = insF (insF o y) x := insQ_comm hx hy.1 hy.2 o ho
    rw [List.foldl_cons, e, foldl_later ys x (insF o y) (insQ_lies ho hy.1) hx fun z hz => hxs z (by simp [hz])]
    rfl
theorem foldl_turned : ∀ (xs o : List (Val × Val)), (∀ y ∈ o, Lies y.1) → (∀ y ∈ xs, Lies y.1) → xs.Pairwise (fun x y => cmpV x.1 y.1 ≠ 0) → xs.reverse.foldl insF o = xs.foldl insF o
  | [], _, _, _, _ => rfl
  | x :: xs, o, ho, hx, hp => by
    rw [List.pairwise_cons] at hp
    rw [List.reverse_cons, List.foldl_append, foldl_turned xs o ho (fun y hy => hx y (by simp [hy])) hp.2]
    show insF (xs.foldl insF o) x = xs.foldl insF (insF o x)
    rw [foldl_later xs x o ho (hx x (by simp)) fun y hy => ⟨hx y (by simp [hy]), hp.1 y hy⟩]
/-- the map of the first n pairs -/
def mapQ (f : Nat → Val × Val) : Nat → List (Val × Val)
  | 0 => []
  | p + 1 => insQ (mapQ f p) (f p).1 (f p).2
theorem mapQ_fold (f : Nat → Val × Val) : ∀ n, mapQ f n = ((List.range n).map f).foldl insF []
  | 0 => rfl
  | n + 1 => by
    rw [List.range_succ, List.map_append, List.foldl_append, ← mapQ_fold f n]
    rfl
theorem mapQ_len (f : Nat → Val × Val) : ∀ n, (mapQ f n).length ≤ n
  | 0 => Nat.le_refl _
  | n + 1 => Nat.le_trans (insQ_len _ _ _) (Nat.succ_le_succ (mapQ_len f n))
theorem mapQ_eq {f g : Nat → Val × Val} : ∀ {n : Nat}, (∀ p, p < n → f p = g p) → mapQ f n = mapQ g n
  | 0, _ => rfl
  | n + 1, h => by rw [mapQ, mapQ, mapQ_eq fun p hp => h p (by omega), h n (by omega)]
theorem mapQ_turned {f : Nat → Val × Val} {n : Nat} (hl : ∀ p, p < n → Lies (f p).1) (hne : ∀ p q, p < q → q < n → cmpV (f p).1 (f q).1 ≠ 0) : mapQ (fun p => f (n - 1 - p)) n = mapQ f n := by
  rw [mapQ_fold, mapQ_fold]
  have e : (List.range n).map (fun p => f (n - 1 - p)) = ((List.range n).map f).reverse := by
    apply List.ext_getElem
    · simp
    · intro i h1 h2
      simp at h1 h2 ⊢
  rw [e]
  refine foldl_turned _ _ (fun y hy => by simp at hy) (fun y hy => ?_) ?_
  · obtain ⟨p, hp, rfl⟩ := List.mem_map.1 hy
    exact hl p (by simpa using hp)
  · rw [List.pairwise_iff_getElem]
    intro i j hi hj hij
    simp only [List.length_map, List.length_range] at hi hj
    simpa using hne i j hij hj
/-- keys and values by turns -/
def flatP : List (Val × Val) → List Val
  | [] => []
  | x :: r => x.1 :: x.2 :: flatP r
theorem flatP_len : ∀ ps : List (Val × Val), (flatP ps).length = 2 * ps.length
  | [] => rfl
  | _ :: r => by simp [flatP, flatP_len r]; omega
theorem flatP_append : ∀ a b : List (Val × Val), flatP (a ++ b) = flatP a ++ flatP b
  | [], _ => rfl
  | _ :: r, b => by simp [flatP, flatP_append r b]
theorem flatP_take (ps : List (Val × Val)) (q : Nat) (h : q ≤ ps.length) : (flatP ps).take (2 * q) = flatP (ps.take q) := by
  have e : flatP ps = flatP (ps.take q) ++ flatP (ps.drop q) := by rw [← flatP_append, List.take_append_drop]
  rw [e]
  exact List.take_left' (by rw [flatP_len, List.length_take]; omega)
theorem flatP_drop (ps : List (Val × Val)) (q : Nat) (h : q ≤ ps.length) : (flatP ps).drop (2 * q) = flatP (ps.drop q) := by
  have e : flatP ps = flatP (ps.take q) ++ flatP (ps.drop q) := by rw [← flatP_append, List.take_append_drop]
  rw [e]
  exact List.drop_left' (by rw [flatP_len, List.length_take]; omega)
theorem flatP_get : ∀ {ps : List (Val × Val)} {q : Nat} {x : Val × Val}, ps[q]? = some x → (flatP ps)[2 * q]? = some x.1 ∧ (flatP ps)[2 * q + 1]? = some x.2
  | [], _, _, h => by simp at h
  | y :: r, 0, x, h => by simp at h; subst h; exact ⟨rfl, rfl⟩
  | y :: r, q + 1, x, h => by
    have := flatP_get (ps := r) (q := q) (x := x) (by simpa using h)
    rw [show 2 * (q + 1) = 2 * q + 1 + 1 by omega]
    exact this
theorem flatP_set : ∀ {ps : List (Val × Val)} {q : Nat} {x : Val × Val} (v : Val), ps[q]? = some x → (flatP ps).set (2 * q + 1) v = flatP (ps.set q (x.1, v))
  | [], _, _, _, h => by simp at h
  | y :: r, 0, x, v, h => by simp at h; subst h; rfl
  | y :: r, q + 1, x, v, h => by
    have := flatP_set (ps := r) (q := q) (x := x) v (by simpa using h)
    rw [show 2 * (q + 1) + 1 = 2 * q + 1 + 1 + 1 by omega]
    simp only [flatP, List.set_cons_succ, this]
end Go.Proofs.Ytkbacjlnfmibaaa
