
/-
  Plain laws of groups: keys rising, each once, with their places.
-/
import Derived.Test.YtipjelkdbbhcpaaTra
import Derived.Test.YtipjelkdbbhcpaaValP
set_option linter.unusedSimpArgs false
set_option linter.unusedVariables false
namespace Go.Proofs.Ytipjelkdbbhcpaa
open Go.RowKit

theorem cmpV_lt_le {a b c : Val} (ha : Lies a) (hb : Lies b) (hc : Lies c) (h1 : cmpV a b < 0) (h2 : cmpV b c ≤ 0) : cmpV a c < 0 := by
  have h3 := cmpV_goes ha hb hc (by omega) h2
  by_cases h : cmpV a c = 0
  · have h4 := cmpV_anti a c
    have h5 := cmpV_goes hb hc ha h2 (by omega)
    have h6 := cmpV_anti a b
    omega
  · omega
theorem cmpV_le_lt {a b c : Val} (ha : Lies a) (hb : Lies b) (hc : Lies c) (h1 : cmpV a b ≤ 0) (h2 : cmpV b c < 0) : cmpV a c < 0 := by
  have h3 := cmpV_goes ha hb hc h1 (by omega)
  by_cases h : cmpV a c = 0
  · have h4 := cmpV_anti a c
    have h5 := cmpV_goes hc ha hb (by omega) h1
    have h6 := cmpV_anti b c
    omega
  · omega
theorem cmpV_eq_eq {a b c : Val} (ha : Lies a) (hb : Lies b) (hc : Lies c) (h1 : cmpV a b = 0) (h2 : cmpV b c = 0) : cmpV a c = 0 := by
  have h3 := cmpV_goes ha hb hc (by omega) (by omega)
  have a1 := cmpV_anti a b
  have a2 := cmpV_anti b c
  have h4 := cmpV_goes hc hb ha (by omega) (by omega)
  have a3 := cmpV_anti a c
  omega
/-- the t-th key -/
def kAt (l : List Val) (t : Nat) : Val := l.getD t default
theorem kAt_some {l : List Val} {t : Nat} (h : t < l.length) : l[t]? = some (kAt l t) := by
  unfold kAt
  rw [List.getD_eq_getElem?_getD, List.getElem?_eq_getElem h]
  rfl
/-- a key that did not come ahead -/
def isFirst (l : List Val) (t : Nat) : Bool := (List.range t).all fun j => !(cmpV (kAt l j) (kAt l t) == 0)
theorem isFirst_iff {l : List Val} {t : Nat} : isFirst l t = true ↔ ∀ j, j < t → cmpV (kAt l j) (kAt l t) ≠ 0 := by
  unfold isFirst
  rw [List.all_eq_true]
  simp
def firsts (l : List Val) (i : Nat) : List Nat := (List.range i).filter (isFirst l)
theorem firsts_next (l : List Val) (i : Nat) : firsts l (i + 1) = firsts l i ++ (if isFirst l i = true then [i] else []) := by
  unfold firsts
  rw [List.range_succ, List.filter_append]
  congr 1
  by_cases h : isFirst l i = true
  · simp [h]
  · simp [h]
theorem firsts_lt {l : List Val} {i : Nat} : ∀ j ∈ firsts l i, j < i := fun j hj => by
  unfold firsts at hj
  rw [List.mem_filter, List.mem_range] at hj
  exact hj.1
theorem firsts_len (l : List Val) (i : Nat) : (firsts l i).length ≤ i := by
  unfold firsts
  have := List.length_filter_le (isFirst l) (List.range i)
  simpa using this
/-- how many stand ahead of a key -/
def cntLt (l : List Val) : List Nat → Val → Nat
  | [], _ => 0
  | j :: js, k => if cmpV (kAt l j) k < 0 then cntLt l js k + 1 else 0
theorem cntLt_eq {l : List Val} {k : Val} : ∀ {js : List Nat} {n : Nat}, n ≤ js.length → (∀ (t : Nat) j, t < n → js[t]? = some j → cmpV (kAt l j) k < 0) → (∀ j, js[n]? = some j → ¬ cmpV (kAt l j) k < 0) → n = cntLt l js k
  | [], n, hn, _, _ => by simp at hn; simp [cntLt, hn]
  | j :: js, 0, _, _, h2 => by rw [cntLt, if_neg (h2 j rfl)]
  | j :: js, n + 1, hn, h1, h2 => by
    rw [cntLt, if_pos (h1 0 j (by omega) rfl), ← cntLt_eq (js := js) (n := n) (by simpa using hn) (fun t i ht hi => h1 (t + 1) i (by omega) (by simpa using hi)) (fun i hi => h2 i (by simpa using hi))]
theorem cntLt_le (l : List Val) (k : Val) : ∀ js : List Nat, cntLt l js k ≤ js.length
  | [] => Nat.le_refl _
  | j :: js => by
    rw [cntLt]
    split
    · have := cntLt_le l k js; simp; omega
    · omega
theorem cntLt_lo {l : List Val} {k : Val} : ∀ {js : List Nat} {t : Nat} {j : Nat}, t < cntLt l js k → js[t]? = some j → cmpV (kAt l j) k < 0
  | [], t, j, _, h => by simp at h
  | i :: js, 0, j, ht, h => by
    rw [cntLt] at ht
    split at ht
    · rename_i hc; simp at h; subst h; exact hc
    · omega
  | i :: js, t + 1, j, ht, h => by
    rw [cntLt] at ht
    split at ht
    · exact cntLt_lo (js := js) (t := t) (by omega) (by simpa using h)
    · omega
theorem cntLt_at {l : List Val} {k : Val} : ∀ {js : List Nat} {j : Nat}, js[cntLt l js k]? = some j → ¬ cmpV (kAt l j) k < 0
  | [], j, h => by simp at h
  | i :: js, j, h => by
    rw [cntLt] at h
    split at h
    · exact cntLt_at (js := js) (by simpa using h)
    · rename_i hc; simp at h; subst h; exact hc
/-- an index put among others, by its key -/
def insJ (l : List Val) (js : List Nat) (j : Nat) : List Nat := js.take (cntLt l js (kAt l j)) ++ j :: js.drop (cntLt l js (kAt l j))
def orderJ (l : List Val) (i : Nat) : List Nat := (firsts l i).foldl (insJ l) []
theorem orderJ_next (l : List Val) (i : Nat) : orderJ l (i + 1) = if isFirst l i = true then insJ l (orderJ l i) i else orderJ l i := by
  unfold orderJ
  rw [firsts_next, List.foldl_append]
  split <;> simp
theorem insJ_mem {l : List Val} {js : List Nat} {j x : Nat} : x ∈ insJ l js j ↔ x = j ∨ x ∈ js := by
  unfold insJ
  have e : js = js.take (cntLt l js (kAt l j)) ++ js.drop (cntLt l js (kAt l j)) := (List.take_append_drop _ _).symm
  generalize cntLt l js (kAt l j) = n at *
  constructor
  · intro h
    rcases List.mem_append.1 h with h | h
    · exact .inr (List.mem_of_mem_take h)
    · rcases List.mem_cons.1 h with h | h
      · exact .inl h
      · exact .inr (List.mem_of_mem_drop h)
  · rintro (h | h)
    · exact List.mem_append.2 (.inr (List.mem_cons.2 (.inl h)))
    · rw [e] at h
      rcases List.mem_append.1 h with h | h
      · exact List.mem_append.2 (.inl h)
      · exact List.mem_append.2 (.inr (List.mem_cons.2 (.inr h)))
theorem insJ_len (l : List Val) (js : List Nat) (j : Nat) : (insJ l js j).length = js.length + 1 := by
  unfold insJ
  have := cntLt_le l (kAt l j) js
  rw [List.length_append, List.length_cons, List.length_take, List.length_drop]
  omega
/-- what the first i keys have made -/
structure Good (l : List Val) (i : Nat) (js : List Nat) : Prop where
  rise : js.Pairwise fun a b => cmpV (kAt l a) (kAt l b) < 0
  lt : ∀ j ∈ js, j < i
  has : ∀ t, t < i → ∃ j ∈ js, cmpV (kAt l t) (kAt l j) = 0
theorem Good.nil (l : List Val) : Good l 0 [] := ⟨List.Pairwise.nil, fun j h => (by cases h), fun t h => absurd h (Nat.not_lt_zero _)⟩
theorem Good.at_lt {l : List Val} {i : Nat} {js : List Nat} (h : Good l i js) {a b x y : Nat} (hab : a < b) (hx : js[a]? = some x) (hy : js[b]? = some y) : cmpV (kAt l x) (kAt l y) < 0 := by
  obtain ⟨ha, rfl⟩ := List.getElem?_eq_some_iff.1 hx
  obtain ⟨hb, rfl⟩ := List.getElem?_eq_some_iff.1 hy
  exact List.pairwise_iff_getElem.1 h.rise a b ha hb hab
section
variable {l : List Val} {i : Nat} {js : List Nat} {n : Nat}
theorem cmp_self (hl : ∀ t, t < l.length → Lies (kAt l t)) (x : Val) (hx : Lies x) : cmpV x x = 0 := by
  have := cmpV_anti x x
  omega
/-- the place that a search finds: whether the key came ahead -/
theorem Good.found (h : Good l i js) (hl : ∀ t, t < l.length → Lies (kAt l t)) (hi : i < l.length) (hn : n ≤ js.length) (hlo : ∀ (t : Nat) j, t < n → js[t]? = some j → cmpV (kAt l j) (kAt l i) < 0) (hhi : ∀ (t : Nat) j, n ≤ t → js[t]? = some j → ¬ cmpV (kAt l j) (kAt l i) < 0) :
    isFirst l i = true ↔ ∀ j, js[n]? = some j → cmpV (kAt l j) (kAt l i) ≠ 0 := by
  rw [isFirst_iff]
  constructor
  · intro hf j hj
    exact hf j (h.lt j (List.mem_of_getElem? hj))
  · intro hne t ht h0
    obtain ⟨j, hj, hj0⟩ := h.has t ht
    obtain ⟨m, hm, hmj⟩ := List.mem_iff_getElem.1 hj
    have hmj' : js[m]? = some j := by rw [List.getElem?_eq_getElem hm, hmj]
    have hji := h.lt j hj
    have e : cmpV (kAt l j) (kAt l i) = 0 := by
      refine cmpV_eq_eq (hl j (by omega)) (hl t (by omega)) (hl i hi) ?_ h0
      have := cmpV_anti (kAt l t) (kAt l j)
      omega
    rcases Nat.lt_trichotomy m n with h1 | h1 | h1
    · have := hlo m j h1 hmj'; omega
    · exact hne j (by rw [← h1]; exact hmj') e
    · have hnl : n < js.length := by omega
      have hg : js[n]? = some js[n] := by simp
      have h2 := h.at_lt h1 hg hmj'
      have h3 := cmpV_lt_le (hl js[n] (by have := h.lt js[n] (by simp); omega)) (hl j (by omega)) (hl i hi) h2 (by omega)
      exact hhi n js[n] (Nat.le_refl _) hg h3
theorem Good.old (h : Good l i js) {j : Nat} (hj : j ∈ js) (h0 : cmpV (kAt l j) (kAt l i) = 0) : Good l (i + 1) js := by
  refine ⟨h.rise, fun j hj => by have := h.lt j hj; omega, fun t ht => ?_⟩
  by_cases e : t = i
  · subst e
    refine ⟨j, hj, ?_⟩
    have := cmpV_anti (kAt l j) (kAt l t)
    omega
  · exact h.has t (by omega)
theorem Good.hi (h : Good l i js) (hl : ∀ t, t < l.length → Lies (kAt l t)) (hi : i < l.length) {t j : Nat} (ht : cntLt l js (kAt l i) ≤ t) (hj : js[t]? = some j) : ¬ cmpV (kAt l j) (kAt l i) < 0 := by
  intro hc
  rcases Nat.lt_or_eq_of_le ht with h1 | h1
  · have hnl : cntLt l js (kAt l i) < js.length := by have := (List.getElem?_eq_some_iff.1 hj).1; omega
    have hg : js[cntLt l js (kAt l i)]? = some js[cntLt l js (kAt l i)] := by simp
    have h2 := h.at_lt h1 hg hj
    have l1 := hl js[cntLt l js (kAt l i)] (by have := h.lt js[cntLt l js (kAt l i)] (by simp); omega)
    have l2 := hl j (by have := h.lt j (List.mem_of_getElem? hj); omega)
    exact cntLt_at hg (cmpV_lt_le l1 l2 (hl i hi) h2 (by omega))
  · rw [← h1] at hj
    exact cntLt_at hj hc
theorem Good.new (h : Good l i js) (hl : ∀ t, t < l.length → Lies (kAt l t)) (hi : i < l.length) (hf : isFirst l i = true) : Good l (i + 1) (insJ l js i) := by
  have hf := isFirst_iff.1 hf
  refine ⟨?_, fun j hj => ?_, fun t ht => ?_⟩
  · unfold insJ
    have e : js = js.take (cntLt l js (kAt l i)) ++ js.drop (cntLt l js (kAt l i)) := (List.take_append_drop _ _).symm
    have hr := h.rise
    rw [e, List.pairwise_append] at hr
    obtain ⟨r1, r2, r3⟩ := hr
    have hlo : ∀ a ∈ js.take (cntLt l js (kAt l i)), cmpV (kAt l a) (kAt l i) < 0 := fun a ha => by
      obtain ⟨m, hm, rfl⟩ := List.mem_iff_getElem.1 ha
      rw [List.length_take] at hm
      refine cntLt_lo (js := js) (t := m) (by omega) ?_
      rw [List.getElem_take]
      simp
    have hup : ∀ b ∈ js.drop (cntLt l js (kAt l i)), cmpV (kAt l i) (kAt l b) < 0 := fun b hb => by
      obtain ⟨m, hm, hmb⟩ := List.mem_iff_getElem.1 hb
      have hg : js[cntLt l js (kAt l i) + m]? = some b := by
        rw [← List.getElem?_drop, List.getElem?_eq_getElem hm, hmb]
      have h1 := h.hi hl hi (Nat.le_add_right _ m) hg
      have h2 := hf b (h.lt b (List.mem_of_getElem? hg))
      have h3 := cmpV_anti (kAt l b) (kAt l i)
      omega
    rw [List.pairwise_append, List.pairwise_cons]
    refine ⟨r1, ⟨hup, r2⟩, fun a ha b hb => ?_⟩
    rcases List.mem_cons.1 hb with rfl | hb
    · exact hlo a ha
    · exact r3 a ha b hb
  · rcases insJ_mem.1 hj with rfl | hj
    · omega
    · have := h.lt j hj; omega
  · by_cases e : t = i
    · subst e
      exact ⟨t, insJ_mem.2 (.inl rfl), cmp_self hl _ (hl t hi)⟩
    · obtain ⟨j, hj, h0⟩ := h.has t (by omega)
      exact ⟨j, insJ_mem.2 (.inr hj), h0⟩
/-- the places of a key, among the first i -/
def plac (l : List Val) (i j : Nat) : List Nat := (List.range i).filter fun t => cmpV (kAt l t) (kAt l j) == 0
theorem plac_next (l : List Val) (i j : Nat) : plac l (i + 1) j = plac l i j ++ (if cmpV (kAt l i) (kAt l j) = 0 then [i] else []) := by
  unfold plac
  rw [List.range_succ, List.filter_append]
  congr 1
  by_cases h : cmpV (kAt l i) (kAt l j) = 0
  · simp [h]
  · simp [h]
theorem plac_len (l : List Val) (i j : Nat) : (plac l i j).length ≤ i := by
  unfold plac
  have := List.length_filter_le (fun t => cmpV (kAt l t) (kAt l j) == 0) (List.range i)
  simpa using this
theorem plac_lt {l : List Val} {i j : Nat} : ∀ t ∈ plac l i j, t < i := fun t ht => by
  unfold plac at ht
  rw [List.mem_filter, List.mem_range] at ht
  exact ht.1
theorem plac_first {l : List Val} {i : Nat} (hf : isFirst l i = true) : plac l i i = [] := by
  unfold plac
  rw [List.filter_eq_nil_iff]
  intro t ht
  rw [List.mem_range] at ht
  simpa using isFirst_iff.1 hf t ht
/-- a key takes its place, where it came ahead -/
theorem Good.place_old (h : Good l i js) (hl : ∀ t, t < l.length → Lies (kAt l t)) (hi : i < l.length) {j : Nat} (hj : js[n]? = some j) (h0 : cmpV (kAt l j) (kAt l i) = 0) :
    js.map (plac l (i + 1)) = (js.map (plac l i)).set n (plac l i j ++ [i]) := by
  apply List.ext_getElem?
  intro t
  rw [List.getElem?_map, List.getElem?_set, List.getElem?_map, List.length_map]
  by_cases e : n = t
  · subst e
    have hn := (List.getElem?_eq_some_iff.1 hj).1
    rw [if_pos rfl, if_pos hn, hj, Option.map_some, plac_next, if_pos (by have := cmpV_anti (kAt l j) (kAt l i); omega)]
  · rw [if_neg e]
    cases hx : js[t]? with
    | none => rfl
    | some x =>
      rw [Option.map_some, Option.map_some, plac_next, if_neg, List.append_nil]
      intro hc
      have lx := hl x (by have := h.lt x (List.mem_of_getElem? hx); omega)
      have lj := hl j (by have := h.lt j (List.mem_of_getElem? hj); omega)
      have h2 : cmpV (kAt l j) (kAt l x) = 0 := cmpV_eq_eq lj (hl i hi) lx h0 hc
      rcases Nat.lt_or_gt_of_ne e with h3 | h3
      · have := h.at_lt h3 hj hx; omega
      · have := h.at_lt h3 hx hj
        have := cmpV_anti (kAt l j) (kAt l x)
        omega
/-- .. where it is new -/
theorem Good.place_new (h : Good l i js) (hf : isFirst l i = true) : (insJ l js i).map (plac l (i + 1)) = (js.map (plac l i)).take (cntLt l js (kAt l i)) ++ [i] :: (js.map (plac l i)).drop (cntLt l js (kAt l i)) := by
  have hf' := isFirst_iff.1 hf
  have hs : ∀ x ∈ js, plac l (i + 1) x = plac l i x := fun x hx => by
    rw [plac_next, if_neg, List.append_nil]
    intro hc
    have h1 := hf' x (h.lt x hx)
    have h2 := cmpV_anti (kAt l i) (kAt l x)
    omega
  unfold insJ
  rw [List.map_append, List.map_cons, plac_next, plac_first hf]
  have hself : cmpV (kAt l i) (kAt l i) = 0 := by have := cmpV_anti (kAt l i) (kAt l i); omega
  rw [if_pos hself, List.nil_append, ← List.map_take, ← List.map_drop]
  congr 1
  · exact List.map_congr_left fun x hx => hs x (List.mem_of_mem_take hx)
  · congr 1
    exact List.map_congr_left fun x hx => hs x (List.mem_of_mem_drop hx)
end
theorem orderJ_good {l : List Val} (hl : ∀ t, t < l.length → Lies (kAt l t)) : ∀ i, i ≤ l.length → Good l i (orderJ l i)
  | 0, _ => Good.nil l
  | i + 1, hi => by
    have ih := orderJ_good hl i (by omega)
    rw [orderJ_next]
    split
    · rename_i hf
      exact ih.new hl (by omega) hf
    · rename_i hf
      have hn := ih.found (n := cntLt l (orderJ l i) (kAt l i)) hl (by omega) (cntLt_le _ _ _) (fun t j ht hj => cntLt_lo ht hj) (fun t j ht hj => ih.hi hl (by omega) ht hj)
      have h2 : ¬ ∀ j, (orderJ l i)[cntLt l (orderJ l i) (kAt l i)]? = some j → cmpV (kAt l j) (kAt l i) ≠ 0 := fun hh => hf (hn.2 hh)
      cases hg : (orderJ l i)[cntLt l (orderJ l i) (kAt l i)]? with
      | none => exact absurd (fun j hj => by rw [hg] at hj; cases hj) h2
      | some j =>
        by_cases h0 : cmpV (kAt l j) (kAt l i) = 0
        · exact ih.old (List.mem_of_getElem? hg) h0
        · exact absurd (fun j' hj => by rw [hg] at hj; cases hj; exact h0) h2
theorem orderJ_len (l : List Val) : ∀ i, (orderJ l i).length ≤ i
  | 0 => Nat.le_refl _
  | i + 1 => by
    have := orderJ_len l i
    rw [orderJ_next]
    split
    · rw [insJ_len]; omega
    · omega
end Go.Proofs.Ytipjelkdbbhcpaa
