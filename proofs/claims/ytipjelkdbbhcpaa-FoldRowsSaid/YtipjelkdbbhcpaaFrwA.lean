
/-
  FoldRows: the plain law; rows that are being laid.
-/
import Derived.Test.YtipjelkdbbhcpaaFdK
import Derived.Test.YtipjelkdbbhcpaaTra
set_option linter.unusedSimpArgs false
set_option linter.unusedVariables false
namespace Go.Proofs.Ytipjelkdbbhcpaa
open Go.RowKit Go.Deep

/-- each place stands so to the next one -/
def Desc (G : Nat → Nat → Prop) (s : List Nat) : Prop := ∀ k a b, s[k]? = some a → s[k + 1]? = some b → G a b
theorem Desc.cons {G : Nat → Nat → Prop} {y : Nat} {s : List Nat} (h : Desc G s) (hy : ∀ b, s[0]? = some b → G y b) : Desc G (y :: s) := by
  intro k a b ha hb
  match k, ha, hb with
  | 0, ha, hb => simp at ha hb; subst ha; exact hy b (by simpa using hb)
  | k + 1, ha, hb => exact h k a b (by simpa using ha) (by simpa using hb)
theorem Desc.tail {G : Nat → Nat → Prop} {y : Nat} {s : List Nat} (h : Desc G (y :: s)) : Desc G s := fun k a b ha hb => h (k + 1) a b (by simpa using ha) (by simpa using hb)
theorem insAt_head (lt : Nat → Nat → Bool) (x : Nat) (ys : List Nat) {b : Nat} (h : (insAt lt x ys)[0]? = some b) : b = x ∨ ys[0]? = some b := by
  cases ys with
  | nil => simp [insAt] at h; exact .inl h.symm
  | cons y ys =>
    unfold insAt at h
    split at h
    · right; simpa using h
    · simp at h; exact .inl h.symm
theorem desc_ins {G : Nat → Nat → Prop} (lt : Nat → Nat → Bool) (x : Nat) (h1 : ∀ y, lt x y = true → G y x) (h2 : ∀ y, lt x y = false → y < x → G x y) : ∀ ys, Desc G ys → (∀ y ∈ ys, y < x) → Desc G (insAt lt x ys)
  | [], _, _ => fun k a b ha hb => by simp [insAt] at hb
  | y :: ys, h, hx => by
    unfold insAt
    cases hl : lt x y
    · simp only [Bool.false_eq_true, if_false]
      exact h.cons fun b hb => by simp at hb; subst hb; exact h2 _ hl (hx _ (by simp))
    · simp only [if_true]
      refine (desc_ins lt x h1 h2 ys h.tail fun z hz => hx z (by simp [hz])).cons fun b hb => ?_
      rcases insAt_head lt x ys hb with e | e
      · subst e; exact h1 y hl
      · exact h 0 y b rfl (by simpa using e)
theorem insAt_nodup (lt : Nat → Nat → Bool) (x : Nat) : ∀ ys : List Nat, ys.Nodup → x ∉ ys → (insAt lt x ys).Nodup
  | [], _, _ => by simp [insAt]
  | y :: ys, h, hx => by
    unfold insAt
    split
    · rw [List.nodup_cons] at h ⊢
      refine ⟨fun hm => ?_, insAt_nodup lt x ys h.2 (fun hm => hx (by simp [hm]))⟩
      rcases (insAt_mem lt x ys y).1 hm with e | e
      · exact hx (by simp [e])
      · exact h.1 e
    · exact List.nodup_cons.2 ⟨hx, h⟩
theorem range_getD {L i : Nat} (h : i < L) : (List.range L).getD i 0 = i := by simp [List.getD_eq_getElem?_getD, h]
theorem sortN_range (lt : Nat → Nat → Bool) (L : Nat) (G : Nat → Nat → Prop) (h1 : ∀ x y, lt x y = true → G y x) (h2 : ∀ x y, lt x y = false → y < x → G x y) : ∀ i, i ≤ L →
    (∀ z ∈ sortN lt (List.range L) i, z < i) ∧ (sortN lt (List.range L) i).Nodup ∧ Desc G (sortN lt (List.range L) i)
  | 0, _ => ⟨fun z hz => by simp [sortN] at hz, by simp [sortN], fun k a b ha hb => by simp [sortN] at ha⟩
  | i + 1, hi => by
    obtain ⟨p, q, r⟩ := sortN_range lt L G h1 h2 i (by omega)
    unfold sortN
    rw [range_getD (by omega)]
    refine ⟨fun z hz => ?_, insAt_nodup lt i _ q fun hm => by have := p i hm; omega, desc_ins lt i (h1 i) (h2 i) _ r p⟩
    rcases (insAt_mem lt i _ z).1 hz with e | e
    · omega
    · have := p z e; omega
/-- the places in their order: each once, none ahead of a lesser one -/
structure OrderOk (vs : List Val) (O : List Nat) : Prop where
  len : O.length = vs.length
  lt : ∀ i, i < vs.length → O.getD i 0 < vs.length
  new : ∀ i, i < vs.length → O.getD i 0 ∉ O.take i
  step : ∀ j, j + 1 < vs.length → cmpV (vs.getD (O.getD j 0) default) (vs.getD (O.getD (j + 1) 0) default) ≤ 0 ∧ (cmpV (vs.getD (O.getD j 0) default) (vs.getD (O.getD (j + 1) 0) default) = 0 → O.getD j 0 ≤ O.getD (j + 1) 0)
theorem getD_get {O : List Nat} {i : Nat} (h : i < O.length) : O[i]? = some (O.getD i 0) := by
  rw [List.getD_eq_getElem?_getD, List.getElem?_eq_getElem h]; rfl
theorem nodup_new {O : List Nat} (h : O.Nodup) {i : Nat} (hi : i < O.length) : O.getD i 0 ∉ O.take i := by
  intro hm
  have e : O = O.take i ++ O.drop i := (List.take_append_drop i O).symm
  have hd : O.getD i 0 ∈ O.drop i := by
    refine List.mem_of_getElem? (i := 0) ?_
    rw [List.getElem?_drop, Nat.add_zero, getD_get hi]
  rw [e, List.nodup_append] at h
  exact h.2.2 _ hm _ hd rfl
theorem orderOk (vs : List Val) : OrderOk vs (sortV (ltOf (ordC true vs)) (List.range vs.length)) := by
  let G : Nat → Nat → Prop := fun a b => cmpV (vs.getD b default) (vs.getD a default) ≤ 0 ∧ (cmpV (vs.getD b default) (vs.getD a default) = 0 → b ≤ a)
  have h1 : ∀ x y, ltOf (ordC true vs) x y = true → G y x := fun x y h => by
    have h : cmpV (vs.getD x default) (vs.getD y default) < 0 := by simpa [ltOf, ordC] using h
    exact ⟨by omega, fun e => by omega⟩
  have h2 : ∀ x y, ltOf (ordC true vs) x y = false → y < x → G x y := fun x y h hy => by
    have h : ¬ cmpV (vs.getD x default) (vs.getD y default) < 0 := by simpa [ltOf, ordC] using h
    have e := cmpV_anti (vs.getD x default) (vs.getD y default)
    exact ⟨by omega, fun _ => by omega⟩
  obtain ⟨p, q, r⟩ := sortN_range (ltOf (ordC true vs)) vs.length G h1 h2 vs.length (Nat.le_refl _)
  have hlen := sortN_len (ltOf (ordC true vs)) (List.range vs.length) vs.length
  unfold sortV
  rw [List.length_range]
  generalize sortN (ltOf (ordC true vs)) (List.range vs.length) vs.length = s at *
  have hl : s.reverse.length = vs.length := by simp [hlen]
  refine ⟨hl, fun i hi => ?_, fun i hi => nodup_new ?_ (by omega), fun j hj => ?_⟩
  · have := List.mem_of_getElem? (getD_get (O := s.reverse) (i := i) (by omega))
    exact p _ (List.mem_reverse.1 this)
  · unfold List.Nodup at *
    rw [List.pairwise_reverse]
    exact q.imp fun h => Ne.symm h
  · have e1 := getD_get (O := s.reverse) (i := j) (by omega)
    have e2 := getD_get (O := s.reverse) (i := j + 1) (by omega)
    rw [List.getElem?_reverse (by omega)] at e1 e2
    exact r (s.length - 1 - (j + 1)) _ _ e2 (by rw [show s.length - 1 - (j + 1) + 1 = s.length - 1 - j by omega]; exact e1)
theorem sortN_none (vs : List Val) (xs : List Nat) : ∀ i, i ≤ xs.length → sortN (ltOf (ordC false vs)) xs i = (xs.take i).reverse
  | 0, _ => by simp [sortN]
  | i + 1, hi => by
    have hg : xs[i]? = some (xs.getD i 0) := getD_get (by omega)
    unfold sortN
    rw [sortN_none vs xs i (by omega), List.take_add_one, hg]
    simp only [Option.toList_some, List.reverse_append, List.reverse_cons, List.reverse_nil, List.nil_append, List.singleton_append]
    generalize (xs.take i).reverse = t
    cases t with
    | nil => rfl
    | cons y t => simp [insAt, ltOf, ordC]
theorem sortV_none (vs : List Val) (xs : List Nat) : sortV (ltOf (ordC false vs)) xs = xs := by
  unfold sortV
  rw [sortN_none vs xs _ (Nat.le_refl _)]
  simp
/-- which places were seen -/
abbrev SeenRow (w : World) (E L : Nat) (s : List Nat) : Prop := w.rowIs E 4 L fun j => .bool (s.contains j)
theorem SeenRow.set {w : World} {E L : Nat} {s : List Nat} (h : SeenRow w E L s) {a : Nat} (ha : a < L) : SeenRow (w.setCell ⟨E, a, none⟩ (.bool true)) E L (s ++ [a]) := by
  obtain ⟨c, hb, hc, hv⟩ := h
  refine ⟨c.setIfInBounds a (.bool true), by simp [World.setCell, Array.getElem?_modify, hb], by simp [hc], fun j hj => ?_⟩
  by_cases e : a = j
  · subst e
    rw [Array.getElem?_setIfInBounds_self_of_lt (by omega)]
    simp
  · rw [Array.getElem?_setIfInBounds_ne e, hv j hj]
    simp [Ne.symm e]
theorem SeenRow.keep {w w' : World} {E L : Nat} {s : List Nat} (h : SeenRow w E L s) (hb : w'.heap[E]? = w.heap[E]?) : SeenRow w' E L s := by
  obtain ⟨c, h1, h2⟩ := h
  exact ⟨c, hb.trans h1, h2⟩
theorem SeenRow.lt {w : World} {E L : Nat} {s : List Nat} (h : SeenRow w E L s) : E < w.heap.size := by
  obtain ⟨c, hb, _⟩ := h
  exact (Array.getElem?_eq_some_iff.1 hb).1
theorem SeenRow.frozen {w : World} {E L : Nat} {s : List Nat} (h : SeenRow w E L s) (j : Nat) : w.frozen? ⟨E, j, none⟩ = false := by
  obtain ⟨c, hb, _⟩ := h
  exact frozen_of hb j
theorem SeenRow.eq {w : World} {E L : Nat} {s t : List Nat} (h : SeenRow w E L s) (e : s = t) : SeenRow w E L t := e ▸ h
theorem take_next {O : List Nat} {i : Nat} (h : i < O.length) : O.take i ++ [O.getD i 0] = O.take (i + 1) := by
  rw [List.take_add_one, getD_get h]; rfl
/-- rows of one value each, as they lie in a row that grows -/
def RowsC (w1 wr : World) (ys : List Val) (xs : List Value) : Prop := ∀ (j : Nat) (u : Value), xs[j]? = some u → ∃ (v : Val) (B : Nat) (k : Int) (b : Bool) (n : Int) (f : Nat) (s : List UInt8) (C : Option Addr) (len c : Nat), ys[j]? = some v ∧ u = .slice (some ⟨B, 0, none⟩) 1 1 ∧ wr.heap[B]? = some (.cells #[.int .i64 k, .bool b, .int .i64 n, .float .f64 f, .string (st s), .slice C len c] 27 (0, 0)) ∧ Has w1 (valV k b n f s C len c) v
theorem own_block {w : World} {base T g n c : Nat} {xs : List Value} (h : w.ownsRow base T 1 (.slice (some ⟨g, 0, none⟩) n c) n xs) : ∃ cur, w.heap[g]? = some (.cells cur T (0, 0)) ∧ n ≤ c := by
  rcases h.2 with ⟨h', _⟩ | ⟨g', cap', cur, h', _, hg, hn, _⟩
  · simp at h'
  · simp only [Value.slice.injEq, Option.some.injEq, Addr.mk.injEq, and_true, true_and] at h'
    obtain ⟨rfl, rfl⟩ := h'
    exact ⟨cur, hg, hn⟩
theorem RowsC.next {w1 wr w6 : World} {ys : List Val} {xs : List Value} {base g i cc : Nat} {Y : Obj} (h : RowsC w1 wr ys xs) (hown : wr.ownsRow base 22 1 (.slice (some ⟨g, 0, none⟩) i cc) i xs)
    {k : Int} {b : Bool} {n : Int} {f : Nat} {s : List UInt8} {C : Option Addr} {len c : Nat} {v : Val}
    (hgrow : ((wr.alloc (.cells #[.int .i64 k, .bool b, .int .i64 n, .float .f64 f, .string (st s), .slice C len c] 27)).alloc Y).grownBy w6 (some g))
    (hv : Has w1 (valV k b n f s C len c) v) (hy : ys[i]? = some v) : RowsC w1 w6 ys (xs ++ [.slice (some ⟨wr.heap.size, 0, none⟩) 1 1]) := by
  obtain ⟨cur, hg, _⟩ := own_block hown
  have hxl : xs.length = i := by have := hown.1; omega
  have hgl := (Array.getElem?_eq_some_iff.1 hg).1
  intro j u hj
  rcases Nat.lt_or_ge j xs.length with hlt | hge
  · rw [List.getElem?_append_left hlt] at hj
    obtain ⟨v0, B, k0, b0, n0, f0, s0, C0, len0, c0, e1, e2, e3, e4⟩ := h j u hj
    have hB := (Array.getElem?_eq_some_iff.1 e3).1
    refine ⟨v0, B, k0, b0, n0, f0, s0, C0, len0, c0, e1, e2, ?_, e4⟩
    have hne : B ≠ g := fun e => by
      subst e
      rw [hg] at e3
      simp at e3
    rw [hgrow.block B (by simp; omega) (by simp [hne])]
    exact alloc_past _ (alloc_past _ e3)
  · have hj2 : j = i := by
      have := (List.getElem?_eq_some_iff.1 hj).1
      simp at this; omega
    subst hj2
    rw [List.getElem?_append_right hge, hxl] at hj
    simp at hj
    subst hj
    refine ⟨v, wr.heap.size, k, b, n, f, s, C, len, c, hy, rfl, ?_, hv⟩
    rw [hgrow.block wr.heap.size (by simp; omega) (by simp; omega)]
    exact alloc_past _ (alloc_here wr _)
theorem RowsC.rows {w1 wr : World} {ys : List Val} {xs : List Value} {base g cc : Nat} (h : RowsC w1 wr ys xs) (hown : wr.ownsRow base 22 1 (.slice (some ⟨g, 0, none⟩) ys.length cc) ys.length xs) (hb : Below w1.heap.size w1 wr) : RowsV wr g ys := by
  obtain ⟨cur, hg, _⟩ := own_block hown
  have hxl : xs.length = ys.length := by have := hown.1; omega
  refine ⟨fun i x hx => ?_, (Array.getElem?_eq_some_iff.1 hg).1⟩
  have hi : i < ys.length := (List.getElem?_eq_some_iff.1 hx).1
  have hu : xs[i]? = some xs[i] := by simp
  obtain ⟨v, B, k, b, n, f, s, C, len, c, e1, e2, e3, e4⟩ := h i _ hu
  rw [hx] at e1
  cases e1
  refine ⟨some ⟨B, 0, none⟩, 1, ?_, ?_, Nat.le_refl _, by unfold maxLen; omega⟩
  · rw [hown.cellAt i (by omega), hu, e2]
  · intro q y hq
    match q, hq with
    | 0, hq =>
      cases hq
      exact ⟨⟨B, 0, none⟩, k, b, n, f, s, C, len, c, rfl, e4.keep hb, (Array.getElem?_eq_some_iff.1 e3).1, cell_of e3 0, cell_of e3 1, cell_of e3 2, cell_of e3 3, cell_of e3 4, cell_of e3 5⟩
    | q + 1, hq => simp at hq
theorem owns_empty1 (w : World) (T : TypeId) (base : Nat) (hb : base ≤ w.heap.size) : (w.alloc (.cells #[] T)).ownsRow base T 1 (.slice (some ⟨w.heap.size, 0, none⟩) 0 0) 0 [] :=
  ⟨rfl, .inr ⟨w.heap.size, 0, #[], rfl, hb, by show (w.heap.push _)[w.heap.size]? = _; simp, Nat.le_refl _, by unfold maxLen; omega, rfl, rfl⟩⟩
theorem Try.info22 : (Try.prog.info? 22).map (fun i => (i.zero, i.size, i.bytes)) = some (some (.slice none 0 0), 1, 24) := by kernel_rfl
theorem Try.info4 : (Try.prog.info? 4).map (fun i => (i.zero, i.size, i.bytes)) = some (some (.bool false), 1, 1) := by kernel_rfl
end Go.Proofs.Ytipjelkdbbhcpaa
