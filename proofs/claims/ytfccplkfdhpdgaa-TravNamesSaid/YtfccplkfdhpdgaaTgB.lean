
/-
  Traversers' names: slices.Clone, IndexFunc, DeleteFunc over names and values.
-/
import Derived.Test.YtfccplkfdhpdgaaTgA
import Derived.Test.YtfccplkfdhpdgaaApp
import Derived.Laws.OwnMore
import Derived.Lib.SliceRun
set_option linter.unusedSimpArgs false
set_option linter.unusedVariables false
namespace Go.Proofs.Ytfccplkfdhpdgaa
open Go.RowKit

theorem own_set1 {w : World} {base g p size n cap : Nat} {T : TypeId} {xs : List Value} (u : Value) (h : w.ownsRow base T size (.slice (some ⟨g, 0, none⟩) n cap) n xs) : (w.setCell ⟨g, p, none⟩ u).ownsRow base T size (.slice (some ⟨g, 0, none⟩) n cap) n (xs.set p u) := by
  refine ⟨by rw [List.length_set]; exact h.1, ?_⟩
  rcases h.2 with ⟨hv, _⟩ | ⟨g', cap', cur, hv, hb, hc, hn, hm, hs, ht⟩
  · simp at hv
  · simp only [Value.slice.injEq, Option.some.injEq, Addr.mk.injEq, and_true, true_and] at hv
    obtain ⟨rfl, rfl⟩ := hv
    exact .inr ⟨g, cap, _, rfl, hb, set_heap1 u hc, hn, hm, by rw [Array.size_setIfInBounds]; exact hs, by rw [Array.toList_setIfInBounds, List.take_set, ht]⟩
/-- fewer of its elements -/
theorem own_less {w : World} {base g size n m cap : Nat} {T : TypeId} {xs : List Value} (h : w.ownsRow base T size (.slice (some ⟨g, 0, none⟩) n cap) n xs) (hm : m ≤ n) : w.ownsRow base T size (.slice (some ⟨g, 0, none⟩) m cap) m (xs.take (m * size)) := by
  have hle : m * size ≤ n * size := Nat.mul_le_mul_right _ hm
  refine ⟨by rw [List.length_take, h.1]; omega, ?_⟩
  rcases h.2 with ⟨hv, _⟩ | ⟨g', cap', cur, hv, hb, hc, hn, hmx, hs, ht⟩
  · simp at hv
  · simp only [Value.slice.injEq, Option.some.injEq, Addr.mk.injEq, and_true, true_and] at hv
    obtain ⟨rfl, rfl⟩ := hv
    exact .inr ⟨g, cap, cur, rfl, hb, hc, by omega, hmx, hs, by rw [← ht, List.take_take, Nat.min_eq_left hle]⟩
theorem own_out {base g size m cap : Nat} {T : TypeId} {xs : List Value} : ∀ (vs : List Value) (o : Nat) {w : World}, w.ownsRow base T size (.slice (some ⟨g, 0, none⟩) m cap) m xs → m * size ≤ o → (w.setCells g o vs).ownsRow base T size (.slice (some ⟨g, 0, none⟩) m cap) m xs
  | [], _, _, h, _ => h
  | v :: vs, o, w, h, ho => by
    have h1 := own_set1 (p := o) v h
    rw [List.set_eq_of_length_le (by rw [h.1]; exact ho)] at h1
    exact own_out vs (o + 1) h1 (by omega)
theorem only_sets {g : Nat} {w0 : World} : ∀ (vs : List Value) (o : Nat) {w : World}, (∀ k, k ≠ g → w.heap[k]? = w0.heap[k]?) ∧ w.heap.size = w0.heap.size ∧ w.os = w0.os ∧ w.tape = w0.tape ∧ w.output = w0.output →
    (∀ k, k ≠ g → (w.setCells g o vs).heap[k]? = w0.heap[k]?) ∧ (w.setCells g o vs).heap.size = w0.heap.size ∧ (w.setCells g o vs).os = w0.os ∧ (w.setCells g o vs).tape = w0.tape ∧ (w.setCells g o vs).output = w0.output
  | [], _, _, h => h
  | v :: vs, o, w, h => only_sets vs (o + 1) ⟨fun k hk => by rw [Below.heap_setCell _ _ _ _ (by show k ≠ g; exact hk)]; exact h.1 k hk, by rw [← h.2.1]; simp [World.setCell], h.2.2⟩

abbrev tagC (x : List UInt8) (k : Int) (b : Bool) (n : Int) (f : Nat) (s : List UInt8) (B : Option Addr) (len c : Nat) : List Value := [.string (st x), .int .i64 k, .bool b, .int .i64 n, .float .f64 f, .string (st s), .slice B len c]
/-- the cells of a row of names and values; the values stood in w -/
def TagRow (w : World) (ys : List Tag) (xs : List Value) : Prop := xs.length = ys.length * 7 ∧ ∀ (i : Nat) (y : Tag), ys[i]? = some y → ∃ k b n f s B len c, Has w (valV k b n f s B len c) y.2 ∧ ∀ j u, (tagC y.1 k b n f s B len c)[j]? = some u → xs[i * 7 + j]? = some u
theorem TagRow.keep {w w' : World} {ys : List Tag} {xs : List Value} (h : TagRow w ys xs) (hb : Below w.heap.size w w') : TagRow w' ys xs := ⟨h.1, fun i y hi => by
  obtain ⟨k, b, n, f, s, B, len, c, h1, h2⟩ := h.2 i y hi
  exact ⟨k, b, n, f, s, B, len, c, h1.keep hb, h2⟩⟩
/-- the cells of these names, as they lie in memory -/
theorem TagsN.cells {w : World} {T : Option Addr} {l : List Tag} (h : TagsN w T l) : ∃ xs, TagRow w l xs ∧ ∀ ad, T = some ad → ∀ j u, xs[j]? = some u → w.cell? (ad.add j) = some u := by
  suffices H : ∀ m, m ≤ l.length → ∃ xs, TagRow w (l.take m) xs ∧ ∀ ad, T = some ad → ∀ j u, xs[j]? = some u → w.cell? (ad.add j) = some u from by
    have := H l.length (Nat.le_refl _)
    rwa [List.take_length] at this
  intro m
  induction m with
  | zero => exact fun _ => ⟨[], ⟨by simp, fun i y hi => by simp at hi⟩, fun ad _ j u hu => by simp at hu⟩
  | succ m ih =>
    intro hm
    obtain ⟨xs, h1, h2⟩ := ih (by omega)
    have hlm : (l.take m).length = m := by rw [List.length_take]; omega
    have hget : l[m]? = some l[m] := by simp
    obtain ⟨ad, k, b, n, f, s, B, len, c, had, hv, hat⟩ := h m _ hget
    refine ⟨xs ++ tagC l[m].1 k b n f s B len c, ⟨by rw [List.length_append, h1.1, List.length_take, List.length_take]; simp; omega, fun i y hi => ?_⟩, fun ad' had' j u hu => ?_⟩
    · rw [List.take_succ_eq_append_getElem hm] at hi
      by_cases hil : i < m
      · rw [List.getElem?_append_left (by omega)] at hi
        obtain ⟨k, b, n, f, s, B, len, c, h3, h4⟩ := h1.2 i y hi
        refine ⟨k, b, n, f, s, B, len, c, h3, fun j u hu => ?_⟩
        have h5 := h4 j u hu
        rw [List.getElem?_append_left (List.getElem?_eq_some_iff.1 h5).1]
        exact h5
      · have e : i = m := by have := (List.getElem?_eq_some_iff.1 hi).1; simp at this; omega
        subst e
        rw [List.getElem?_append_right (by omega), hlm] at hi
        simp at hi
        subst hi
        refine ⟨k, b, n, f, s, B, len, c, hv, fun j u hu => ?_⟩
        rw [List.getElem?_append_right (by rw [h1.1, hlm]; omega), h1.1, hlm, show i * 7 + j - i * 7 = j by omega]
        exact hu
    · rw [had] at had'
      cases had'
      by_cases hj : j < xs.length
      · rw [List.getElem?_append_left hj] at hu
        exact h2 ad had j u hu
      · rw [List.getElem?_append_right (by omega), h1.1, hlm] at hu
        obtain ⟨t, rfl⟩ : ∃ t, j = m * 7 + t := ⟨j - m * 7, by rw [h1.1, hlm] at hj; omega⟩
        rw [show m * 7 + t - m * 7 = t by omega] at hu
        rw [← Go.Deep.add_add]
        obtain ⟨h0, c0, c1, c2, c3, c4, c5, c6⟩ := hat
        generalize ad.add (m * 7) = a at *
        have ha : ∀ t, a.add (t + 1) = ⟨a.block, a.off + (t + 1), none⟩ := fun t => by simp [Addr.add]
        match t, hu with
        | 0, hu => simp at hu; subst hu; rw [show a.add 0 = a by simp [Addr.add]]; exact c0
        | 1, hu => simp at hu; subst hu; rw [ha]; exact c1
        | 2, hu => simp at hu; subst hu; rw [ha]; exact c2
        | 3, hu => simp at hu; subst hu; rw [ha]; exact c3
        | 4, hu => simp at hu; subst hu; rw [ha]; exact c4
        | 5, hu => simp at hu; subst hu; rw [ha]; exact c5
        | 6, hu => simp at hu; subst hu; rw [ha]; exact c6
abbrev tgV (x : List UInt8) (k : Int) (b : Bool) (n : Int) (f : Nat) (s : List UInt8) (B : Option Addr) (len c : Nat) : Value := .agg #[.string (st x), .int .i64 k, .bool b, .int .i64 n, .float .f64 f, .string (st s), .slice B len c]
abbrev delF (g : Nat) : Value := .func (.func 43) #[] #[.pointer (some ⟨g, 0, none⟩)]
set_option maxRecDepth 8000 in
theorem del_c (nb : Nat) (name x : List UInt8) (k : Int) (b : Bool) (n : Int) (f : Nat) (s : List UInt8) (B : Option Addr) (len c : Nat) (w : World) (hn : w.cell? ⟨nb, 0, none⟩ = some (.string (st name))) :
    Calls Try.prog 43 #[tgV x k b n f s B len c, .pointer (some ⟨nb, 0, none⟩)] w fun e w' => e = .returned (.bool (x == name)) ∧ Below w.heap.size w w' := by
  have hl := World.block_lt_of_cell? w ⟨nb, 0, none⟩ hn
  have hn' := (below_alloc w (.cells #[.string (st x), .int .i64 k, .bool b, .int .i64 n, .float .f64 f, .string (st s), .slice B len c] 52)).cell (p := ⟨nb, 0, none⟩) hl
  rw [hn] at hn'
  cases he : (x == name)
  · go_enter Try.func43, Try.ntmps43
    go_wp2_with fail
    go_ret
    exact ⟨ret_bool (by simp), below_alloc _ _⟩
  · go_enter Try.func43, Try.ntmps43
    go_wp2_with fail
    go_ret
    exact ⟨ret_bool (by simp), below_alloc _ _⟩
/-- where a name stands first -/
def FirstAt (l : List Tag) (name : List UInt8) (r : Int) : Prop := (r = -1 ∧ ∀ (t : Nat) y, l[t]? = some y → (y.1 == name) = false) ∨ ∃ i : Nat, r = i ∧ (∃ y, l[i]? = some y ∧ (y.1 == name) = true) ∧ ∀ (t : Nat) y, t < i → l[t]? = some y → (y.1 == name) = false
set_option maxRecDepth 8000 in
set_option maxHeartbeats 4000000 in
theorem indexTag_c (nb : Nat) (name : List UInt8) (l : List Tag) (A : Option Addr) (cap : Nat) (w : World) (hn : w.cell? ⟨nb, 0, none⟩ = some (.string (st name))) (hp : TagsN w A l) (hl : l.length ≤ 100000) :
    Calls Try.prog 49 #[.slice A l.length cap, delF nb] w fun e w' => ∃ r : Int, e = .returned (.int .i64 r) ∧ FirstAt l name r ∧ Below w.heap.size w w' := by
  have hnl := World.block_lt_of_cell? w ⟨nb, 0, none⟩ hn
  go_enter Try.func49, Try.ntmps49
  go_wp2_with fail
  go_loopw [8] (fun a8 wr => ∃ i : Nat, a8 = .int .i64 i ∧ i ≤ l.length ∧ Hid (∀ (t : Nat) y, t < i → l[t]? = some y → (y.1 == name) = false) ∧ Below w.heap.size w wr) (fun a _ => l.length - (intOf a).toNat)
  case atStart => exact ⟨0, rfl, Nat.zero_le _, fun t y h => absurd h (Nat.not_lt_zero _), Below.refl _ _⟩
  case round =>
    obtain ⟨i, rfl, hi, hno, hbr⟩ := hrel
    by_cases hil : i < l.length
    · have hil' : (i : Int) < l.length := by omega
      have hget : l[i]? = some l[i] := by simp
      obtain ⟨ad, k', b', n', f', s', B', len', c', rfl, hx, hat⟩ := hp i l[i] hget
      obtain ⟨q7, q0, q1, q2, q3, q4, q5, q6⟩ := hat.keep hbr
      have cs := del_c nb name l[i].1 k' b' n' f' s' B' len' c' wr ((hbr.cell (p := ⟨nb, 0, none⟩) hnl).trans hn)
      cases he : (l[i].1 == name)
      · rw [he] at cs
        have hst : Hid (∀ (t : Nat) y, t < i + 1 → l[t]? = some y → (y.1 == name) = false) := Lib.hid fun t y ht hy => by
          by_cases e : t = i
          · subst e
            rw [hget] at hy
            cases hy
            exact he
          · exact hno.out t y (by omega) hy
        generalize l[i] = x at *
        clear hat hx hp hno hget he
        go_wp2_with ((with_reducible refine cs.mono ?_); rintro e w2 ⟨rfl, hb2⟩)
        exact ⟨⟨i + 1, rfl, hil, hst.out, hbr.trans (hb2.mono hbr.size)⟩, by simp [intOf]; omega⟩
      · rw [he] at cs
        have hF : FirstAt l name (i : Int) := .inr ⟨i, rfl, ⟨_, hget, he⟩, hno.out⟩
        generalize l[i] = x at *
        clear hat hx hp hno hget he
        go_wp2_with ((with_reducible refine cs.mono ?_); rintro e w2 ⟨rfl, hb2⟩)
        go_ret
        exact ⟨_, rfl, hF, hbr.trans (hb2.mono hbr.size)⟩
    · have hil' : ¬ (i : Int) < l.length := by omega
      have hF : FirstAt l name (-1) := .inl ⟨rfl, fun t y hy => hno.out t y (by have := (List.getElem?_eq_some_iff.1 hy).1; omega) hy⟩
      clear hp hno
      go_wp2_with fail
      go_ret
      exact ⟨_, rfl, hF, hbr⟩
theorem tag_info : (Try.prog.info? 52).map (fun i => (i.zero, i.size, i.bytes)) = some (some (.agg #[.string ByteArray.empty, .int .i64 0, .bool false, .int .i64 0, .float .f64 0, .string ByteArray.empty, .slice none 0 0]), 7, 88) := by kernel_rfl
theorem TagRow.one {w : World} {l : List Tag} {xs : List Value} (h : TagRow w l xs) : ∀ u ∈ xs, u.oneCell' = true := by
  intro u hu
  obtain ⟨j, hj, rfl⟩ := List.mem_iff_getElem.1 hu
  have hj7 : j / 7 < l.length := by have := h.1; omega
  obtain ⟨k, b, n, f, s, B, len, c, _, h2⟩ := h.2 (j / 7) l[j / 7] (by simp)
  have h3 : (tagC l[j / 7].1 k b n f s B len c)[j % 7]? = some ((tagC l[j / 7].1 k b n f s B len c)[j % 7]'(by show j % 7 < 7; omega)) := by simp
  have h4 := h2 (j % 7) _ h3
  rw [show j / 7 * 7 + j % 7 = j by omega, List.getElem?_eq_getElem hj] at h4
  have h5 := Option.some.inj h4
  rw [h5]
  have : ∀ x ∈ tagC l[j / 7].1 k b n f s B len c, x.oneCell' = true := by
    intro x hx
    simp only [List.mem_cons, List.not_mem_nil, or_false] at hx
    rcases hx with rfl | rfl | rfl | rfl | rfl | rfl | rfl <;> rfl
  exact this _ (List.getElem_mem _)
set_option maxRecDepth 8000 in
set_option maxHeartbeats 4000000 in
theorem clone_c (l : List Tag) (A : Option Addr) (cap : Nat) (w0 w : World) (h0 : Below w0.heap.size w0 w) (hp : TagsN w0 A l) (hl : l.length ≤ 100000) :
    Calls Try.prog 42 #[.slice A l.length cap] w fun e w' => ∃ v xs, e = .returned v ∧ w'.ownsRow w.heap.size 52 7 v l.length xs ∧ TagRow w0 l xs ∧ Below w.heap.size w w' := by
  obtain ⟨xs, hrow, hcs0⟩ := hp.cells
  have hcs : ∀ ad, A = some ad → ∀ j u, xs[j]? = some u → w.cell? (ad.add j) = some u := fun ad hA j u hu => by
    have h1 := hcs0 ad hA j u hu
    exact (h0.cell (cell_lt' h1)).trans h1
  clear hcs0
  obtain ⟨i0, hi0, hz0, hz1, hz2⟩ := info_parts tag_info
  cases A with
  | none =>
    have hl0 : l = [] := by
      cases l with
      | nil => rfl
      | cons y l =>
        obtain ⟨_, _, _, _, _, _, _, _, _, he, _⟩ := hp 0 y rfl
        cases he
    subst hl0
    have hxs : xs = [] := List.eq_nil_of_length_eq_zero (by rw [hrow.1]; rfl)
    subst hxs
    have heq := fun w => Lib.run_eql_slice_nil (P := Try.prog) w 32 52 none 0 cap 0 0 Try.underlying32
    clear hcs
    go_enter Try.func42, Try.ntmps42
    go_wp2_with fail
    go_ret
    exact ⟨_, [], rfl, World.ownsRow_nil _ _ _ _, hrow, Below.refl _ _⟩
  | some ad =>
    have hone := hrow.one
    have h1 := hrow.1
    have hrow := Lib.hid hrow
    clear hp
    have heq := fun w => Lib.run_eql_slice_nil (P := Try.prog) w 32 52 (some ad) l.length cap 0 0 Try.underlying32
    go_enter Try.func42, Try.ntmps42
    go_wp2_with (at_builtin; refine wpList_append_fresh _ rfl _ _ 32 rfl 52 i0 (.agg #[.string ByteArray.empty, .int .i64 0, .bool false, .int .i64 0, .float .f64 0, .string ByteArray.empty, .slice none 0 0]) 7 88 Try.underlying32 hi0 hz0 hz1 hz2 rfl (by decide) w.heap.size rfl 52 rfl (alloc_here _ _) w.heap.size (Nat.le_refl _) (some ad) l.length cap xs rfl (fun h => by cases h) h1 ?d1 hone ?d2 ?d3 ?_)
    case d1 =>
      intro ad' he j u hu
      have := hcs ad' he j u hu
      rw [(below_alloc w _).cell (p := ad'.add j) (cell_lt' this)]
      exact this
    case d2 => unfold maxLen; omega
    case d3 => omega
    intro v' w' hown hb
    go_wp2_with fail
    go_ret
    exact ⟨v', xs, rfl, hown, hrow.out, (below_alloc w _).trans (hb.mono (by omega))⟩
end Go.Proofs.Ytfccplkfdhpdgaa
