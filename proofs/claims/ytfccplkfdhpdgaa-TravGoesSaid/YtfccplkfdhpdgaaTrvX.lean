
/-
  trav.Go.
-/
import Derived.Test.YtfccplkfdhpdgaaTrvM
import Derived.Test.YtfccplkfdhpdgaaValR
import Derived.Test.YtfccplkfdhpdgaaRel
import Derived.ArgAppend
import Derived.Deep.Onto
set_option linter.unusedSimpArgs false
set_option linter.unusedVariables false
namespace Go.Proofs.Ytfccplkfdhpdgaa
open Go.RowKit

theorem clip_c (A : Option Addr) (n cap : Nat) (w : World) (hA : A = none → n = 0) (hn : n ≤ cap) (hm : cap ≤ maxLen) : Calls Try.prog 33 #[.slice A n cap] w fun e w' => e = .returned (.slice A n n) ∧ w = w' := by
  unfold maxLen at hm
  cases A with
  | none =>
    have h0 := hA rfl
    subst h0
    clear hA hn
    go_enter Try.func33, Try.ntmps33
    go_wp2
    go_ret
    exact ⟨rfl, rfl⟩
  | some ad =>
    clear hA
    have h1 : (n : Int) ≤ cap := by omega
    go_enter Try.func33, Try.ntmps33
    go_wp2
    go_ret
    exact ⟨rfl, rfl⟩

/-- the cells of a slice's values -/
theorem Parts.cells {w : World} {A : Option Addr} {l : List Val} (h : Parts w A l) : ∃ xs, VRow w l xs ∧ ∀ ad, A = some ad → ∀ j u, xs[j]? = some u → w.cell? (ad.add j) = some u := by
  have H : ∀ n, n ≤ l.length → ∃ xs, VRow w (l.take n) xs ∧ ∀ ad, A = some ad → ∀ j u, xs[j]? = some u → w.cell? (ad.add j) = some u := by
    intro n
    induction n with
    | zero => intro _; exact ⟨[], by simpa using VRow.nil w, fun ad _ j u hu => by simp at hu⟩
    | succ n ih =>
      intro hn
      obtain ⟨xs, hr, hc⟩ := ih (by omega)
      obtain ⟨ad, k, b, m, f, s, B, len, c, rfl, hv, hat⟩ := h n l[n] (by simp)
      refine ⟨xs ++ valC k b m f s B len c, ?_, fun ad' he j u hu => ?_⟩
      · rw [List.take_succ_eq_append_getElem hn]
        exact hr.snoc hv
      · cases he
        have hlen : xs.length = n * 6 := by rw [hr.1, List.length_take, Nat.min_eq_left (by omega)]
        by_cases hj : j < xs.length
        · rw [List.getElem?_append_left hj] at hu
          exact hc ad rfl j u hu
        · rw [List.getElem?_append_right (by omega), hlen] at hu
          obtain ⟨j', rfl⟩ : ∃ j', j = n * 6 + j' := ⟨j - n * 6, by omega⟩
          rw [show n * 6 + j' - n * 6 = j' by omega] at hu
          rw [← Go.Deep.add_add]
          obtain ⟨_, c0, c1, c2, c3, c4, c5⟩ := hat
          have ha : ∀ i, (ad.add (n * 6)).add (i + 1) = ⟨(ad.add (n * 6)).block, (ad.add (n * 6)).off + (i + 1), none⟩ := fun i => add_succ _ i
          match j', hu with
          | 0, hu => simp at hu; subst hu; exact c0
          | 1, hu => simp at hu; subst hu; rw [ha]; exact c1
          | 2, hu => simp at hu; subst hu; rw [ha]; exact c2
          | 3, hu => simp at hu; subst hu; rw [ha]; exact c3
          | 4, hu => simp at hu; subst hu; rw [ha]; exact c4
          | 5, hu => simp at hu; subst hu; rw [ha]; exact c5
  have := H l.length (Nat.le_refl _)
  rwa [List.take_length] at this

/-- a path in a row of its own, whose values stood in w0 -/
structure Way (w0 : World) (path : List Val) (P : Option Addr) (pl pc : Nat) (w : World) : Prop where
  own : ∃ xs, w.ownsRow 0 31 6 (.slice P pl pc) path.length xs ∧ VRow w0 path xs
theorem Way.keep {w0 w w' : World} {path : List Val} {P : Option Addr} {pl pc : Nat} (h : Way w0 path P pl pc w) (hb : Below w.heap.size w w') : Way w0 path P pl pc w' := by
  obtain ⟨xs, h1, h2⟩ := h.own
  exact ⟨xs, own_below h1 hb, h2⟩
/-- blocks of another kind may turn -/
structure Other (T : TypeId) (w w' : World) : Prop where
  size : w.heap.size ≤ w'.heap.size
  block : ∀ (b : Nat) cs, w.heap[b]? = some (.cells cs T) → w'.heap[b]? = w.heap[b]?
theorem Other.trans {T : TypeId} {a b c : World} (h : Other T a b) (h' : Other T b c) : Other T a c :=
  ⟨Nat.le_trans h.size h'.size, fun i cs hi => (h'.block i cs ((h.block i cs hi).trans hi)).trans (h.block i cs hi)⟩
theorem Way.other {w0 w w' : World} {path : List Val} {P : Option Addr} {pl pc : Nat} (h : Way w0 path P pl pc w) (ho : Other 31 w w') : Way w0 path P pl pc w' := by
  obtain ⟨xs, h1, h2⟩ := h.own
  refine ⟨xs, ⟨h1.1, ?_⟩, h2⟩
  rcases h1.2 with ⟨hv, hn⟩ | ⟨g, cap, cur, hv, hb, hc, hn, hm, hs, ht⟩
  · exact .inl ⟨hv, hn⟩
  · exact .inr ⟨g, cap, cur, hv, hb, by rw [ho.block g _ hc]; exact hc, hn, hm, hs, ht⟩
theorem Way.has {w0 w : World} {path : List Val} {P : Option Addr} {pl pc : Nat} (h : Way w0 path P pl pc w) (hb : Below w0.heap.size w0 w) : pl = path.length ∧ Parts w P path ∧ path.length ≤ pc ∧ pc ≤ maxLen := by
  obtain ⟨xs, h1, h2⟩ := h.own
  obtain ⟨A', cap', he, hp, hc, hm⟩ := Parts.ofRow (ys := path) h1 (h2.keep hb)
  cases he
  exact ⟨rfl, hp, hc, hm⟩
theorem Way.nil (w0 w : World) : Way w0 [] none 0 0 w := ⟨[], World.ownsRow_nil _ _ _ _, VRow.nil _⟩
theorem VRow.one {w : World} {l : List Val} {xs : List Value} (h : VRow w l xs) : ∀ u ∈ xs, u.oneCell' = true := by
  intro u hu
  obtain ⟨j, hj, rfl⟩ := List.mem_iff_getElem.1 hu
  have hj6 : j / 6 < l.length := by have := h.1; omega
  obtain ⟨k, b, n, f, s, B, len, c, _, h2⟩ := h.2 (j / 6) l[j / 6] (by simp)
  have h3 : (valC k b n f s B len c)[j % 6]? = some ((valC k b n f s B len c)[j % 6]'(by show j % 6 < 6; omega)) := by simp
  have h4 := h2 (j % 6) _ h3
  rw [show j / 6 * 6 + j % 6 = j by omega, List.getElem?_eq_getElem hj] at h4
  have h5 := Option.some.inj h4
  rw [h5]
  have : ∀ x ∈ valC k b n f s B len c, x.oneCell' = true := by
    intro x hx
    simp only [List.mem_cons, List.not_mem_nil, or_false] at hx
    rcases hx with rfl | rfl | rfl | rfl | rfl | rfl <;> rfl
  exact this _ (List.getElem_mem _)
set_option maxRecDepth 8000 in
set_option maxHeartbeats 2000000 in
theorem go_c (k : Int) (b : Bool) (n : Int) (f : Nat) (s : List UInt8) (B : Option Addr) (len c : Nat) (P : Option Addr) (pl pc : Nat) (T : Option Addr) (tl tc : Nat) (q : Int) (t : TravD)
    (k' : Int) (b' : Bool) (n' : Int) (f' : Nat) (s' : List UInt8) (B' : Option Addr) (len' c' : Nat) (v : Val) (path : Bool) (w0 w : World) (h0 : Below w0.heap.size w0 w) (ht0 : HasT w0 k b n f s B len c P pl pc T tl tc q t) (hv0 : Has w0 (valV k' b' n' f' s' B' len' c') v) (hpl : t.path.length ≤ 4) :
    Calls Try.prog 19 #[travV k b n f s B len c P pl pc T tl tc q, valV k' b' n' f' s' B' len' c', .bool path] w fun e w' => ∃ P' pl' pc', e = .returned (travV k' b' n' f' s' B' len' c' P' pl' pc' T tl tc q) ∧ Way w0 (if path then t.path ++ [v] else []) P' pl' pc' w' ∧ Below w.heap.size w w' := by
  obtain ⟨i0, hi0, hz0, hz1, hz2⟩ := info_parts Try.info31
  obtain ⟨xs, hrow0, hcs0⟩ := ht0.hp.cells
  have hcs : ∀ ad, P = some ad → ∀ j u, xs[j]? = some u → w.cell? (ad.add j) = some u := fun ad hA j u hu => by
    have h1 := hcs0 ad hA j u hu
    exact (h0.cell (cell_lt' h1)).trans h1
  have ht := ht0.keep h0
  have hv := hv0.keep h0
  have hrow := hrow0.keep h0
  have hrw := Lib.hid (hrow0.snoc hv0)
  clear hcs0 hrow0 ht0 h0 hv0
  have hpA : P = none → pl = 0 := fun h => by
    rcases Nat.eq_zero_or_pos t.path.length with h0 | h0
    · rw [ht.epl, h0]
    · obtain ⟨ad, _, _, _, _, _, _, _, _, h1, _⟩ := ht.hp 0 t.path[0] (by simp)
      rw [h] at h1; cases h1
  have hpc := ht.hpc
  have hpm := ht.hpm
  have hpe := ht.epl
  subst hpe
  obtain ⟨w1, hw1⟩ : ∃ w1, w1 = w.alloc (.cells #[.int .i64 k, .bool b, .int .i64 n, .float .f64 f, .string (st s), .slice B len c, .slice P t.path.length pc, .slice T tl tc, .int .i64 q] 34) := ⟨_, rfl⟩
  obtain ⟨w2, hw2⟩ : ∃ w2, w2 = w1.alloc (.cells #[.int .i64 k', .bool b', .int .i64 n', .float .f64 f', .string (st s'), .slice B' len' c'] 31) := ⟨_, rfl⟩
  obtain ⟨w3, hw3⟩ : ∃ w3, w3 = w2.alloc (.cells #[.int .i64 0, .bool false, .int .i64 0, .float .f64 0, .string (st []), .slice none 0 0, .slice none 0 0, .slice none 0 0, .int .i64 0] 34) := ⟨_, rfl⟩
  obtain ⟨w4, hw4⟩ : ∃ w4, w4 = w3.alloc (.cells #[.int .i64 k', .bool b', .int .i64 n', .float .f64 f', .string (st s'), .slice B' len' c', .slice none 0 0, .slice T tl tc, .int .i64 q] 34) := ⟨_, rfl⟩
  have s1 : w1.heap.size = w.heap.size + 1 := hw1 ▸ alloc_grows _ _ rfl
  have s2 : w2.heap.size = w.heap.size + 1 + 1 := hw2 ▸ alloc_grows _ _ s1
  have s3 : w3.heap.size = w.heap.size + 1 + 1 + 1 := hw3 ▸ alloc_grows _ _ s2
  have s4 : w4.heap.size = w.heap.size + 1 + 1 + 1 + 1 := hw4 ▸ alloc_grows _ _ s3
  have b4 : Below w.heap.size w w4 := hw4 ▸ hw3 ▸ hw2 ▸ hw1 ▸ (((below_alloc w _).alloc (by simp) _).alloc (by simp; omega) _).alloc (by simp; omega) _
  have z0 : w4.heap[w.heap.size]? = _ := hw4 ▸ alloc_past _ (hw3 ▸ alloc_past _ (hw2 ▸ alloc_past _ (hw1 ▸ alloc_here w _)))
  have z1 : w4.heap[w.heap.size + 1]? = _ := hw4 ▸ alloc_past _ (hw3 ▸ alloc_past _ (hw2 ▸ s1 ▸ alloc_here w1 _))
  have z2 : w4.heap[w.heap.size + 1 + 1]? = _ := hw4 ▸ alloc_past _ (hw3 ▸ s2 ▸ alloc_here w2 _)
  have z3 : w4.heap[w.heap.size + 1 + 1 + 1]? = _ := hw4 ▸ s3 ▸ alloc_here w3 _
  have hw : (((w.alloc (.cells #[.int .i64 k, .bool b, .int .i64 n, .float .f64 f, .string (st s), .slice B len c, .slice P t.path.length pc, .slice T tl tc, .int .i64 q] 34)).alloc (.cells #[.int .i64 k', .bool b', .int .i64 n', .float .f64 f', .string (st s'), .slice B' len' c'] 31)).alloc (.cells #[.int .i64 0, .bool false, .int .i64 0, .float .f64 0, .string (st []), .slice none 0 0, .slice none 0 0, .slice none 0 0, .int .i64 0] 34)).alloc (.cells #[.int .i64 k', .bool b', .int .i64 n', .float .f64 f', .string (st s'), .slice B' len' c', .slice none 0 0, .slice T tl tc, .int .i64 q] 34) = w4 := by rw [hw4, hw3, hw2, hw1]
  clear hw1 hw2 hw3 hw4 s1 s2 s3
  have z0 := Lib.hid z0
  have z1 := Lib.hid z1
  have z2 := Lib.hid z2
  have z3 := Lib.hid z3
  go_enter Try.func19, Try.ntmps19
  cases path
  · have q2 := fun j => cell_of z2.out j
    have q3 := fun j => cell_of z3.out j
    have f2 := fun j => frozen_of z2.out j
    have hT : ∀ w', Below w.heap.size w w' → Way w0 [] none 0 0 w' ∧ Below w.heap.size w w' := fun w' h => ⟨Way.nil _ _, h⟩
    have z4 : w.heap.size + 1 + 1 < w4.heap.size := by omega
    have z5 : w.heap.size ≤ w.heap.size + 1 + 1 := by omega
    go_upto_region 4 with fail
    clear hw z0 z1 z3
    go_wp2
    refine bodyPost_ret (v := travV k' b' n' f' s' B' len' c' none 0 0 T tl tc q) (by simp only [results, Try.results19]; go_simp) rfl ⟨none, 0, 0, rfl, hT _ ?_⟩
    repeat (with_reducible refine back_set ?_ _ z5 _)
    exact b4
  · have q0 : ∀ (p : In w4) j, p.w.cell? ⟨w.heap.size, j, none⟩ = _ := fun p j => cell_of ((p.h.block _ (Array.getElem?_eq_some_iff.1 z0.out).1).trans z0.out) j
    have q1 : ∀ (p : In w4) j, p.w.cell? ⟨w.heap.size + 1, j, none⟩ = _ := fun p j => cell_of ((p.h.block _ (Array.getElem?_eq_some_iff.1 z1.out).1).trans z1.out) j
    have cc := fun p : In w4 => clip_c P t.path.length pc p.w hpA hpc hpm
    go_upto_region 3 with fail
    clear hw
    (refine wp_region_rel_at (5) [19] [] (by kernel_rfl) (by kernel_rfl) (by kernel_rfl) ?_; (simp only [List.take_succ_cons, List.take_zero, List.drop_succ_cons, List.drop_zero]))
    ((with_reducible refine wpRel_none (by kernel_rfl) (by kernel_rfl) ?_); intro K hK; go_simp; first | (with_reducible refine hK _ ?_; clear hK K) | (apply Exists.intro; (with_reducible refine ⟨fun _ => ⟨?_, _, rfl⟩, hK _ ?_⟩); (· exact rfl); clear hK K) | (apply Exists.intro; (with_reducible refine ⟨fun _ => ?_, hK _ ?_⟩); (· (with_reducible (fail))); clear hK K))
    ((with_reducible refine wpRel_none (by kernel_rfl) (by kernel_rfl) ?_); intro K hK; go_simp; first | (with_reducible refine hK _ ?_; clear hK K) | (apply Exists.intro; (with_reducible refine ⟨fun _ => ⟨?_, _, rfl⟩, hK _ ?_⟩); (· exact rfl); clear hK K) | (apply Exists.intro; (with_reducible refine ⟨fun _ => ?_, hK _ ?_⟩); (· (with_reducible (fail))); clear hK K))
    ((with_reducible refine wpRel_none (by kernel_rfl) (by kernel_rfl) ?_); intro K hK; go_simp; first | (with_reducible refine hK _ ?_; clear hK K) | (apply Exists.intro; (with_reducible refine ⟨fun _ => ⟨?_, _, rfl⟩, hK _ ?_⟩); (· exact rfl); clear hK K) | (apply Exists.intro; (with_reducible refine ⟨fun _ => ?_, hK _ ?_⟩); (· (with_reducible ((refine (cc _).mono ?_); rintro e w5 ⟨rfl, rfl⟩; exact ⟨rfl, Below.refl _ _⟩))); clear hK K))
    ((with_reducible refine wpRel_none (by kernel_rfl) (by kernel_rfl) ?_); intro K hK; go_simp; first | (with_reducible refine hK _ ?_; clear hK K) | (apply Exists.intro; (with_reducible refine ⟨fun _ => ⟨?_, _, rfl⟩, hK _ ?_⟩); (· exact rfl); clear hK K) | (apply Exists.intro; (with_reducible refine ⟨fun _ => ?_, hK _ ?_⟩); (· (with_reducible (fail))); clear hK K))
    ((with_reducible refine wpRel_fact [] (19) (RowAt (w4.heap.size) (#[.int .i64 k', .bool b', .int .i64 n', .float .f64 f', .string (st s'), .slice B' len' c']) (31) (1)) (by kernel_rfl) rfl rfl (RowAt.steady _ _ _ _) (by first | exact rfl | go_simp) ?_ ?_); (· intro p; rw [pickR_nil]; (simp only [fillR]); go_wp2_with fail; exact row_post p.h.size rfl rfl))
    ((with_reducible refine wpRel_nil ?_); intro p; (simp only [fillR]))
    rintro u ⟨b5, hb5, rfl, hz5⟩ -
    have hxl : xs.length = t.path.length * 6 := hrow.1
    have e2 := ((p.h.block _ (Array.getElem?_eq_some_iff.1 z2.out).1).trans z2.out)
    have e3 := ((p.h.block _ (Array.getElem?_eq_some_iff.1 z3.out).1).trans z3.out)
    have bp := p.back b4
    have hps := p.h.size
    generalize p.w = w5 at *
    clear cc q0 q1 z0 z1 z2 z3
    have e2 := Lib.hid e2
    have e3 := Lib.hid e3
    have hz5 := Lib.hid hz5
    go_wp2_with (at_builtin; refine wpList_append_grows _ rfl _ _ 29 rfl 31 i0 (.agg #[.int .i64 0, .bool false, .int .i64 0, .float .f64 0, .string ByteArray.empty, .slice none 0 0]) 6 72 Try.underlying29 hi0 hz0 hz1 hz2 rfl (by decide) P t.path.length t.path.length xs rfl ?d1 hxl ?d2 ⟨b5, 0, none⟩ 1 1 (valC k' b' n' f' s' B' len' c') rfl rfl ?d3 ?d4 (by omega) ?d5 ?d6 ?_)
    case d1 => exact fun h => ⟨hpA h, hpA h⟩
    case d2 =>
      intro ad hA j u hu
      have h1 := hcs ad hA j u hu
      exact (bp.cell (cell_lt' h1)).trans h1
    case d3 =>
      intro j u hu
      have hz := hz5.out
      match j, hu with
      | 0, hu => simp at hu; subst hu; exact cell_of hz 0
      | 1, hu => simp at hu; subst hu; exact cell_of hz 1
      | 2, hu => simp at hu; subst hu; exact cell_of hz 2
      | 3, hu => simp at hu; subst hu; exact cell_of hz 3
      | 4, hu => simp at hu; subst hu; exact cell_of hz 4
      | 5, hu => simp at hu; subst hu; exact cell_of hz 5
    case d4 => intro u hu; simp only [List.mem_cons, List.not_mem_nil, or_false] at hu; rcases hu with rfl | rfl | rfl | rfl | rfl | rfl <;> rfl
    case d5 => unfold maxLen; omega
    case d6 => omega
    intro v' w6 hown hgrow
    have b6 : Below w.heap.size w w6 := bp.grown hgrow bp.size fun k hk => by cases hk
    have h2 := (hgrow.block _ (Array.getElem?_eq_some_iff.1 e2.out).1 (fun e => by cases e)).trans e2.out
    have h3 := (hgrow.block _ (Array.getElem?_eq_some_iff.1 e3.out).1 (fun e => by cases e)).trans e3.out
    have hsz6 := b6.size
    obtain ⟨A', cap', rfl, _, hc', hm'⟩ := Parts.ofRow (ys := t.path ++ [v]) (by simpa using hown) ((hrow.keep b6).snoc (hv.keep b6))
    rw [List.length_append, List.length_singleton] at hc' ⊢
    have hT : ∀ w', Below w.heap.size w w' → Above w5.heap.size w6 w' → Way w0 (t.path ++ [v]) A' (t.path.length + 1) cap' w' ∧ Below w.heap.size w w' := fun w' h h' => by
      refine ⟨⟨_, ?_, hrw.out⟩, h⟩
      have := World.ownsRow.mono (own_above hown h') (Nat.zero_le _)
      simpa using this
    have q2 := fun j => cell_of h2 j
    have q3 := fun j => cell_of h3 j
    have f2 := fun j => frozen_of h2 j
    have f3 := fun j => frozen_of h3 j
    have l2 := (Array.getElem?_eq_some_iff.1 h2).1
    have l3 := (Array.getElem?_eq_some_iff.1 h3).1
    have z4 : w.heap.size ≤ w.heap.size + 1 + 1 := by omega
    have z5 : w.heap.size ≤ w.heap.size + 1 + 1 + 1 := by omega
    have z6 : w.heap.size + 1 + 1 < w5.heap.size := by omega
    have z7 : w.heap.size + 1 + 1 + 1 < w5.heap.size := by omega
    clear hgrow h2 h3 e2 e3 hz5 hcs
    have hown := Lib.hid hown
    have hrow := Lib.hid hrow
    go_wp2
    refine bodyPost_ret (v := travV k' b' n' f' s' B' len' c' A' (t.path.length + 1) cap' T tl tc q) (by simp only [results, Try.results19]; go_simp) rfl ⟨A', t.path.length + 1, cap', rfl, hT _ ?_ ?_⟩
    · repeat (with_reducible refine back_set ?_ _ z4 _)
      (with_reducible refine back_set ?_ _ z5 _)
      exact b6
    · repeat (with_reducible refine above_set ?_ _ z6 _)
      (with_reducible refine above_set ?_ _ z7 _)
      exact Above.refl _ _
end Go.Proofs.Ytfccplkfdhpdgaa
