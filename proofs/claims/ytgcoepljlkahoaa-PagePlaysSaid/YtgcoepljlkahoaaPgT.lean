
/-
  Pages: the reference's With and Without: printed by mkwith.py.
-/
import Derived.Test.YtgcoepljlkahoaaPgL
set_option linter.unusedSimpArgs false
set_option linter.unusedVariables false
namespace Go.Proofs.Ytgcoepljlkahoaa
open Go.RowKit

theorem flat_more (l : List Rec) (b : Rec) : flat (l ++ [b]) = flat l ++ [.int .u64 (b.1 : Int), .string (st b.2)] := by rw [flat_append]; rfl
theorem cells_new (w : World) (id : Int) (s : List UInt8) (T : TypeId) : ∀ (j : Nat) (u : Value), [Value.int .u64 id, .string (st s)][j]? = some u → (w.alloc (.cells #[.int .u64 id, .string (st s)] T)).cell? ((⟨w.heap.size, 0, none⟩ : Addr).add j) = some u := fun j u hj => by
  rw [insAdd, Nat.zero_add, cell_of (alloc_here w _) j]
  simpa using hj
theorem body_one (id : Int) (s : List UInt8) : ∀ u ∈ [Value.int .u64 id, .string (st s)], u.oneCell' = true := fun u hu => by
  simp only [List.mem_cons, List.not_mem_nil, or_false] at hu
  rcases hu with rfl | rfl <;> rfl
/-- behind the place of a record -/
def behind (l : List Rec) (id p : Nat) : Nat := if isAt l id p then p + 1 else p
theorem putR_eq {l : List Rec} {b : Rec} {p : Nat} : putR l b p = l.take p ++ b :: l.drop (behind l b.1 p) := by
  unfold putR behind
  split
  · rename_i h
    obtain ⟨x, hx, _⟩ := isAt_some h
    have hp := (List.getElem?_eq_some_iff.1 hx).1
    rw [List.set_eq_take_append_cons_drop, if_pos hp]
  · rfl
/-- what With has laid when the first i have gone by -/
def withS (l : List Rec) (b : Rec) (p i : Nat) : List Rec := if i ≤ p then l.take i else l.take p ++ b :: (l.drop (behind l b.1 p)).take (i - behind l b.1 p)
theorem withS_none (l : List Rec) (b : Rec) (p : Nat) : withS l b p 0 = [] := by simp [withS]
theorem take_more {l : List Rec} {i : Nat} {x : Rec} (h : l[i]? = some x) : l.take (i + 1) = l.take i ++ [x] := by
  obtain ⟨hi, rfl⟩ := List.getElem?_eq_some_iff.1 h
  exact List.take_succ_eq_append_getElem hi
theorem withS_lo {l : List Rec} {b : Rec} {p i : Nat} {x : Rec} (h : l[i]? = some x) (hi : i < p) : withS l b p (i + 1) = withS l b p i ++ [x] := by
  unfold withS
  rw [if_pos (by omega), if_pos (by omega)]
  exact take_more h
theorem withS_is {l : List Rec} {b : Rec} {p : Nat} (h : isAt l b.1 p = true) : withS l b p (p + 1) = withS l b p p ++ [b] := by
  unfold withS behind
  rw [if_neg (by omega), if_pos (Nat.le_refl _), if_pos h, Nat.sub_self, List.take_zero]
theorem withS_at {l : List Rec} {b : Rec} {p : Nat} {x : Rec} (hx : l[p]? = some x) (h : isAt l b.1 p = false) : withS l b p (p + 1) = (withS l b p p ++ [b]) ++ [x] := by
  obtain ⟨hp, rfl⟩ := List.getElem?_eq_some_iff.1 hx
  unfold withS behind
  rw [if_neg (by omega), if_pos (Nat.le_refl _), if_neg (by rw [h]; simp), show p + 1 - p = 1 by omega]
  have e : (l.drop p).take 1 = [l[p]] := by
    rw [List.drop_eq_getElem_cons hp]
    rfl
  rw [e]
  simp
theorem withS_hi {l : List Rec} {b : Rec} {p i : Nat} {x : Rec} (h : l[i]? = some x) (hi : p < i) : withS l b p (i + 1) = withS l b p i ++ [x] := by
  have hb : behind l b.1 p ≤ i := by unfold behind; split <;> omega
  unfold withS
  rw [if_neg (by omega), if_neg (by omega), List.append_assoc, List.cons_append]
  rw [show i + 1 - behind l b.1 p = (i - behind l b.1 p) + 1 by omega, take_more (x := x) (by rw [List.getElem?_drop, show behind l b.1 p + (i - behind l b.1 p) = i by omega]; exact h)]
theorem withS_all {l : List Rec} {b : Rec} {p : Nat} (hp : p < l.length) : withS l b p l.length = putR l b p := by
  unfold withS
  have e : (l.drop (behind l b.1 p)).take (l.length - behind l b.1 p) = l.drop (behind l b.1 p) := List.take_of_length_le (by rw [List.length_drop]; omega)
  rw [if_neg (by omega), putR_eq, e]
theorem putR_len (l : List Rec) (b : Rec) (p : Nat) : (putR l b p).length ≤ l.length + 1 := by
  unfold putR
  split
  · rw [List.length_set]; omega
  · rw [List.length_append, List.length_cons, List.length_take, List.length_drop]; omega
theorem withS_end {l : List Rec} {b : Rec} : withS l b l.length l.length ++ [b] = putR l b l.length := by
  have h : isAt l b.1 l.length = false := by unfold isAt; rw [List.getElem?_eq_none (Nat.le_refl _)]
  unfold withS putR
  rw [if_pos (Nat.le_refl _), if_neg (by rw [h]; simp), List.take_length, List.drop_length]
theorem withS_len (l : List Rec) (b : Rec) (p i : Nat) : (withS l b p i).length ≤ i + 1 := by
  unfold withS
  split
  · rw [List.length_take]; omega
  · have : (if isAt l b.1 p then p + 1 else p) ≤ p + 1 := by split <;> omega
    rw [List.length_append, List.length_cons, List.length_take, List.length_take]
    unfold behind
    split <;> omega
theorem place_is {l : List Rec} {id p : Nat} {x : Rec} (hx : l[p]? = some x) : isAt l id p = (x.1 == id) := by unfold isAt; rw [hx]
theorem place_over {l : List Rec} {id p i : Nat} {x : Rec} (hr : Rises l) (hP : Place l id p) (hx : l[i]? = some x) (h : p < i) : id < x.1 := by
  have hp : p < l.length := by have := (List.getElem?_eq_some_iff.1 hx).1; omega
  have h1 := hP.hi p l[p] (Nat.le_refl _) (by simp)
  have h2 := hr p i l[p] x h (by simp) hx
  omega
def WithEnds (l : List Rec) (b : Rec) (p : Nat) (v0 : Value) (w : World) (e : Ending) (w' : World) : Prop :=
  Below w.heap.size w w' ∧ ((usedN (putR l b p) ≤ 512 ∧ ∃ A cap, e = .returned (.tuple #[.slice A (putR l b p).length cap, .bool true]) ∧ BodiesAt w' A (putR l b p) ∧ ∀ ad, A = some ad → w.heap.size ≤ ad.block) ∨ (¬ usedN (putR l b p) ≤ 512 ∧ e = .returned (.tuple #[v0, .bool false])))
set_option maxRecDepth 8000 in
set_option maxHeartbeats 8000000 in
theorem with_c (A : Option Addr) (cap : Nat) (l : List Rec) (b : Rec) (p : Nat) (w : World) (hp : BodiesAt w A l) (hr : Rises l) (hP : Place l b.1 p) (hll : l.length ≤ 500) (hsl : sumL (putR l b p) ≤ 1000000) :
    Calls Try.prog 18 #[.slice A l.length cap, .int .u64 (b.1 : Int), .string (st b.2)] w (WithEnds l b p (.slice A l.length cap) w) := by
  obtain ⟨i0, hi0, hz0, hz1, hz2⟩ := bodyK_info
  obtain ⟨GOAL, hG⟩ : ∃ G, G = WithEnds l b p (.slice A l.length cap) w := ⟨_, rfl⟩
  rw [← hG]
  have hGo := Lib.hid hG
  clear hG
  have hPh := Lib.hid hP
  have hrh := Lib.hid hr
  have hple := hP.le
  have hslh := Lib.hid hsl
  clear hP hr hsl
  go_enter Try.func18, Try.ntmps18
  go_upto_region 2 with fail
  obtain ⟨w3, hw3⟩ : ∃ w3, w3 = w.alloc (.cells #[] 53) := ⟨_, rfl⟩
  have own3 : Hid (w3.ownsRow w.heap.size 53 2 (.slice (some ⟨w.heap.size, 0, none⟩) 0 0) (withS l b p 0).length (flat (withS l b p 0))) := Lib.hid (by
    rw [withS_none]
    exact hw3 ▸ ⟨rfl, .inr ⟨w.heap.size, 0, #[], rfl, Nat.le_refl _, alloc_here _ _, Nat.le_refl _, by unfold maxLen; omega, by simp, by simp [flat]⟩⟩)
  have bel3 : Below w.heap.size w w3 := hw3 ▸ below_alloc w _
  rw [← hw3]
  clear hw3
  go_wp2_with fail
  go_loopw [8, 9, 10] (fun a8 a9 a10 wr => ∃ (i : Nat) (inn : Bool), a10 = .int .i64 i ∧ a9 = .bool inn ∧ Hid (inn = decide (p < i)) ∧ i ≤ l.length ∧ Hid (wr.ownsRow w.heap.size 53 2 a8 (withS l b p i).length (flat (withS l b p i))) ∧ Below w.heap.size w wr) (fun _ _ a _ => l.length - (intOf a).toNat)
  case atStart => exact ⟨0, false, rfl, rfl, Lib.hid (by simp), Nat.zero_le _, own3, bel3⟩
  case round =>
    clear own3 bel3
    obtain ⟨i, inn, rfl, rfl, hinn, hi, hown, hbr⟩ := hrel
    have w3i : IntKind.i64.wrap ((i : Int) + 1) = (i : Int) + 1 := by rw [IntKind.wrap_i64]; omega
    have hwl := withS_len l b p i
    have hbrs := hbr.size
    by_cases hil : i < l.length
    · have hil' : (i : Int) < l.length := by omega
      have hget : l[i]? = some l[i] := by simp
      obtain ⟨ad, hA, hB⟩ := hp i l[i] hget
      subst hA
      obtain ⟨x, hx⟩ : ∃ x, x = l[i] := ⟨_, rfl⟩
      rw [← hx] at hget hB
      clear hx
      have hBk := hB.keep hbr
      have hB0 := Lib.hid hB
      obtain ⟨q6, q0, q1⟩ := hBk
      rcases Nat.lt_trichotomy i p with hip | hip | hip
      · have hxl := hPh.out.lo i x hip hget
        have hI : inn = false := by rw [hinn.out]; simp; omega
        subst hI
        have c1 : ¬ (b.1 : Int) ≤ x.1 := by omega
        have c2 : ¬ x.1 = b.1 := by omega
        have c3 : ¬ (x.1 : Int) = b.1 := by omega
        have hst := Lib.hid (withS_lo (b := b) hget hip)
        have hin2 : Hid (false = decide (p < i + 1)) := Lib.hid (by simp; omega)
        clear hp hB hget hxl
        go_wp2_with (at_builtin; refine wpList_append_own _ rfl _ _ 34 rfl w.heap.size 53 i0 (.agg #[.int .u64 0, .string ByteArray.empty]) 2 24 Try.underlying34 hi0 hz0 hz1 hz2 rfl (by decide) _ _ _ rfl (hown.out.alloc _) ⟨wr.heap.size, 0, none⟩ 1 1 [.int .u64 (x.1 : Int), .string (st x.2)] rfl rfl (fun j u hj => cells_new wr _ _ _ j u hj) (body_one _ _) (by unfold maxLen; omega) (by omega) (by have := hbr.size; simp; omega) ?_)
        intro v7 w7 own7 hgrow _
        have hb7 : Below w.heap.size w w7 := (hbr.alloc hbr.size _).grown hgrow (by have := hbr.size; simp; omega) fun k hk => (hown.out.lt k hk).1
        have own7 := Lib.hid own7
        clear hgrow
        go_wp2_with fail
        exact ⟨⟨i + 1, false, by simp, rfl, hin2, hil, Lib.hid (by rw [hst.out, flat_more, List.length_append]; exact own7.out), hb7⟩, by simp [intOf]; omega⟩
      · subst hip
        have hxl := hPh.out.hi i x (Nat.le_refl _) hget
        have hI : inn = false := by rw [hinn.out]; simp
        subst hI
        have hin2 : Hid (true = decide (i < i + 1)) := Lib.hid (by simp)
        have c1 : (b.1 : Int) ≤ x.1 := by omega
        have hia := place_is (id := b.1) hget
        by_cases hxb : x.1 = b.1
        · have c3 : (x.1 : Int) = b.1 := by omega
          have hst := Lib.hid (withS_is (l := l) (b := b) (p := i) (by rw [hia]; simp [hxb]))
          clear hp hB hget hxl hia
          go_wp2_with (at_builtin; refine wpList_append_own _ rfl _ _ 34 rfl w.heap.size 53 i0 (.agg #[.int .u64 0, .string ByteArray.empty]) 2 24 Try.underlying34 hi0 hz0 hz1 hz2 rfl (by decide) _ _ _ rfl (hown.out.alloc _) ⟨wr.heap.size, 0, none⟩ 1 1 [.int .u64 (b.1 : Int), .string (st b.2)] rfl rfl (fun j u hj => cells_new wr _ _ _ j u hj) (body_one _ _) (by unfold maxLen; omega) (by omega) (by have := hbr.size; simp; omega) ?_)
          intro v7 w7 own7 hgrow _
          have hb7 : Below w.heap.size w w7 := (hbr.alloc hbr.size _).grown hgrow (by have := hbr.size; simp; omega) fun k hk => (hown.out.lt k hk).1
          have own7 := Lib.hid own7
          clear hgrow
          have s0 : w7.cell? (ad.add (i * 2)) = some (.int .u64 (x.1 : Int)) := (hB0.out.keep hb7).c0
          have s6 := (hB0.out.keep hb7).lt
          clear q6 q0 q1
          go_wp2_with fail
          exact ⟨⟨i + 1, true, by simp, rfl, hin2, hil, Lib.hid (by rw [hst.out, flat_more, List.length_append]; exact own7.out), hb7⟩, by simp [intOf]; omega⟩
        · have c3 : ¬ (x.1 : Int) = b.1 := by omega
          have hst := Lib.hid (withS_at (l := l) (b := b) (p := i) hget (by rw [hia]; simp [hxb]))
          clear hp hB hget hxl hia
          go_wp2_with (at_builtin; refine wpList_append_own _ rfl _ _ 34 rfl w.heap.size 53 i0 (.agg #[.int .u64 0, .string ByteArray.empty]) 2 24 Try.underlying34 hi0 hz0 hz1 hz2 rfl (by decide) _ _ _ rfl (hown.out.alloc _) ⟨wr.heap.size, 0, none⟩ 1 1 [.int .u64 (b.1 : Int), .string (st b.2)] rfl rfl (fun j u hj => cells_new wr _ _ _ j u hj) (body_one _ _) (by unfold maxLen; omega) (by omega) (by have := hbr.size; simp; omega) ?_)
          intro v7 w7 own7 hgrow _
          have hb7 : Below w.heap.size w w7 := (hbr.alloc hbr.size _).grown hgrow (by have := hbr.size; simp; omega) fun k hk => (hown.out.lt k hk).1
          have own7 := Lib.hid own7
          clear hgrow
          obtain ⟨s6, s0, s1⟩ := hB0.out.keep hb7
          clear q6 q0 q1
          go_wp2_with (at_builtin; refine wpList_append_own _ rfl _ _ 34 rfl w.heap.size 53 i0 (.agg #[.int .u64 0, .string ByteArray.empty]) 2 24 Try.underlying34 hi0 hz0 hz1 hz2 rfl (by decide) _ _ _ rfl (own7.out.alloc _) ⟨w7.heap.size, 0, none⟩ 1 1 [.int .u64 (x.1 : Int), .string (st x.2)] rfl rfl (fun j u hj => cells_new w7 _ _ _ j u hj) (body_one _ _) (by unfold maxLen; omega) (by omega) (by have := hb7.size; simp; omega) ?_)
          intro v8 w8 own8 hgrow _
          have hb8 : Below w.heap.size w w8 := (hb7.alloc hb7.size _).grown hgrow (by have := hb7.size; simp; omega) fun k hk => (own7.out.lt k hk).1
          have own8 := Lib.hid own8
          clear hgrow
          go_wp2_with fail
          exact ⟨⟨i + 1, true, by simp, rfl, hin2, hil, Lib.hid (by rw [hst.out, flat_more, flat_more]; simpa [List.append_assoc] using own8.out), hb8⟩, by simp [intOf]; omega⟩
      · have hxl := place_over hrh.out hPh.out hget hip
        have hI : inn = true := by rw [hinn.out]; simp; omega
        subst hI
        have c3 : ¬ (x.1 : Int) = b.1 := by omega
        have hst := Lib.hid (withS_hi (b := b) hget hip)
        have hin2 : Hid (true = decide (p < i + 1)) := Lib.hid (by simp; omega)
        clear hp hB hget hxl
        go_wp2_with (at_builtin; refine wpList_append_own _ rfl _ _ 34 rfl w.heap.size 53 i0 (.agg #[.int .u64 0, .string ByteArray.empty]) 2 24 Try.underlying34 hi0 hz0 hz1 hz2 rfl (by decide) _ _ _ rfl (hown.out.alloc _) ⟨wr.heap.size, 0, none⟩ 1 1 [.int .u64 (x.1 : Int), .string (st x.2)] rfl rfl (fun j u hj => cells_new wr _ _ _ j u hj) (body_one _ _) (by unfold maxLen; omega) (by omega) (by have := hbr.size; simp; omega) ?_)
        intro v7 w7 own7 hgrow _
        have hb7 : Below w.heap.size w w7 := (hbr.alloc hbr.size _).grown hgrow (by have := hbr.size; simp; omega) fun k hk => (hown.out.lt k hk).1
        have own7 := Lib.hid own7
        clear hgrow
        go_wp2_with fail
        exact ⟨⟨i + 1, true, by simp, rfl, hin2, hil, Lib.hid (by rw [hst.out, flat_more, List.length_append]; exact own7.out), hb7⟩, by simp [intOf]; omega⟩
    · have e : i = l.length := by omega
      subst e
      have hil' : ¬ (l.length : Int) < l.length := by omega
      have hpln := putR_len l b p
      have cu := fun A c w' (hB : BodiesAt w' A (putR l b p)) => used_c A c (putR l b p) w' hB (by omega) hslh.out
      by_cases hpl : p < l.length
      · have hI : inn = true := by rw [hinn.out]; simp [hpl]
        subst hI
        have hown2 := hown.out
        rw [withS_all hpl] at hown2
        obtain ⟨A8, c8, hv8, hB8, _⟩ := BodiesAt.ofOwn hown2 rfl
        have hnew : Hid (∀ ad, A8 = some ad → w.heap.size ≤ ad.block) := Lib.hid fun ad had => by
          subst had hv8
          exact (hown2.lt ad.block rfl).1
        subst hv8
        have cu8 := cu A8 c8 _ hB8
        clear hown2 cu hown
        by_cases hus : usedN (putR l b p) ≤ 512
        · have hus' : ¬ (512 : Int) < (usedN (putR l b p) : Int) := by omega
          have hush := Lib.hid hus
          clear hus
          go_wp2_with ((with_reducible refine cu8.mono ?_); rintro e w9 ⟨rfl, hb9⟩)
          rw [hGo.out]
          exact ⟨hbr.trans (hb9.mono hbr.size), .inl ⟨hush.out, A8, c8, rfl, hB8.keep hb9, hnew.out⟩⟩
        · have hus' : (512 : Int) < (usedN (putR l b p) : Int) := by omega
          have hush := Lib.hid hus
          clear hus
          go_wp2_with ((with_reducible refine cu8.mono ?_); rintro e w9 ⟨rfl, hb9⟩)
          rw [hGo.out]
          exact ⟨hbr.trans (hb9.mono hbr.size), .inr ⟨hush.out, rfl⟩⟩
      · have hpe : p = l.length := by omega
        subst hpe
        have hI : inn = false := by rw [hinn.out]; simp
        subst hI
        go_wp2_with (at_builtin; refine wpList_append_own _ rfl _ _ 34 rfl w.heap.size 53 i0 (.agg #[.int .u64 0, .string ByteArray.empty]) 2 24 Try.underlying34 hi0 hz0 hz1 hz2 rfl (by decide) _ _ _ rfl (hown.out.alloc _) ⟨wr.heap.size, 0, none⟩ 1 1 [.int .u64 (b.1 : Int), .string (st b.2)] rfl rfl (fun j u hj => cells_new wr _ _ _ j u hj) (body_one _ _) (by unfold maxLen; omega) (by omega) (by have := hbr.size; simp; omega) ?_)
        intro v7 w7 own7 hgrow _
        have hb7 : Below w.heap.size w w7 := (hbr.alloc hbr.size _).grown hgrow (by have := hbr.size; simp; omega) fun k hk => (hown.out.lt k hk).1
        have own7 := Lib.hid own7
        clear hgrow
        have hown2 := own7.out
        rw [← flat_more, withS_end, show (withS l b l.length l.length).length + 1 = (putR l b l.length).length by rw [← withS_end, List.length_append]; rfl] at hown2
        obtain ⟨A8, c8, hv8, hB8, _⟩ := BodiesAt.ofOwn hown2 rfl
        have hnew : Hid (∀ ad, A8 = some ad → w.heap.size ≤ ad.block) := Lib.hid fun ad had => by
          subst had hv8
          exact (hown2.lt ad.block rfl).1
        subst hv8
        have cu8 := cu A8 c8 _ hB8
        have hbr := hb7
        clear hown2 cu hown own7 hb7
        by_cases hus : usedN (putR l b l.length) ≤ 512
        · have hus' : ¬ (512 : Int) < (usedN (putR l b l.length) : Int) := by omega
          have hush := Lib.hid hus
          clear hus
          go_wp2_with ((with_reducible refine cu8.mono ?_); rintro e w9 ⟨rfl, hb9⟩)
          rw [hGo.out]
          exact ⟨hbr.trans (hb9.mono hbr.size), .inl ⟨hush.out, A8, c8, rfl, hB8.keep hb9, hnew.out⟩⟩
        · have hus' : (512 : Int) < (usedN (putR l b l.length) : Int) := by omega
          have hush := Lib.hid hus
          clear hus
          go_wp2_with ((with_reducible refine cu8.mono ?_); rintro e w9 ⟨rfl, hb9⟩)
          rw [hGo.out]
          exact ⟨hbr.trans (hb9.mono hbr.size), .inr ⟨hush.out, rfl⟩⟩
/-- the records without one -/
def dropR (l : List Rec) (id p : Nat) : List Rec := l.take p ++ l.drop (behind l id p)
theorem filter_place {l : List Rec} {id p : Nat} (hr : Rises l) (hP : Place l id p) : l.filter (fun x => !(x.1 == id)) = dropR l id p := by
  have h1 : (l.take p).filter (fun x => !(x.1 == id)) = l.take p := by
    rw [List.filter_eq_self]
    intro x hx
    obtain ⟨j, hj, rfl⟩ := List.mem_iff_getElem.1 hx
    rw [List.length_take] at hj
    have := hP.lo j l[j] (by omega) (by simp)
    simp
    omega
  have h2 : (l.drop (behind l id p)).filter (fun x => !(x.1 == id)) = l.drop (behind l id p) := by
    rw [List.filter_eq_self]
    intro x hx
    obtain ⟨j, hj, rfl⟩ := List.mem_iff_getElem.1 hx
    rw [List.length_drop] at hj
    have hg : l[behind l id p + j]? = some ((l.drop (behind l id p))[j]) := by simp
    generalize (l.drop (behind l id p))[j] = y at *
    by_cases hA : isAt l id p = true
    · unfold behind at hg
      rw [if_pos hA] at hg
      have := place_over hr hP hg (by omega)
      simp
      omega
    · have hA' : isAt l id p = false := by simpa using hA
      unfold behind at hg
      rw [if_neg hA] at hg
      by_cases e : j = 0
      · subst e
        have := isAt_not hA' y (by simpa using hg)
        simpa using this
      · have := place_over hr hP hg (by omega)
        simp
        omega
  have h3 : l.filter (fun x => !(x.1 == id)) = (l.take p ++ l.drop p).filter (fun x => !(x.1 == id)) := by rw [List.take_append_drop]
  rw [h3, List.filter_append, h1]
  unfold dropR
  by_cases hA : isAt l id p = true
  · obtain ⟨x, hx, hxid⟩ := isAt_some hA
    obtain ⟨hp, hxe⟩ := List.getElem?_eq_some_iff.1 hx
    have hb : behind l id p = p + 1 := by unfold behind; rw [if_pos hA]
    rw [hb] at h2 ⊢
    rw [List.drop_eq_getElem_cons hp, List.filter_cons, hxe, hxid]
    simp only [beq_self_eq_true, Bool.not_true, Bool.false_eq_true, if_false]
    rw [h2]
  · have hb : behind l id p = p := by unfold behind; rw [if_neg hA]
    rw [hb] at h2 ⊢
    rw [h2]
theorem dropR_len {l : List Rec} {id p : Nat} (hP : Place l id p) : (dropR l id p).length = (if isAt l id p = true then l.length - 1 else l.length) := by
  unfold dropR behind
  have hp := hP.le
  rw [List.length_append, List.length_take, List.length_drop]
  split
  · rename_i h
    obtain ⟨x, hx, _⟩ := isAt_some h
    have := (List.getElem?_eq_some_iff.1 hx).1
    omega
  · omega
def sieve (l : List Rec) (id i : Nat) : List Rec := (l.take i).filter (fun x => !(x.1 == id))
theorem sieve_in {l : List Rec} {id i : Nat} {x : Rec} (h : l[i]? = some x) (hx : ¬ x.1 = id) : sieve l id (i + 1) = sieve l id i ++ [x] := by
  unfold sieve
  rw [take_more h, List.filter_append]
  simp [hx]
theorem sieve_out {l : List Rec} {id i : Nat} {x : Rec} (h : l[i]? = some x) (hx : x.1 = id) : sieve l id (i + 1) = sieve l id i := by
  unfold sieve
  rw [take_more h, List.filter_append]
  simp [hx]
theorem sieve_len (l : List Rec) (id i : Nat) : (sieve l id i).length ≤ i := by
  unfold sieve
  have := List.length_filter_le (fun x : Rec => !(x.1 == id)) (l.take i)
  rw [List.length_take] at this
  omega
def WithoutEnds (l : List Rec) (id p : Nat) (w : World) (e : Ending) (w' : World) : Prop :=
  Below w.heap.size w w' ∧ ∃ A cap, e = .returned (.tuple #[.slice A (dropR l id p).length cap, .bool (isAt l id p)]) ∧ BodiesAt w' A (dropR l id p) ∧ ∀ ad, A = some ad → w.heap.size ≤ ad.block
set_option maxRecDepth 8000 in
set_option maxHeartbeats 8000000 in
theorem without_c (A : Option Addr) (cap : Nat) (l : List Rec) (id p : Nat) (w : World) (hp : BodiesAt w A l) (hr : Rises l) (hP : Place l id p) (hll : l.length ≤ 500) :
    Calls Try.prog 16 #[.slice A l.length cap, .int .u64 (id : Int)] w (WithoutEnds l id p w) := by
  obtain ⟨i0, hi0, hz0, hz1, hz2⟩ := bodyK_info
  obtain ⟨GOAL, hG⟩ : ∃ G, G = WithoutEnds l id p w := ⟨_, rfl⟩
  rw [← hG]
  have hGo := Lib.hid hG
  clear hG
  have hPh := Lib.hid hP
  have hrh := Lib.hid hr
  clear hP hr
  go_enter Try.func16, Try.ntmps16
  go_upto_region 2 with fail
  obtain ⟨w3, hw3⟩ : ∃ w3, w3 = w.alloc (.cells #[] 53) := ⟨_, rfl⟩
  have own3 : Hid (w3.ownsRow w.heap.size 53 2 (.slice (some ⟨w.heap.size, 0, none⟩) 0 0) (sieve l id 0).length (flat (sieve l id 0))) := Lib.hid (hw3 ▸ ⟨rfl, .inr ⟨w.heap.size, 0, #[], rfl, Nat.le_refl _, alloc_here _ _, Nat.le_refl _, by unfold maxLen; omega, by simp, by simp [flat, sieve]⟩⟩)
  have bel3 : Below w.heap.size w w3 := hw3 ▸ below_alloc w _
  rw [← hw3]
  clear hw3
  go_wp2_with fail
  go_loopw [6, 7] (fun a6 a7 wr => ∃ i : Nat, a7 = .int .i64 i ∧ i ≤ l.length ∧ Hid (wr.ownsRow w.heap.size 53 2 a6 (sieve l id i).length (flat (sieve l id i))) ∧ Below w.heap.size w wr) (fun _ a _ => l.length - (intOf a).toNat)
  case atStart => exact ⟨0, rfl, Nat.zero_le _, own3, bel3⟩
  case round =>
    clear own3 bel3
    obtain ⟨i, rfl, hi, hown, hbr⟩ := hrel
    have w3i : IntKind.i64.wrap ((i : Int) + 1) = (i : Int) + 1 := by rw [IntKind.wrap_i64]; omega
    have hwl := sieve_len l id i
    have hbrs := hbr.size
    by_cases hil : i < l.length
    · have hil' : (i : Int) < l.length := by omega
      have hget : l[i]? = some l[i] := by simp
      obtain ⟨ad, hA, hB⟩ := hp i l[i] hget
      subst hA
      obtain ⟨x, hx⟩ : ∃ x, x = l[i] := ⟨_, rfl⟩
      rw [← hx] at hget hB
      clear hx
      obtain ⟨q6, q0, q1⟩ := hB.keep hbr
      by_cases hxid : x.1 = id
      · have c3 : (x.1 : Int) = id := by omega
        have hst := Lib.hid (sieve_out hget hxid)
        clear hp hB hget hxid
        go_wp2_with fail
        exact ⟨⟨i + 1, by simp, hil, Lib.hid (by rw [hst.out]; exact hown.out), hbr⟩, by simp [intOf]; omega⟩
      · have c3 : ¬ (x.1 : Int) = id := by omega
        have hst := Lib.hid (sieve_in hget hxid)
        clear hp hB hget hxid
        go_wp2_with (at_builtin; refine wpList_append_own _ rfl _ _ 34 rfl w.heap.size 53 i0 (.agg #[.int .u64 0, .string ByteArray.empty]) 2 24 Try.underlying34 hi0 hz0 hz1 hz2 rfl (by decide) _ _ _ rfl (hown.out.alloc _) ⟨wr.heap.size, 0, none⟩ 1 1 [.int .u64 (x.1 : Int), .string (st x.2)] rfl rfl (fun j u hj => cells_new wr _ _ _ j u hj) (body_one _ _) (by unfold maxLen; omega) (by omega) (by have := hbr.size; simp; omega) ?_)
        intro v7 w7 own7 hgrow _
        have hb7 : Below w.heap.size w w7 := (hbr.alloc hbr.size _).grown hgrow (by have := hbr.size; simp; omega) fun k hk => (hown.out.lt k hk).1
        have own7 := Lib.hid own7
        clear hgrow
        go_wp2_with fail
        exact ⟨⟨i + 1, by simp, hil, Lib.hid (by rw [hst.out, flat_more, List.length_append]; exact own7.out), hb7⟩, by simp [intOf]; omega⟩
    · have e : i = l.length := by omega
      subst e
      have hil' : ¬ (l.length : Int) < l.length := by omega
      have hown2 := hown.out
      have hsv : sieve l id l.length = dropR l id p := by
        unfold sieve
        rw [List.take_length]
        exact filter_place hrh.out hPh.out
      rw [hsv] at hown2
      obtain ⟨A8, c8, hv8, hB8, _⟩ := BodiesAt.ofOwn hown2 rfl
      have hnew : Hid (∀ ad, A8 = some ad → w.heap.size ≤ ad.block) := Lib.hid fun ad had => by
        subst had hv8
        exact (hown2.lt ad.block rfl).1
      subst hv8
      have hdl := dropR_len hPh.out
      clear hown hown2 hp hsv hwl
      cases hA : isAt l id p
      · rw [hA] at hdl
        have hdl2 : ¬ ((dropR l id p).length : Int) < l.length := by simp at hdl; omega
        have hAh := Lib.hid hA
        clear hdl hA
        go_wp2_with fail
        rw [hGo.out]
        exact ⟨hbr, A8, c8, by rw [hAh.out], hB8, hnew.out⟩
      · rw [hA] at hdl
        obtain ⟨x, hx, _⟩ := isAt_some hA
        have hpl := (List.getElem?_eq_some_iff.1 hx).1
        have hdl2 : ((dropR l id p).length : Int) < l.length := by simp at hdl; omega
        have hAh := Lib.hid hA
        clear hdl hA hx hpl
        go_wp2_with fail
        rw [hGo.out]
        exact ⟨hbr, A8, c8, by rw [hAh.out], hB8, hnew.out⟩
end Go.Proofs.Ytgcoepljlkahoaa
