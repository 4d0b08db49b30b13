
/-
  Pages: a record that is put behind the others.
-/
import Derived.Test.YtgcoepljlkahoaaPgB
import Derived.Test.YtgcoepljlkahoaaRst
set_option linter.unusedSimpArgs false
set_option linter.unusedVariables false
namespace Go.Proofs.Ytgcoepljlkahoaa
open Go.RowKit

theorem info_parts {P : Program} {e : TypeId} {z : Value} {s b : Nat} (h : (P.info? e).map (fun i => (i.zero, i.size, i.bytes)) = some (some z, s, b)) : ∃ i, P.info? e = some i ∧ i.zero = some z ∧ i.size = s ∧ i.bytes = b := by
  obtain ⟨i, hi, h2⟩ := Option.map_eq_some_iff.1 h
  simp only [Prod.mk.injEq] at h2
  exact ⟨i, hi, h2.1, h2.2.1, h2.2.2⟩
theorem body_info : (Try.prog.info? 53).map (fun i => (i.zero, i.size, i.bytes)) = some (some (.agg #[.int .u64 0, .string ByteArray.empty]), 2, 24) := by kernel_rfl
set_option maxRecDepth 8000 in
set_option maxHeartbeats 2000000 in
/-- slices.Insert behind all of an own row -/
theorem insertEnd_c (base : Nat) (v : Value) (n : Nat) (xs : List Value) (r : Nat) (b : Rec) (w : World) (hown : w.ownsRow base 53 2 v n xs) (hb : base ≤ w.heap.size) (hn : n ≤ 100000)
    (h0 : w.cell? ⟨r, 0, none⟩ = some (.int .u64 (b.1 : Int))) (h1 : w.cell? ⟨r, 1, none⟩ = some (.string (st b.2))) :
    Calls Try.prog 23 #[v, .int .i64 (n : Int), .slice (some ⟨r, 0, none⟩) 1 1] w fun e w' => ∃ v', e = .returned v' ∧ w'.ownsRow base 53 2 v' (n + 1) (xs ++ [.int .u64 (b.1 : Int), .string (st b.2)]) ∧ w.grownBy w' v.ownBlock := by
  obtain ⟨A, cap, rfl, hcap⟩ : ∃ A cap, v = .slice A n cap ∧ n ≤ cap := by
    rcases hown.2 with ⟨hv, hn⟩ | ⟨gb, cap, cur, hv, _, _, hnc, _⟩
    · exact ⟨none, 0, by rw [hv, hn], by omega⟩
    · exact ⟨_, cap, hv, hnc⟩
  have hcap' : (n : Int) ≤ cap := by omega
  obtain ⟨i0, hi0, hz0, hz1, hz2⟩ := info_parts body_info
  go_enter Try.func23, Try.ntmps23
  go_wp2_with (at_builtin; refine wpList_append_own _ rfl _ _ 34 rfl base 53 i0 (.agg #[.int .u64 0, .string ByteArray.empty]) 2 24 Try.underlying34 hi0 hz0 hz1 hz2 rfl (by decide) _ _ _ rfl hown ⟨r, 0, none⟩ 1 1 [.int .u64 (b.1 : Int), .string (st b.2)] rfl rfl ?e1 ?e2 ?e3 ?e4 ?e5 ?_)
  case e1 =>
    intro j u hj
    match j, hj with
    | 0, hj => simp at hj; subst hj; simpa [Addr.add] using h0
    | 1, hj => simp at hj; subst hj; simpa [Addr.add] using h1
  case e2 => intro u hu; simp only [List.mem_cons, List.not_mem_nil, or_false] at hu; rcases hu with rfl | rfl <;> rfl
  case e3 => unfold maxLen; omega
  case e4 => omega
  case e5 => exact hb
  all_goals
    intro v' w' hown' hgrow _
    go_wp2_with fail
    go_ret
    first | exact ⟨v', rfl, hown', hgrow⟩ | exact ⟨v', rfl, hown', by rw [‹cap = n›]; exact hgrow⟩
theorem own_slice {w : World} {base : Nat} {e : TypeId} {size : Nat} {v : Value} {n : Nat} {xs : List Value} (h : w.ownsRow base e size v n xs) : ∃ A cap, v = .slice A n cap := by
  rcases h.2 with ⟨hv, hn⟩ | ⟨gb, cap, cur, hv, _⟩
  · exact ⟨none, 0, by rw [hv, hn]⟩
  · exact ⟨_, cap, hv⟩
theorem own_only {w w' : World} {base g : Nat} {e : TypeId} {size : Nat} {v : Value} {n : Nat} {xs : List Value} (h : w.ownsRow base e size v n xs) (hO : Only g w w') (hne : v.ownBlock ≠ some g) : w'.ownsRow base e size v n xs := by
  refine ⟨h.1, ?_⟩
  rcases h.2 with h | ⟨gb, cap, cur, hv, hbg, hc, hr⟩
  · exact .inl h
  · refine .inr ⟨gb, cap, cur, hv, hbg, (hO.block gb fun e => hne ?_).trans hc, hr⟩
    rw [hv, e]
    rfl
theorem set2_at0 {w : World} {b : Nat} {x y u : Value} {T : TypeId} (h : w.heap[b]? = some (.cells #[x, y] T)) : (w.setCell ⟨b, 0, none⟩ u).heap[b]? = some (.cells #[u, y] T) := by
  obtain ⟨hb, h⟩ := Array.getElem?_eq_some_iff.1 h
  simp [World.setCell, hb, h, Array.modify, Array.modifyM]
theorem set2_at1 {w : World} {b : Nat} {x y u : Value} {T : TypeId} (h : w.heap[b]? = some (.cells #[x, y] T)) : (w.setCell ⟨b, 1, none⟩ u).heap[b]? = some (.cells #[x, u] T) := by
  obtain ⟨hb, h⟩ := Array.getElem?_eq_some_iff.1 h
  simp [World.setCell, hb, h, Array.modify, Array.modifyM]
theorem Place.end {l : List Rec} {id i : Nat} (h : Place l id i) (hall : ∀ b ∈ l, b.1 < id) : i = l.length ∧ isAt l id i = false := by
  have e : i = l.length := by
    by_cases hi : i < l.length
    · have h1 := h.hi i l[i] (Nat.le_refl _) (by simp)
      have h2 := hall l[i] (by simp)
      omega
    · have := h.le
      omega
  refine ⟨e, ?_⟩
  unfold isAt
  rw [e, List.getElem?_eq_none (Nat.le_refl _)]
def PutEnds (base g : Nat) (v : Value) (l : List Rec) (used : Nat) (b : Rec) (w : World) (e : Ending) (w' : World) : Prop :=
  Below base w w' ∧ ((used + 12 + b.2.length ≤ 512 ∧ e = .returned (.bool true) ∧ ∃ v', PageAt w' base g v' (l ++ [b]) ((used + 12 + b.2.length : Nat) : Int)) ∨ (¬ used + 12 + b.2.length ≤ 512 ∧ e = .returned (.bool false) ∧ PageAt w' base g v l (used : Int)))
set_option maxRecDepth 8000 in
set_option maxHeartbeats 2000000 in
theorem putEnd_c (base g : Nat) (v : Value) (l : List Rec) (used : Nat) (b : Rec) (w : World) (hp : PageAt w base g v l (used : Int)) (hb : base ≤ w.heap.size) (hr : Rises l) (hall : ∀ x ∈ l, x.1 < b.1) (hl : l.length ≤ 1000) (hu : used ≤ 512) (hs : b.2.length ≤ 140737488351232) :
    Calls Try.prog 8 #[.pointer (some ⟨g, 0, none⟩), .int .u64 (b.1 : Int), .string (st b.2)] w (PutEnds base g v l used b w) := by
  obtain ⟨id, s⟩ := b
  dsimp only at *
  have cs := place_c base g v l used id w hp hr (by omega)
  unfold SearchEnds at cs
  unfold PutEnds
  dsimp only
  go_enter Try.func8, Try.ntmps8
  go_upto_region 4 with ((with_reducible refine cs.mono ?_); rintro e w2 ⟨i, rfl, hP, hb2⟩)
  obtain ⟨rfl, hA⟩ := hP.end hall
  rw [hA]
  have hp2 := hp.keep hb2
  have hbb : Below base w w2 := hb2.mono hb
  have hbs : base ≤ w2.heap.size := Nat.le_trans hb hb2.size
  have cf := free_c base g v l used w2 hp2 (by omega) (by omega)
  clear cs hp hP hA hall hr
  obtain ⟨A, cap, rfl, hcap, _, hne⟩ := hp2.parts
  have c0 : w2.cell? ⟨g, 0, none⟩ = some (.slice A l.length cap) := cell_of hp2.blk 0
  have c1 : w2.cell? ⟨g, 1, none⟩ = some (.int .i64 used) := cell_of hp2.blk 1
  have q0 := frozen_of hp2.blk 0
  have q1 := frozen_of hp2.blk 1
  have hlt := (Array.getElem?_eq_some_iff.1 hp2.blk).1
  have w1 : IntKind.i64.wrap (12 + (s.length : Int)) = 12 + s.length := by rw [IntKind.wrap_i64]; omega
  by_cases hfit : used + 12 + s.length ≤ 512
  rotate_left
  · have hf' : 512 - (used : Int) < 12 + s.length := by omega
    go_wp2_with ((with_reducible refine cf.mono ?_); rintro e w3 ⟨rfl, hb3⟩)
    go_ret
    exact ⟨hbb.trans (hb3.mono hbs), .inr ⟨hfit, rfl, hp2.keep hb3⟩⟩
  · have hf' : ¬ 512 - (used : Int) < 12 + s.length := by omega
    have w5 : IntKind.i64.wrap ((used : Int) + (12 + s.length)) = used + (12 + s.length) := by rw [IntKind.wrap_i64]; omega
    go_upto_region 9 with ((with_reducible refine cf.mono ?_); rintro e w3 ⟨rfl, hb3⟩)
    have hp3 := hp2.keep hb3
    have hb3b : Below base w w3 := hbb.trans (hb3.mono hbs)
    have hbs3 : base ≤ w3.heap.size := Nat.le_trans hbs hb3.size
    clear c0 c1 q0 q1 hlt hp2 hbb hbs hb3 hb2 cf
    have c0 : w3.cell? ⟨g, 0, none⟩ = some (.slice A l.length cap) := cell_of hp3.blk 0
    have c1 : w3.cell? ⟨g, 1, none⟩ = some (.int .i64 used) := cell_of hp3.blk 1
    have q0 := frozen_of hp3.blk 0
    have q1 := frozen_of hp3.blk 1
    have hlt := (Array.getElem?_eq_some_iff.1 hp3.blk).1
    go_upto_region 12 with fail
    obtain ⟨w4, hw4⟩ : ∃ w4, w4 = w3.setCell ⟨g, 1, none⟩ (.int .i64 ((used : Int) + (12 + s.length))) := ⟨_, rfl⟩
    have hO : Only g w3 w4 := hw4 ▸ (Only.refl g w3).set 1 _
    have hg4 : w4.heap[g]? = some (.cells #[.slice A l.length cap, .int .i64 ((used : Int) + (12 + s.length))] 56) := hw4 ▸ set2_at1 hp3.blk
    have own4 := own_only hp3.row hO hne
    have hb4 : Below base w w4 := hb3b.trans (hO.below hp3.lo)
    have hbs4 : base ≤ w4.heap.size := by rw [hO.size]; exact hbs3
    have hlo := hp3.lo
    rw [← hw4]
    clear hw4 hO hp3 hb3b hbs3 c0 c1 q0 q1 hlt w3
    have c0 : w4.cell? ⟨g, 0, none⟩ = some (.slice A l.length cap) := cell_of hg4 0
    have hlt := (Array.getElem?_eq_some_iff.1 hg4).1
    obtain ⟨w5, hw5⟩ : ∃ w5, w5 = w4.alloc (.cells #[.int .u64 (id : Int), .string (st s)] 53) := ⟨_, rfl⟩
    have own5 : w5.ownsRow base 53 2 (.slice A l.length cap) l.length (flat l) := hw5 ▸ own4.alloc _
    have b45 : Below w4.heap.size w4 w5 := hw5 ▸ below_alloc _ _
    have hg5 := (b45.block g hlt).trans hg4
    have hb5 := hb4.trans (b45.mono hbs4)
    have hbs5 : base ≤ w5.heap.size := Nat.le_trans hbs4 b45.size
    have y0 : w5.cell? ⟨w4.heap.size, 0, none⟩ = some (.int .u64 (id : Int)) := by rw [hw5]; simp [go_sem]
    have y1 : w5.cell? ⟨w4.heap.size, 1, none⟩ = some (.string (st s)) := by rw [hw5]; simp [go_sem]
    have ci := insertEnd_c base _ l.length (flat l) w4.heap.size (id, s) w5 own5 hbs5 (by omega) y0 y1
    rw [hw5] at ci
    have hw5 := Lib.hid hw5
    clear own4 hg4 b45 hb4 y0 y1
    go_wp2_with ((with_reducible refine ci.mono ?_); rintro e w6 ⟨v', rfl, hown', hgrow⟩; obtain ⟨A6, cap6, hv6⟩ := own_slice hown'; subst hv6; rw [← hw5.out] at hgrow; have hg6 := (hgrow.block g (Array.getElem?_eq_some_iff.1 hg5).1 (fun e => hne e.symm)).trans hg5; have c0' : w6.cell? ⟨g, 0, none⟩ = some (.slice A l.length cap) := cell_of hg6 0; have q0' := frozen_of hg6 0; have hlt' := (Array.getElem?_eq_some_iff.1 hg6).1)
    go_ret
    have hne5 : ∀ k, (Value.slice A l.length cap).ownBlock = some k → base ≤ k := fun k hk => (own5.lt k hk).1
    have hb6 : Below base w w6 := hb5.grown hgrow hbs5 hne5
    have hO : Only g w6 (w6.setCell ⟨g, 0, none⟩ (.slice A6 (l.length + 1) cap6)) := (Only.refl g w6).set 0 _
    have hne6 : (Value.slice A6 (l.length + 1) cap6).ownBlock ≠ some g := fun e => by
      rcases hown'.2 with ⟨_, hn⟩ | ⟨gb, cap', cur, hv, _, hc, _⟩
      · omega
      · rw [hv] at e
        simp [Value.ownBlock] at e
        subst e
        rw [hg6] at hc
        simp at hc
    refine ⟨hb6.trans (hO.below hlo), .inl ⟨hfit, rfl, .slice A6 (l.length + 1) cap6, hlo, ?_, ?_⟩⟩
    · rw [set2_at0 hg6]
      simp
      omega
    · have := own_only hown' hO hne6
      rw [flat_append, List.length_append]
      exact this
end Go.Proofs.Ytgcoepljlkahoaa
