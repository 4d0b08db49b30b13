
/-
  Pages: Put in general: a record laid among others, or over an old one.
-/
import Derived.Test.YtgcoepljlkahoaaPgK
import Derived.Test.YtgcoepljlkahoaaInsBody
set_option linter.unusedSimpArgs false
set_option linter.unusedVariables false
namespace Go.Proofs.Ytgcoepljlkahoaa
open Go.RowKit

/-- the records with one more, or another -/
def putR (l : List Rec) (b : Rec) (i : Nat) : List Rec := if isAt l b.1 i then l.set i b else l.take i ++ b :: l.drop i
theorem isAt_some {l : List Rec} {id i : Nat} (h : isAt l id i = true) : ∃ b, l[i]? = some b ∧ b.1 = id := by
  unfold isAt at h
  cases h2 : l[i]? with
  | none => rw [h2] at h; cases h
  | some b => rw [h2] at h; exact ⟨b, rfl, by simpa using h⟩
theorem isAt_not {l : List Rec} {id i : Nat} (h : isAt l id i = false) : ∀ b, l[i]? = some b → b.1 ≠ id := by
  intro b hb
  unfold isAt at h
  rw [hb] at h
  simpa using h
theorem sumL_append (a b : List Rec) : sumL (a ++ b) = sumL a + sumL b := by simp [sumL]
theorem sumL_cons (x : Rec) (b : List Rec) : sumL (x :: b) = x.2.length + sumL b := by simp [sumL]
theorem sumL_split (l : List Rec) (i : Nat) : sumL (l.take i) + sumL (l.drop i) = sumL l := by rw [← sumL_append, List.take_append_drop]
theorem used_old {l : List Rec} {b : Rec} {i : Nat} {x : Rec} (hx : l[i]? = some x) : usedN (l.set i b) + x.2.length = usedN l + b.2.length ∧ x.2.length ≤ sumL l := by
  obtain ⟨hi, rfl⟩ := List.getElem?_eq_some_iff.1 hx
  have h1 := sumL_split l i
  rw [List.drop_eq_getElem_cons hi, sumL_cons] at h1
  unfold usedN
  rw [List.length_set, List.set_eq_take_append_cons_drop, if_pos hi, sumL_append, sumL_cons]
  omega
theorem used_new (l : List Rec) (b : Rec) (i : Nat) : usedN (l.take i ++ b :: l.drop i) = usedN l + 12 + b.2.length := by
  have h1 := sumL_split l i
  unfold usedN
  rw [sumL_append, sumL_cons, List.length_append, List.length_cons, List.length_take, List.length_drop]
  omega
theorem flat_set : ∀ {l : List Rec} {i : Nat} {x : Rec} (s : List UInt8), l[i]? = some x → flat (l.set i (x.1, s)) = (flat l).set (i * 2 + 1) (.string (st s))
  | [], i, x, s, h => by simp at h
  | y :: l, 0, x, s, h => by simp at h; subst h; rfl
  | y :: l, i + 1, x, s, h => by
    rw [List.set_cons_succ, show (i + 1) * 2 + 1 = i * 2 + 1 + 1 + 1 by omega]
    simp only [flat, List.set_cons_succ]
    rw [flat_set s (by simpa using h)]
theorem flat_take : ∀ (l : List Rec) (i : Nat), (flat l).take (i * 2) = flat (l.take i)
  | [], i => by simp [flat]
  | x :: l, 0 => by simp [flat]
  | x :: l, i + 1 => by rw [show (i + 1) * 2 = i * 2 + 1 + 1 by omega]; simp only [flat, List.take_succ_cons, flat_take l i]
theorem flat_drop : ∀ (l : List Rec) (i : Nat), (flat l).drop (i * 2) = flat (l.drop i)
  | [], i => by simp [flat]
  | x :: l, 0 => by simp [flat]
  | x :: l, i + 1 => by rw [show (i + 1) * 2 = i * 2 + 1 + 1 by omega]; simp only [flat, List.drop_succ_cons, flat_drop l i]
theorem rises_put {l : List Rec} {b : Rec} {i : Nat} (hr : Rises l) (hP : Place l b.1 i) : Rises (putR l b i) := by
  unfold putR
  split
  · rename_i h
    obtain ⟨x, hx, hxb⟩ := isAt_some h
    have hi := (List.getElem?_eq_some_iff.1 hx).1
    intro j k a c hjk ha hc
    rw [List.getElem?_set] at ha hc
    split at ha
    · rename_i e
      subst e
      (try rw [if_pos hi] at ha)
      cases ha
      split at hc
      · omega
      · have := hr i k x c hjk hx hc
        omega
    · split at hc
      · rename_i e
        subst e
        (try rw [if_pos hi] at hc)
        cases hc
        have := hr j i a x hjk ha hx
        omega
      · exact hr j k a c hjk ha hc
  · rename_i h
    have hn := isAt_not (by simpa using h)
    have hlt : (l.take i).length = i := by rw [List.length_take]; have := hP.le; omega
    have g : ∀ (j : Nat) (a : Rec), (l.take i ++ b :: l.drop i)[j]? = some a → (j < i ∧ l[j]? = some a ∧ a.1 < b.1) ∨ (j = i ∧ a = b) ∨ (i < j ∧ l[j - 1]? = some a ∧ b.1 < a.1) := by
      intro j a ha
      by_cases h1 : j < i
      · rw [List.getElem?_append_left (by omega), List.getElem?_take_of_lt h1] at ha
        exact .inl ⟨h1, ha, hP.lo j a h1 ha⟩
      · rw [List.getElem?_append_right (by omega), hlt] at ha
        by_cases h2 : j = i
        · subst h2
          rw [Nat.sub_self] at ha
          simp at ha
          exact .inr (.inl ⟨rfl, ha.symm⟩)
        · obtain ⟨m, hm⟩ : ∃ m, j - i = m + 1 := ⟨j - i - 1, by omega⟩
          rw [hm, List.getElem?_cons_succ, List.getElem?_drop, show i + m = j - 1 by omega] at ha
          refine .inr (.inr ⟨by omega, ha, ?_⟩)
          have h3 := hP.hi (j - 1) a (by omega) ha
          rcases Nat.lt_or_eq_of_le h3 with h4 | h4
          · exact h4
          · exfalso
            by_cases e : j - 1 = i
            · rw [e] at ha
              exact hn a ha h4.symm
            · have hil : i < l.length := by have := (List.getElem?_eq_some_iff.1 ha).1; omega
              have h5 := hr i (j - 1) l[i] a (by omega) (by simp) ha
              have h6 := hP.hi i l[i] (Nat.le_refl _) (by simp)
              omega
    intro j k a c hjk ha hc
    rcases g j a ha with ⟨h1, h2, h3⟩ | ⟨h1, h2⟩ | ⟨h1, h2, h3⟩
    · rcases g k c hc with ⟨k1, k2, k3⟩ | ⟨k1, k2⟩ | ⟨k1, k2, k3⟩
      · exact hr j k a c hjk h2 k2
      · rw [k2]; exact h3
      · omega
    · rcases g k c hc with ⟨k1, k2, k3⟩ | ⟨k1, k2⟩ | ⟨k1, k2, k3⟩
      · omega
      · omega
      · rw [h2]; exact k3
    · rcases g k c hc with ⟨k1, k2, k3⟩ | ⟨k1, k2⟩ | ⟨k1, k2, k3⟩
      · omega
      · omega
      · exact hr (j - 1) (k - 1) a c (by omega) h2 k2
/-- what a page's change leaves as it was -/
def PageFrame (g : Nat) (v : Value) (w w' : World) : Prop := ∀ b, b < w.heap.size → b ≠ g → v.ownBlock ≠ some b → w'.heap[b]? = w.heap[b]?
theorem PageFrame.ofBelow {g : Nat} {v : Value} {w w' : World} (h : Below w.heap.size w w') : PageFrame g v w w' := fun b hb _ _ => h.block b hb
def PutAny (base g : Nat) (v : Value) (l : List Rec) (b : Rec) (w : World) (e : Ending) (w' : World) : Prop :=
  Below base w w' ∧ PageFrame g v w w' ∧ ∃ i, Place l b.1 i ∧ ((usedN (putR l b i) ≤ 512 ∧ e = .returned (.bool true) ∧ ∃ v', PageAt w' base g v' (putR l b i) (usedN (putR l b i) : Int)) ∨ (¬ usedN (putR l b i) ≤ 512 ∧ e = .returned (.bool false) ∧ PageAt w' base g v l (usedN l : Int) ∧ Below w.heap.size w w'))
set_option maxRecDepth 8000 in
set_option maxHeartbeats 4000000 in
theorem put_c (base g : Nat) (v : Value) (l : List Rec) (b : Rec) (w : World) (hp : PageAt w base g v l (usedN l : Int)) (hb : base ≤ w.heap.size) (hr : Rises l) (hu : usedN l ≤ 512) (hs : b.2.length ≤ 140737488351232) :
    Calls Try.prog 8 #[.pointer (some ⟨g, 0, none⟩), .int .u64 (b.1 : Int), .string (st b.2)] w (PutAny base g v l b w) := by
  have hl : l.length ≤ 42 := by unfold usedN at hu; omega
  obtain ⟨GOAL, hG⟩ : ∃ G, G = PutAny base g v l b w := ⟨_, rfl⟩
  rw [← hG]
  have hGo := Lib.hid hG
  clear hG
  obtain ⟨id, s⟩ := b
  have cs := place_c base g v l (usedN l) id w hp hr (by omega)
  unfold SearchEnds at cs
  dsimp only at hs
  have hrh := Lib.hid hr
  clear hr
  go_enter Try.func8, Try.ntmps8
  go_upto_region 4 with ((with_reducible refine cs.mono ?_); rintro e w2 ⟨i, rfl, hP, hb2⟩)
  have hp2 := hp.keep hb2
  have hbb : Below base w w2 := hb2.mono hb
  have hbs : base ≤ w2.heap.size := Nat.le_trans hb hb2.size
  have cf := free_c base g v l (usedN l) w2 hp2 (by omega) (by omega)
  obtain ⟨A, cap, hv, hcap, hB2, hne⟩ := hp2.parts
  subst hv
  have c0 : w2.cell? ⟨g, 0, none⟩ = some (.slice A l.length cap) := cell_of hp2.blk 0
  have c1 : w2.cell? ⟨g, 1, none⟩ = some (.int .i64 (usedN l : Int)) := cell_of hp2.blk 1
  have q0 := frozen_of hp2.blk 0
  have q1 := frozen_of hp2.blk 1
  have hlt := (Array.getElem?_eq_some_iff.1 hp2.blk).1
  have hK2 := Lib.hid hb2
  have hPh := Lib.hid hP
  have hil := hP.le
  clear cs hp hP
  cases hA : isAt l id i
  · have hR : putR l (id, s) i = l.take i ++ (id, s) :: l.drop i := by unfold putR; rw [if_neg (by rw [hA]; simp)]
    have hU : usedN (putR l (id, s) i) = usedN l + 12 + s.length := by rw [hR]; exact used_new _ _ _
    have hRh := Lib.hid hR
    have hUh := Lib.hid hU
    clear hR hU hA hB2
    generalize hur : usedN l = used at *
    have hurh := Lib.hid hur
    clear hur
    have w1 : IntKind.i64.wrap (12 + (s.length : Int)) = 12 + s.length := by rw [IntKind.wrap_i64]; omega
    by_cases hfit : used + 12 + s.length ≤ 512
    rotate_left
    · have hf' : 512 - (used : Int) < 12 + s.length := by omega
      go_wp2_with ((with_reducible refine cf.mono ?_); rintro e w3 ⟨rfl, hb3⟩)
      rw [hGo.out]
      have hK3 := hK2.out.trans (hb3.mono hK2.out.size)
      exact ⟨hbb.trans (hb3.mono hbs), .ofBelow hK3, i, hPh.out, .inr ⟨by rw [hUh.out]; exact hfit, rfl, by rw [hurh.out]; exact hp2.keep hb3, hK3⟩⟩
    · have hf' : ¬ 512 - (used : Int) < 12 + s.length := by omega
      have w5 : IntKind.i64.wrap ((used : Int) + (12 + s.length)) = used + (12 + s.length) := by rw [IntKind.wrap_i64]; omega
      go_upto_region 9 with ((with_reducible refine cf.mono ?_); rintro e w3 ⟨rfl, hb3⟩)
      have hK3 := Lib.hid (hK2.out.trans (hb3.mono hK2.out.size))
      have hp3 := hp2.keep hb3
      have hb3b : Below base w w3 := hbb.trans (hb3.mono hbs)
      have hbs3 : base ≤ w3.heap.size := Nat.le_trans hbs hb3.size
      clear c0 c1 q0 q1 hlt hp2 hbb hbs hb3 hb2 cf
      have c0 : w3.cell? ⟨g, 0, none⟩ = some (.slice A l.length cap) := cell_of hp3.blk 0
      have c1 : w3.cell? ⟨g, 1, none⟩ = some (.int .i64 used) := cell_of hp3.blk 1
      have q0 := frozen_of hp3.blk 0
      have q1 := frozen_of hp3.blk 1
      have hlt := (Array.getElem?_eq_some_iff.1 hp3.blk).1
      go_upto_region 12 with fail
      obtain ⟨w4, hw4⟩ : ∃ w4, w4 = w3.setCell ⟨g, 1, none⟩ (.int .i64 ((used : Int) + (12 + s.length))) := ⟨_, rfl⟩
      have hO : Only g w3 w4 := hw4 ▸ (Only.refl g w3).set 1 _
      have hg4 : w4.heap[g]? = some (.cells #[.slice A l.length cap, .int .i64 ((used : Int) + (12 + s.length))] 56) := hw4 ▸ set2_at1 hp3.blk
      have own4 := own_only hp3.row hO hne
      have hb4 : Below base w w4 := hb3b.trans (hO.below hp3.lo)
      have hbs4 : base ≤ w4.heap.size := by rw [hO.size]; exact hbs3
      have hlo := hp3.lo
      have hK4 : Hid ((∀ b, b < w.heap.size → b ≠ g → w4.heap[b]? = w.heap[b]?) ∧ w.heap.size ≤ w4.heap.size) := Lib.hid ⟨fun b h1 h2 => (hO.block b h2).trans (hK3.out.block b h1), by rw [hO.size]; exact hK3.out.size⟩
      rw [← hw4]
      clear hw4 hO hp3 hb3b hbs3 c0 c1 q0 q1 hlt hK3 w3
      have c0 : w4.cell? ⟨g, 0, none⟩ = some (.slice A l.length cap) := cell_of hg4 0
      have hlt := (Array.getElem?_eq_some_iff.1 hg4).1
      obtain ⟨w5, hw5⟩ : ∃ w5, w5 = w4.alloc (.cells #[.int .u64 (id : Int), .string (st s)] 53) := ⟨_, rfl⟩
      have own5 : w5.ownsRow base 53 2 (.slice A l.length cap) l.length (flat l) := hw5 ▸ own4.alloc _
      have b45 : Below w4.heap.size w4 w5 := hw5 ▸ below_alloc _ _
      have hg5 := (b45.block g hlt).trans hg4
      have hb5 := hb4.trans (b45.mono hbs4)
      have hK5 : Hid ((∀ b, b < w.heap.size → b ≠ g → w5.heap[b]? = w.heap[b]?) ∧ w.heap.size ≤ w5.heap.size) := Lib.hid ⟨fun b h1 h2 => (b45.block b (Nat.lt_of_lt_of_le h1 hK4.out.2)).trans (hK4.out.1 b h1 h2), Nat.le_trans hK4.out.2 b45.size⟩
      have hbs5 : base ≤ w5.heap.size := Nat.le_trans hbs4 b45.size
      have ybl : w5.heap[w4.heap.size]? = some (.cells (List.toArray [.int .u64 (id : Int), .string (st s)]) 53) := hw5 ▸ alloc_here _ _
      have hnr : (Value.slice A l.length cap).ownBlock ≠ some w4.heap.size := fun e => by
        have := (own4.lt _ e).2
        omega
      have ci := insertBody_c base _ l.length i 1 w4.heap.size _ (flat l) [.int .u64 (id : Int), .string (st s)] w5 own5 hbs5 hil (by omega) (by omega) (by omega) rfl hnr ybl (fun u hu => by simp only [List.mem_cons, List.not_mem_nil, or_false] at hu; rcases hu with rfl | rfl <;> rfl) (flat_one l)
      rw [hw5] at ci
      have hw5 := Lib.hid hw5
      unfold InsBodyEnds at ci
      clear own4 hg4 b45 hb4 ybl hnr
      go_wp2_with ((with_reducible refine ci.mono ?_); rintro e w6 ⟨v', rfl, hown', hgrow⟩; obtain ⟨A6, cap6, hv6⟩ := own_slice hown'; subst hv6; rw [← hw5.out] at hgrow; have hg6 := (hgrow.block g (Array.getElem?_eq_some_iff.1 hg5).1 (fun e => hne e.symm)).trans hg5; have c0' : w6.cell? ⟨g, 0, none⟩ = some (.slice A l.length cap) := cell_of hg6 0; have q0' := frozen_of hg6 0; have hlt' := (Array.getElem?_eq_some_iff.1 hg6).1)
      rw [hGo.out]
      have hne5 : ∀ k, (Value.slice A l.length cap).ownBlock = some k → base ≤ k := fun k hk => (own5.lt k hk).1
      have hb6 : Below base w w6 := hb5.grown hgrow hbs5 hne5
      have hO : Only g w6 (w6.setCell ⟨g, 0, none⟩ (.slice A6 (l.length + 1) cap6)) := (Only.refl g w6).set 0 _
      have hne6 : (Value.slice A6 (l.length + 1) cap6).ownBlock ≠ some g := fun e => by
        rcases hown'.2 with ⟨_, hn⟩ | ⟨gb, cap', cur, hv, _, hc, _⟩
        · omega
        · rw [hv] at e
          simp [Value.ownBlock] at e
          subst e
          rw [hg6] at hc
          simp at hc
      have hRl : (putR l (id, s) i).length = l.length + 1 := by rw [hRh.out, List.length_append, List.length_cons, List.length_take, List.length_drop]; omega
      refine ⟨hb6.trans (hO.below hlo), fun b h1 h2 h3 => (hO.block b h2).trans ((hgrow.block b (Nat.lt_of_lt_of_le h1 hK5.out.2) (fun e => h3 e.symm)).trans (hK5.out.1 b h1 h2)), i, hPh.out, .inl ⟨by rw [hUh.out]; exact hfit, rfl, .slice A6 (l.length + 1) cap6, hlo, ?_, ?_⟩⟩
      · rw [set2_at0 hg6, hUh.out]
        simp
        omega
      · have := own_only hown' hO hne6
        rw [hRl]
        rw [flat_take, flat_drop] at this
        rw [hRh.out, flat_append]
        simpa [flat, List.append_assoc] using this
  · obtain ⟨x, hx, hxid⟩ := isAt_some hA
    have hR : putR l (id, s) i = l.set i (id, s) := by unfold putR; rw [if_pos hA]
    obtain ⟨hU, hxs⟩ := used_old (b := (id, s)) hx
    rw [← hR] at hU
    have hi1 := (List.getElem?_eq_some_iff.1 hx).1
    have hi1' : (i : Int) < l.length := by omega
    obtain ⟨ad, hA, hB⟩ := hB2 i x hx
    subst hA
    obtain ⟨y6, y0, y1⟩ := hB
    have hfs := flat_set s hx
    rw [hxid, ← hR] at hfs
    have hRh := Lib.hid hR
    have hfs := Lib.hid hfs
    have hxs1 : sumL l ≤ 512 := by unfold usedN at hu; omega
    dsimp only at hU
    clear hR hA hB2 hx hxid hil
    generalize hur : usedN l = used at *
    have hurh := Lib.hid hur
    clear hur
    have w1 : IntKind.i64.wrap ((s.length : Int) - x.2.length) = s.length - x.2.length := by rw [IntKind.wrap_i64]; omega
    by_cases hfit : used + s.length ≤ 512 + x.2.length
    rotate_left
    · have hf' : 512 - (used : Int) < s.length - x.2.length := by omega
      have hU := Lib.hid hU
      clear hxs hxs1
      go_wp2_with ((with_reducible refine cf.mono ?_); rintro e w3 ⟨rfl, hb3⟩)
      rw [hGo.out]
      have hK3 := hK2.out.trans (hb3.mono hK2.out.size)
      exact ⟨hbb.trans (hb3.mono hbs), .ofBelow hK3, i, hPh.out, .inr ⟨by have := hU.out; omega, rfl, by rw [hurh.out]; exact hp2.keep hb3, hK3⟩⟩
    · have hf' : ¬ 512 - (used : Int) < s.length - x.2.length := by omega
      have w5 : IntKind.i64.wrap ((used : Int) + (s.length - x.2.length)) = used + (s.length - x.2.length) := by rw [IntKind.wrap_i64]; omega
      have hU := Lib.hid hU
      clear hxs hxs1
      go_upto_region 9 with ((with_reducible refine cf.mono ?_); rintro e w3 ⟨rfl, hb3⟩)
      have hK3 := Lib.hid (hK2.out.trans (hb3.mono hK2.out.size))
      have hp3 := hp2.keep hb3
      have hb3b : Below base w w3 := hbb.trans (hb3.mono hbs)
      have hbs3 : base ≤ w3.heap.size := Nat.le_trans hbs hb3.size
      clear c0 c1 q0 q1 hlt hp2 hbb hbs hb3 hb2 cf y6 y0 y1
      have c0 : w3.cell? ⟨g, 0, none⟩ = some (.slice (some ad) l.length cap) := cell_of hp3.blk 0
      have c1 : w3.cell? ⟨g, 1, none⟩ = some (.int .i64 used) := cell_of hp3.blk 1
      have q0 := frozen_of hp3.blk 0
      have q1 := frozen_of hp3.blk 1
      have hlt := (Array.getElem?_eq_some_iff.1 hp3.blk).1
      go_upto_region 11 with fail
      obtain ⟨w4, hw4⟩ : ∃ w4, w4 = w3.setCell ⟨g, 1, none⟩ (.int .i64 ((used : Int) + (s.length - x.2.length))) := ⟨_, rfl⟩
      have hO : Only g w3 w4 := hw4 ▸ (Only.refl g w3).set 1 _
      have hg4 : w4.heap[g]? = some (.cells #[.slice (some ad) l.length cap, .int .i64 ((used : Int) + (s.length - x.2.length))] 56) := hw4 ▸ set2_at1 hp3.blk
      have own4 := own_only hp3.row hO hne
      have hb4 : Below base w w4 := hb3b.trans (hO.below hp3.lo)
      have hbs4 : base ≤ w4.heap.size := by rw [hO.size]; exact hbs3
      have hlo := hp3.lo
      have hK4 : Hid ((∀ b, b < w.heap.size → b ≠ g → w4.heap[b]? = w.heap[b]?) ∧ w.heap.size ≤ w4.heap.size) := Lib.hid ⟨fun b h1 h2 => (hO.block b h2).trans (hK3.out.block b h1), by rw [hO.size]; exact hK3.out.size⟩
      rw [← hw4]
      clear hw4 hO hp3 hb3b hbs3 c0 c1 q0 q1 hlt hK3 w3
      obtain ⟨gb, hadg, hgb⟩ : ∃ gb, ad = ⟨gb, 0, none⟩ ∧ base ≤ gb := by
        rcases own4.2 with ⟨hv, _⟩ | ⟨gb, cap', cur, hv, hbg, _⟩
        · cases hv
        · simp only [Value.slice.injEq, Option.some.injEq] at hv
          exact ⟨gb, hv.1, hbg⟩
      subst hadg
      have c0 : w4.cell? ⟨g, 0, none⟩ = some (.slice (some ⟨gb, 0, none⟩) l.length cap) := cell_of hg4 0
      have hlt := (Array.getElem?_eq_some_iff.1 hg4).1
      have hfl := flat_len l
      have fz := own_unfrozen own4 (i * 2 + 1)
      have y1 : (w4.cell? ⟨gb, i * 2 + 1, none⟩).isSome = true := own_there own4 (i * 2 + 1) (by omega)
      obtain ⟨y, hy⟩ := Option.isSome_iff_exists.1 y1
      have hgl := (own4.lt gb rfl).2
      have hneg : gb ≠ g := fun e => hne (by rw [e]; rfl)
      obtain ⟨ow, gw⟩ := own_puts [.string (st s)] (i * 2 + 1) own4 (by rw [hfl]; simp; omega)
      have ow : (w4.setCell ⟨gb, i * 2 + 1, none⟩ (.string (st s))).ownsRow base 53 2 (.slice (some ⟨gb, 0, none⟩) l.length cap) l.length ((flat l).set (i * 2 + 1) (.string (st s))) := by
        have e := puts_cons (xs := flat l) (o := i * 2 + 1) (v := .string (st s)) (vs := []) (by rw [hfl]; simp; omega)
        rw [puts_nil] at e
        rw [e]
        exact ow
      have gw : w4.grownBy (w4.setCell ⟨gb, i * 2 + 1, none⟩ (.string (st s))) (some gb) := gw
      have hF : Hid ((Below base w (w4.setCell ⟨gb, i * 2 + 1, none⟩ (.string (st s))) ∧ PageFrame g (.slice (some ⟨gb, 0, none⟩) l.length cap) w (w4.setCell ⟨gb, i * 2 + 1, none⟩ (.string (st s)))) ∧ PageAt (w4.setCell ⟨gb, i * 2 + 1, none⟩ (.string (st s))) base g (.slice (some ⟨gb, 0, none⟩) l.length cap) (putR l (id, s) i) (usedN (putR l (id, s) i) : Int)) := by
        refine Lib.hid ⟨⟨hb4.grown gw hbs4 fun k hk => by cases hk; exact hgb, fun b h1 h2 h3 => (gw.block b (Nat.lt_of_lt_of_le h1 hK4.out.2) (by simpa [Value.ownBlock] using fun e => h3 (by rw [← e]; rfl))).trans (hK4.out.1 b h1 h2)⟩, hlo, ?_, ?_⟩
        · rw [gw.block g hlt (by simp; exact fun e => hneg e.symm), hg4]
          have := hU.out
          simp
          omega
        · rw [show (putR l (id, s) i).length = l.length by rw [hRh.out, List.length_set], hfs.out]
          exact ow
      clear ow gw own4 hg4 hb4 hfl y1
      go_wp2_with fail
      rw [hGo.out]
      exact ⟨hF.out.1.1, hF.out.1.2, i, hPh.out, .inl ⟨by have := hU.out; omega, rfl, _, hF.out.2⟩⟩
end Go.Proofs.Ytgcoepljlkahoaa
