
/-
  PagePlays' walk.
-/
import Derived.Test.YtgcoepljlkahoaaPgV
set_option linter.unusedSimpArgs false
set_option linter.unusedVariables false
namespace Go.Proofs.Ytgcoepljlkahoaa
open Go.RowKit Go.Deep

theorem place_ex (id : Nat) : ∀ l : List Rec, Rises l → ∃ p, Place l id p
  | [], _ => ⟨0, Nat.le_refl _, fun t b h => absurd h (Nat.not_lt_zero _), fun t b _ h => by simp at h⟩
  | x :: l, hr => by
    have hr' : Rises l := fun i j a b hij ha hb => hr (i + 1) (j + 1) a b (by omega) (by simpa using ha) (by simpa using hb)
    by_cases h : id ≤ x.1
    · refine ⟨0, Nat.zero_le _, fun t b h => absurd h (Nat.not_lt_zero _), fun t b _ hb => ?_⟩
      cases t with
      | zero => simp at hb; subst hb; exact h
      | succ t => have := hr 0 (t + 1) x b (by omega) rfl hb; omega
    · obtain ⟨p, hp⟩ := place_ex id l hr'
      refine ⟨p + 1, by have := hp.le; simp; omega, fun t b ht hb => ?_, fun t b ht hb => ?_⟩
      · cases t with
        | zero => simp at hb; subst hb; omega
        | succ t => exact hp.lo t b (by omega) (by simpa using hb)
      · cases t with
        | zero => omega
        | succ t => exact hp.hi t b (by omega) (by simpa using hb)
theorem place_uniq {l : List Rec} {id p q : Nat} (h1 : Place l id p) (h2 : Place l id q) : p = q := by
  rcases Nat.lt_trichotomy p q with h | h | h
  · exfalso
    have hp : p < l.length := by have := h2.le; omega
    have a := h2.lo p l[p] h (by simp)
    have b := h1.hi p l[p] (Nat.le_refl _) (by simp)
    omega
  · exact h
  · exfalso
    have hp : q < l.length := by have := h1.le; omega
    have a := h1.lo q l[q] h (by simp)
    have b := h2.hi q l[q] (Nat.le_refl _) (by simp)
    omega
theorem rises_pair {l : List Rec} : Rises l ↔ l.Pairwise (fun a b => a.1 < b.1) := by
  rw [List.pairwise_iff_getElem]
  constructor
  · intro h i j hi hj hij
    exact h i j _ _ hij (by simp) (by simp)
  · intro h i j a b hij ha hb
    obtain ⟨hi, rfl⟩ := List.getElem?_eq_some_iff.1 ha
    obtain ⟨hj, rfl⟩ := List.getElem?_eq_some_iff.1 hb
    exact h i j hi hj hij
theorem rises_drop {l : List Rec} {id p : Nat} (hr : Rises l) (hP : Place l id p) : Rises (dropR l id p) := by
  rw [← filter_place hr hP]
  exact rises_pair.2 ((rises_pair.1 hr).filter _)
theorem drop_ids {l : List Rec} {id p : Nat} (h : ∀ x ∈ l, x.1 ≤ 18446744073709551615) : ∀ x ∈ dropR l id p, x.1 ≤ 18446744073709551615 := fun x hx => by
  unfold dropR at hx
  rcases List.mem_append.1 hx with h1 | h1
  · exact h x (List.mem_of_mem_take h1)
  · exact h x (List.mem_of_mem_drop h1)
theorem drop_room {l : List Rec} {id p : Nat} (h : usedN l ≤ 512) : usedN (dropR l id p) ≤ 512 := by
  cases hA : isAt l id p
  · rw [dropR_not hA]; exact h
  · obtain ⟨x, hx, _⟩ := isAt_some hA
    have := (used_drop hx).1
    rw [dropR_at hA]
    omega
theorem put_sum {l : List Rec} {b : Rec} {p : Nat} (h : usedN l ≤ 512) (hb : b.2.length ≤ 600) : sumL (putR l b p) ≤ 1000000 := by
  have hu : usedN (putR l b p) ≤ 2000 := by
    unfold putR
    split
    · rename_i hA
      obtain ⟨x, hx, _⟩ := isAt_some hA
      have := (used_old (b := b) hx).1
      omega
    · rw [used_new]; omega
  unfold usedN at hu
  omega
theorem BodiesAt.frame {w w' : World} {g : Nat} {v : Value} {A : Option Addr} {l : List Rec} (h : BodiesAt w A l) (hf : PageFrame g v w w') (hs : w.heap.size ≤ w'.heap.size) (hA : ∀ ad, A = some ad → ad.block ≠ g ∧ v.ownBlock ≠ some ad.block) : BodiesAt w' A l := fun i b hi => by
  obtain ⟨ad, h1, h2⟩ := h i b hi
  obtain ⟨n1, n2⟩ := hA ad h1
  have hblk : (ad.add (i * 2)).block = ad.block := by unfold Addr.add; split <;> rfl
  have hlt := h2.lt
  have e := hf (ad.add (i * 2)).block hlt (by rw [hblk]; exact n1) (by rw [hblk]; exact n2)
  exact ⟨ad, h1, Nat.lt_of_lt_of_le hlt hs, (World.cell?_of_block e).trans h2.c0, (World.cell?_of_block (a := ⟨(ad.add (i * 2)).block, (ad.add (i * 2)).off + 1, none⟩) e).trans h2.c1⟩
theorem PageAt.mono {w : World} {base base' g : Nat} {v : Value} {l : List Rec} {used : Int} (h : PageAt w base g v l used) (hb : base' ≤ base) : PageAt w base' g v l used := ⟨Nat.le_trans hb h.lo, h.blk, h.row.mono hb⟩
theorem PageAt.mine {w : World} {base g : Nat} {v : Value} {l : List Rec} {used : Int} (h : PageAt w base g v l used) : g < w.heap.size ∧ ∀ k, v.ownBlock = some k → k < w.heap.size := ⟨(Array.getElem?_eq_some_iff.1 h.blk).1, fun k hk => (h.row.lt k hk).2⟩
/-- a record that is found by going through all -/
theorem found_at {l : List Rec} {id p k : Nat} {x : Rec} (hr : Rises l) (hP : Place l id p) (hx : l[k]? = some x) : x.1 = id ↔ k = p ∧ isAt l id p = true := by
  constructor
  · intro h
    rcases Nat.lt_trichotomy k p with h1 | h1 | h1
    · have := hP.lo k x h1 hx; omega
    · subst h1
      exact ⟨rfl, by unfold isAt; rw [hx]; simp [h]⟩
    · have := place_over hr hP hx h1; omega
  · rintro ⟨rfl, h⟩
    obtain ⟨y, hy, hyid⟩ := isAt_some h
    rw [hx] at hy
    cases hy
    exact hyid
set_option maxRecDepth 8000 in
set_option maxHeartbeats 8000000 in
theorem pagePlays_walk (A : Option Addr) (cap n : Nat) (w : World) (hx : Acts w A n) (hm : n ≤ maxLen) :
    Calls Try.prog 5 #[.slice A n cap] w fun e w' => e = .returned (.bool true) ∧ Below w.heap.size w w' := by
  unfold maxLen at hm
  obtain ⟨GOAL, hG⟩ : ∃ G, G = fun (e : Ending) (w' : World) => e = .returned (.bool true) ∧ Below w.heap.size w w' := ⟨_, rfl⟩
  rw [← hG]
  have hGo := Lib.hid hG
  clear hG
  have c1 := new_c w.heap.size w (Nat.le_refl _)
  go_enter Try.func5, Try.ntmps5
  go_upto_region 2 with ((with_reducible refine c1.mono ?_); rintro e w1 ⟨rfl, hp1, hs1, hb1⟩)
  obtain ⟨w2, hw2⟩ : ∃ w2, w2 = w1.alloc (.cells #[] 53) := ⟨_, rfl⟩
  have hb12 : Below w1.heap.size w1 w2 := hw2 ▸ below_alloc w1 _
  have hp2 := hp1.keep hb12
  have hB2 : BodiesAt w2 (some ⟨w1.heap.size, 0, none⟩) [] := fun i b h => by simp at h
  have hb2 := hb1.trans (hb12.mono hb1.size)
  rw [← hw2]
  clear hw2 c1 hp1 hs1 hb12 hb1
  have aw := awake_c w2
  go_upto_block 0 with ((with_reducible refine aw.mono ?_); rintro e w3 ⟨rfl, hb3⟩)
  have hH : Hid (HeldP w.heap.size w.heap.size [] w3 (.slice none 0 0)) := Lib.hid ⟨hp2.keep hb3, rises_nil, by simp [usedN, sumL], fun b h => by cases h⟩
  have hB := Lib.hid (hB2.keep hb3)
  have hbw := hb2.trans (hb3.mono hb2.size)
  clear aw hp2 hb2 hb3 hB2
  go_wp2_with fail
  go_loopw [3, 4, 5] (fun a3 a4 a5 wr => ∃ (i g : Nat) (v : Value) (l : List Rec) (M : Option Addr) (mc : Nat), a5 = .int .i64 i ∧ a3 = .pointer (some ⟨g, 0, none⟩) ∧ a4 = .slice M l.length mc ∧ i ≤ n ∧ i ≤ 40 ∧ Hid (HeldP w.heap.size g l wr v) ∧ Hid (BodiesAt wr M l) ∧ Below w.heap.size w wr) (fun _ _ a _ => n - (intOf a).toNat)
  case atStart => exact ⟨0, _, _, [], _, 0, rfl, rfl, rfl, Nat.zero_le _, Nat.zero_le _, hH, hB, hbw⟩
  case round =>
    clear hH hB hbw
    obtain ⟨i, g, v, l, M, mc, rfl, rfl, rfl, hi, hi40, hH, hB, hbr⟩ := hrel
    have w3i : IntKind.i64.wrap ((i : Int) + 1) = (i : Int) + 1 := by rw [IntKind.wrap_i64]; omega
    by_cases hil : i < n
    · have hil' : (i : Int) < n := by omega
      by_cases h40 : i < 40
      · have h40' : (i : Int) < 40 := by omega
        obtain ⟨ad, k, id, s, hA, hat, hid, hsl⟩ := hx.at_ i hil
        subst hA
        unfold maxLen at hsl
        obtain ⟨q6, q0, q1, q2⟩ := hat.keep hbr
        clear hx hat
        go_upto_if 39 with fail
        go_cut [] (fun wx => ∃ s' : List UInt8, Hid (s'.length ≤ 600) ∧ wx = wr.alloc (.cells #[.int .i64 k, .int .u64 (id : Int), .string (st s')] 43))
        case first =>
          by_cases h600 : 600 < s.length
          · have h600' : (600 : Int) < s.length := by omega
            have h601 : (600 : Int) ≤ s.length := by omega
            go_wp2_with fail
            ((with_reducible show Met _ _ _); refine Met.intro ?_; go_step; (repeat' apply Exists.intro); refine ⟨?_, rfl⟩)
            exact ⟨s.take 600, by show _ ≤ _; rw [List.length_take]; omega, rfl⟩
          · have h600' : ¬ (600 : Int) < s.length := by omega
            go_wp2_with fail
            ((with_reducible show Met _ _ _); refine Met.intro ?_; go_step; (repeat' apply Exists.intro); refine ⟨?_, rfl⟩)
            exact ⟨s, by show _ ≤ _; omega, rfl⟩
        case rest =>
          obtain ⟨s', hs600, rfl⟩ := hcut
          obtain ⟨w5, hw5⟩ : ∃ w5, w5 = wr.alloc (.cells #[.int .i64 k, .int .u64 (id : Int), .string (st s')] 43) := ⟨_, rfl⟩
          have hb5 : Below wr.heap.size wr w5 := hw5 ▸ below_alloc wr _
          have hblk : Hid (w5.heap[wr.heap.size]? = some (.cells #[.int .i64 k, .int .u64 (id : Int), .string (st s')] 43)) := Lib.hid (hw5 ▸ alloc_here wr _)
          rw [← hw5]
          clear hw5
          obtain ⟨hg1, hv1⟩ := hH.out.at_.mine
          have hH5 : HeldP w.heap.size g l w5 v := ⟨hH.out.at_.keep hb5, hH.out.rise, hH.out.room, hH.out.ids⟩
          have hB5 := hB.out.keep hb5
          have hbw5 := hbr.trans (hb5.mono hbr.size)
          have hll : l.length ≤ 42 := by have := hH5.room; unfold usedN at this; omega
          obtain ⟨p, hP⟩ := place_ex id l hH5.rise
          have hs5 := hb5.size
          have hH5 := Lib.hid hH5
          have hB5 := Lib.hid hB5
          have hP := Lib.hid hP
          have hv1 := Lib.hid hv1
          clear hH hB q6 q0 q1 q2 hb5
          have y0 : w5.cell? ⟨wr.heap.size, 0, none⟩ = some (.int .i64 k) := cell_of hblk.out 0
          have y1 : w5.cell? ⟨wr.heap.size, 1, none⟩ = some (.int .u64 (id : Int)) := cell_of hblk.out 1
          have y2 : w5.cell? ⟨wr.heap.size, 2, none⟩ = some (.string (st s')) := cell_of hblk.out 2
          have y6 := (Array.getElem?_eq_some_iff.1 hblk.out).1
          go_upto_block 2 with fail
          go_cut [3, 4] (fun a3 a4 wx => ∃ (g' : Nat) (v' : Value) (l' : List Rec) (M' : Option Addr) (mc' : Nat), a3 = .pointer (some ⟨g', 0, none⟩) ∧ a4 = .slice M' l'.length mc' ∧ Hid (HeldP w.heap.size g' l' wx v') ∧ Hid (BodiesAt wx M' l') ∧ Below w.heap.size w wx ∧ Hid (wx.heap[wr.heap.size]? = some (.cells #[.int .i64 k, .int .u64 (id : Int), .string (st s')] 43)))
          case first =>
            by_cases hk3 : k = 3
            · subst hk3
              have cw := without_c M mc l id p w5 hB5.out hH5.out.rise hP.out (by omega)
              unfold WithoutEnds at cw
              go_upto_region 17 with ((with_reducible refine cw.mono ?_); rintro e w6 ⟨hb6, M6, mc6, rfl, hB6, hnew6⟩)
              have hp6 := hH5.out.at_.keep hb6
              have hbw6 := hbw5.trans (hb6.mono hbw5.size)
              have hk6 : Hid (w6.heap[wr.heap.size]? = some (.cells #[.int .i64 3, .int .u64 (id : Int), .string (st s')] 43)) := Lib.hid ((hb6.block _ y6).trans hblk.out)
              have cd := drop_c w.heap.size g v l id w6 hp6 hbw6.size hH5.out.rise hH5.out.room
              unfold DropEnds at cd
              have hs6 := hb6.size
              clear y0 y1 y2 cw hb6 hp6
              have z1 : w6.cell? ⟨wr.heap.size, 1, none⟩ = some (.int .u64 (id : Int)) := cell_of hk6.out 1
              have z6 := (Array.getElem?_eq_some_iff.1 hk6.out).1
              go_wp2_with ((with_reducible refine cd.mono ?_); rintro e w7 ⟨p7, hP7, he7, hb7, hf7, v7, hp7⟩; obtain rfl := place_uniq hP7 hP.out; subst he7)
              ((with_reducible show Met _ _ _); refine Met.intro ?_; go_step; (repeat' apply Exists.intro); refine ⟨?_, rfl⟩)
              refine ⟨g, v7, dropR l id p7, M6, mc6, rfl, rfl, Lib.hid ⟨hp7, rises_drop hH5.out.rise hP.out, drop_room hH5.out.room, drop_ids hH5.out.ids⟩, Lib.hid (hB6.frame hf7 hb7.size fun ad had => ?_), hbw6.trans hb7, Lib.hid ((hf7 _ z6 (by omega) (fun e => ?_)).trans hk6.out)⟩
              · have h1 := hnew6 ad had
                exact ⟨by omega, fun e => by have := hv1.out _ e; omega⟩
              · have := hv1.out _ e
                omega
            · by_cases hk4 : k = 4
              · subst hk4
                have ce := enc_c w.heap.size g v l _ w5 hH5.out.at_ hH5.out.room
                unfold StrEnds at ce
                have cd := fun w' => decode_c l w' hH5.out.rise hH5.out.room hH5.out.ids
                unfold DecEnds at cd
                have hh := hH5.out.at_
                generalize encL l = D at *
                go_wp2_with (first | ((with_reducible refine ce.mono ?_); rintro e w6 ⟨rfl, hb6⟩; have cd6 := cd w6) | ((with_reducible refine cd6.mono ?_); rintro e w7 ⟨g7, v7, rfl, hp7, hb7⟩))
                ((with_reducible show Met _ _ _); refine Met.intro ?_; go_step; (repeat' apply Exists.intro); refine ⟨?_, rfl⟩)
                have hb67 := hb6.trans (hb7.mono hb6.size)
                exact ⟨g7, v7, l, M, mc, rfl, rfl, Lib.hid ⟨hp7.mono (Nat.le_trans hbw5.size hb6.size), hH5.out.rise, hH5.out.room, hH5.out.ids⟩, Lib.hid (hB5.out.keep hb67), hbw5.trans (hb67.mono hbw5.size), Lib.hid ((hb67.block _ y6).trans hblk.out)⟩
              · have cw := with_c M mc l (id, s') p w5 hB5.out hH5.out.rise hP.out (by omega) (put_sum hH5.out.room hs600.out)
                unfold WithEnds at cw
                dsimp only at cw
                have fin : ∀ (w6 w7 : World), Below w5.heap.size w5 w6 → PageFrame g v w6 w7 → w6.heap.size ≤ w7.heap.size → w7.heap[wr.heap.size]? = some (.cells #[.int .i64 k, .int .u64 (id : Int), .string (st s')] 43) := fun w6 w7 hb6 hf7 hs7 => (hf7 _ (Nat.lt_of_lt_of_le y6 hb6.size) (by omega) (fun e => by have := hv1.out _ e; omega)).trans ((hb6.block _ y6).trans hblk.out)
                have cp := fun w6 (hb6 : Below w5.heap.size w5 w6) => put_c w.heap.size g v l (id, s') w6 (hH5.out.at_.keep hb6) (Nat.le_trans hbw5.size hb6.size) hH5.out.rise hH5.out.room (by have := hs600.out; show s'.length ≤ _; omega)
                unfold PutAny at cp
                dsimp only at cp
                go_upto_region 12 with ((with_reducible refine cw.mono ?_); rintro e w6 ⟨hb6, h6⟩; rcases h6 with ⟨hroom6, M6, mc6, rfl, hB6, hnew6⟩ | ⟨hno6, rfl⟩)
                · have cp6 := cp w6 hb6
                  have hk6 := (hb6.block _ y6).trans hblk.out
                  have z1 : w6.cell? ⟨wr.heap.size, 1, none⟩ = some (.int .u64 (id : Int)) := cell_of hk6 1
                  have z2 : w6.cell? ⟨wr.heap.size, 2, none⟩ = some (.string (st s')) := cell_of hk6 2
                  have z6 := (Array.getElem?_eq_some_iff.1 hk6).1
                  have fin6 := fun w7 => fin w6 w7 hb6
                  have hbw6 := hbw5.trans (hb6.mono hbw5.size)
                  have hs6 := hb6.size
                  have hr6 := Lib.hid hroom6
                  clear y0 y1 y2 cw cp hk6 fin hb6 hroom6
                  go_wp2_with ((with_reducible refine cp6.mono ?_); rintro e w7 ⟨hb7, hf7, p7, hP7, h7⟩; obtain rfl := place_uniq hP7 hP.out; rcases h7 with ⟨_, he7, v7, hp7⟩ | ⟨hno7, _⟩; rotate_left; (exact absurd hr6.out hno7); subst he7)
                  ((with_reducible show Met _ _ _); refine Met.intro ?_; go_step; (repeat' apply Exists.intro); refine ⟨?_, rfl⟩)
                  refine ⟨g, v7, putR l (id, s') p7, M6, mc6, rfl, rfl, Lib.hid ⟨hp7, rises_put hH5.out.rise hP.out, hr6.out, putR_ids hH5.out.ids hid⟩, Lib.hid (hB6.frame hf7 hb7.size fun ad had => ?_), hbw6.trans hb7, Lib.hid (fin6 w7 hf7 hb7.size)⟩
                  have h1 := hnew6 ad had
                  exact ⟨by omega, fun e => by have := hv1.out _ e; omega⟩
                · have cp6 := cp w6 hb6
                  have hk6 := (hb6.block _ y6).trans hblk.out
                  have z1 : w6.cell? ⟨wr.heap.size, 1, none⟩ = some (.int .u64 (id : Int)) := cell_of hk6 1
                  have z2 : w6.cell? ⟨wr.heap.size, 2, none⟩ = some (.string (st s')) := cell_of hk6 2
                  have z6 := (Array.getElem?_eq_some_iff.1 hk6).1
                  have fin6 := fun w7 => fin w6 w7 hb6
                  have hbw6 := hbw5.trans (hb6.mono hbw5.size)
                  have hB6 := hB5.out.keep hb6
                  have hr6 := Lib.hid hno6
                  clear y0 y1 y2 cw cp hk6 fin hno6
                  go_wp2_with ((with_reducible refine cp6.mono ?_); rintro e w7 ⟨hb7, hf7, p7, hP7, h7⟩; obtain rfl := place_uniq hP7 hP.out; rcases h7 with ⟨hy7, _⟩ | ⟨_, he7, hp7, hbl7⟩; (exact absurd hy7 hr6.out); subst he7)
                  ((with_reducible show Met _ _ _); refine Met.intro ?_; go_step; (repeat' apply Exists.intro); refine ⟨?_, rfl⟩)
                  exact ⟨g, v, l, M, mc, rfl, rfl, Lib.hid ⟨hp7, hH5.out.rise, hH5.out.room, hH5.out.ids⟩, Lib.hid (hB6.keep hbl7), hbw6.trans hb7, Lib.hid (fin6 w7 hf7 hb7.size)⟩
          case rest =>
            clear hH5 hB5 hbw5 hblk hv1 hg1 hll hP hs5 y0 y1 y2 y6
            obtain ⟨g, v, l, M, mc, rfl, rfl, hH, hB, hbw, hblk⟩ := hcut
            have hll : l.length ≤ 42 := by have := hH.out.room; unfold usedN at this; omega
            have hul := hH.out.room
            have hp5 := hH.out.at_
            have hsl : sumL l ≤ 512 := by unfold usedN at hul; omega
            have ca := all_c w.heap.size g v l _ wc hp5 (by omega)
            unfold BodiesEnds at ca
            have cs := fun A6 c6 w' (h1 : BodiesAt w' A6 l) (h2 : BodiesAt w' M l) => same_c A6 M c6 mc l w' h1 h2 (by omega)
            have cf := fun w' (h : PageAt w' w.heap.size g v l (usedN l : Int)) => free_c w.heap.size g v l _ w' h (by omega) (by omega)
            have cu := fun w' (h : BodiesAt w' M l) => used_c M mc l w' h (by omega) (by omega)
            have ce := fun w' (h : PageAt w' w.heap.size g v l (usedN l : Int)) => enc_c w.heap.size g v l _ w' h hul
            have cp := fun w' (h : BodiesAt w' M l) => rput_c M mc l w' h hul hH.out.ids
            have cg := fun w' (h : PageAt w' w.heap.size g v l (usedN l : Int)) => get_c w.heap.size g v l _ id w' h hH.out.rise (by omega)
            unfold StrEnds at ce cp
            unfold GetEnds at cg
            have wu : IntKind.i64.wrap (512 - (usedN l : Int)) = 512 - (usedN l : Int) := by rw [IntKind.wrap_i64]; omega
            have hBm := hB.out
            have y6 := (Array.getElem?_eq_some_iff.1 hblk.out).1
            have hulh := Lib.hid hul
            clear hul hsl
            generalize encL l = D at *
            go_upto_region 27 with (first | ((with_reducible refine ca.mono ?_); rintro e w6 ⟨A6, c6, rfl, hB6, hb6⟩; have cs6 := cs A6 c6 w6 hB6 (hBm.keep hb6)) | ((with_reducible refine cs6.mono ?_); rintro e w7 ⟨rfl, hb7⟩; have hb57 := hb6.trans (hb7.mono hb6.size); have cf7 := cf w7 (hp5.keep hb57)) | ((with_reducible refine cf7.mono ?_); rintro e w8 ⟨rfl, hb8⟩; have hb58 := hb57.trans (hb8.mono hb57.size); have cu8 := cu w8 (hBm.keep hb58)) | ((with_reducible refine cu8.mono ?_); rintro e w9 ⟨rfl, hb9⟩; have hb59 := hb58.trans (hb9.mono hb58.size); have ce9 := ce w9 (hp5.keep hb59)) | ((with_reducible refine ce9.mono ?_); rintro e w10 ⟨rfl, hb10⟩; have hb510 := hb59.trans (hb10.mono hb59.size); have cp10 := cp w10 (hBm.keep hb510)) | ((with_reducible refine cp10.mono ?_); rintro e w11 ⟨rfl, hb11⟩; have hb511 := hb510.trans (hb11.mono hb510.size)))
            clear ca cs cf cu ce cp cs6 cf7 cu8 ce9 cp10 hb6 hb7 hb8 hb9 hb10 hb11 hb57 hb58 hb59 hb510 hB6
            have cg11 := cg w11 (hp5.keep hb511)
            have hk11 : Hid (w11.heap[wr.heap.size]? = some (.cells #[.int .i64 k, .int .u64 (id : Int), .string (st s')] 43)) := Lib.hid ((hb511.block _ y6).trans hblk.out)
            have z1 : w11.cell? ⟨wr.heap.size, 1, none⟩ = some (.int .u64 (id : Int)) := cell_of hk11.out 1
            have z6 := (Array.getElem?_eq_some_iff.1 hk11.out).1
            clear cg
            go_upto_region 29 with ((with_reducible refine cg11.mono ?_); rintro e w12 ⟨p, rfl, hP, hb12⟩)
            have hb512 := hb511.trans (hb12.mono hb511.size)
            have hB12 := Lib.hid (hBm.keep hb512)
            have hH12 : Hid (HeldP w.heap.size g l w12 v) := Lib.hid ⟨hp5.keep hb512, hH.out.rise, hH.out.room, hH.out.ids⟩
            have hk12 : Hid (w12.heap[wr.heap.size]? = some (.cells #[.int .i64 k, .int .u64 (id : Int), .string (st s')] 43)) := Lib.hid ((hb512.block _ y6).trans hblk.out)
            have hbw12 := hbw.trans (hb512.mono hbw.size)
            have hPh := Lib.hid hP
            obtain ⟨T, hT⟩ : ∃ T, T = textAt l id p := ⟨_, rfl⟩
            obtain ⟨I, hI⟩ : ∃ I, I = isAt l id p := ⟨_, rfl⟩
            rw [← hT, ← hI]
            have hTh := Lib.hid hT
            have hIh := Lib.hid hI
            clear hT hI cg11 z1 z6 hk11 hb511 hb12 hb512 hp5 hBm hH hB hblk y6 hP hbw
            go_wp2_with fail
            go_loopw [15, 16, 17] (fun a15 a16 a17 wz => ∃ (t : Nat) (want : List UInt8) (there : Bool), a15 = .string (st want) ∧ a16 = .bool there ∧ a17 = .int .i64 t ∧ t ≤ l.length ∧ Hid (there = (decide (p < t) && I)) ∧ Hid (want = if there = true then T else []) ∧ Below w12.heap.size w12 wz) (fun _ _ a _ => l.length - (intOf a).toNat)
            case atStart => exact ⟨0, [], false, rfl, rfl, rfl, Nat.zero_le _, Lib.hid (by simp), Lib.hid (by simp), Below.refl _ _⟩
            case round =>
              obtain ⟨t, want, there, rfl, rfl, rfl, ht, hthere, hwant, hbz⟩ := hrel
              have hbwz := hbw12.trans (hbz.mono hbw12.size)
              have w3t : IntKind.i64.wrap ((t : Int) + 1) = (t : Int) + 1 := by rw [IntKind.wrap_i64]; omega
              have hkz := (hbz.block _ (Array.getElem?_eq_some_iff.1 hk12.out).1).trans hk12.out
              have z1 := cell_of hkz 1
              have z6 := (Array.getElem?_eq_some_iff.1 hkz).1
              by_cases htl : t < l.length
              · have htl' : (t : Int) < l.length := by omega
                have hget : l[t]? = some l[t] := by simp
                have hfa := found_at hH12.out.rise hPh.out hget
                have htx : t = p → isAt l id p = true → T = l[t].2 := fun e hi => by
                  subst e
                  rw [hTh.out]
                  unfold textAt
                  rw [hget]
                  unfold isAt at hi
                  rw [hget] at hi
                  simp only at hi ⊢
                  rw [if_pos hi]
                obtain ⟨ad3, hA3, hB3⟩ := hB12.out t l[t] hget
                subst hA3
                obtain ⟨r6, r0, r1⟩ := hB3.keep hbz
                generalize l[t] = x at *
                simp at z1
                by_cases hxid : x.1 = id
                · have hxid' : (x.1 : Int) = id := by omega
                  obtain ⟨htp, hia⟩ := hfa.1 hxid
                  have hnew : Hid (true = (decide (p < t + 1) && I)) := Lib.hid (by rw [hIh.out, hia]; simp; omega)
                  have hnw : Hid (x.2 = if true = true then T else []) := Lib.hid (by rw [if_pos rfl, htx htp hia])
                  clear hget hfa htx hB3 hkz hxid htp hia
                  go_upto_region 32 with fail
                  (refine wp_region_flow [] (by kernel_rfl) (by kernel_rfl) ?_; (repeat (((with_reducible refine wpFlow_steps ?_); intro K hK; go_simp; first | (with_reducible refine hK _ ?_; clear hK K) | (apply Exists.intro; (with_reducible refine ⟨fun _ => ⟨?_, _, rfl⟩, hK _ ?_⟩); (· exact rfl); clear hK K) | (apply Exists.intro; (with_reducible refine ⟨fun _ => ⟨_, rfl⟩, hK _ ?_⟩); clear hK K) | (apply Exists.intro; (with_reducible refine ⟨fun _ => ?_, hK _ ?_⟩); (· (with_reducible (fail))); clear hK K)))); (refine wpFlow_nil ?_; rintro w1 ⟨q0, hq0⟩; have hb := In.h q0; rw [← hq0] at hb; clear hq0 q0; (first | ((with_reducible obtain ⟨p, hw''⟩ := In.of2 p hb); subst hw'') | (obtain ⟨p, hw''⟩ := In.of hb; subst hw'')); go_simp; intros))
                  have hb2 := hbz.trans (p.h.mono hbz.size)
                  go_wp2_with fail
                  exact ⟨⟨t + 1, x.2, true, rfl, rfl, by simp, htl, hnew, hnw, hb2⟩, by simp [intOf]; omega⟩
                · have hxid' : ¬ (x.1 : Int) = id := by omega
                  have hnew : Hid (there = (decide (p < t + 1) && I)) := Lib.hid (by
                    rw [hthere.out]
                    by_cases e : t = p
                    · have hf : isAt l id p = false := by
                        cases hb : isAt l id p
                        · rfl
                        · exact absurd (hfa.2 ⟨e, hb⟩) hxid
                      rw [hIh.out, hf]
                      simp
                    · have : (p < t + 1) ↔ (p < t) := by omega
                      simp only [this])
                  clear hget hfa htx hB3 hkz hxid
                  go_upto_region 32 with fail
                  (refine wp_region_flow [] (by kernel_rfl) (by kernel_rfl) ?_; (repeat (((with_reducible refine wpFlow_steps ?_); intro K hK; go_simp; first | (with_reducible refine hK _ ?_; clear hK K) | (apply Exists.intro; (with_reducible refine ⟨fun _ => ⟨?_, _, rfl⟩, hK _ ?_⟩); (· exact rfl); clear hK K) | (apply Exists.intro; (with_reducible refine ⟨fun _ => ⟨_, rfl⟩, hK _ ?_⟩); clear hK K) | (apply Exists.intro; (with_reducible refine ⟨fun _ => ?_, hK _ ?_⟩); (· (with_reducible (fail))); clear hK K)))); (refine wpFlow_nil ?_; rintro w1 ⟨q0, hq0⟩; have hb := In.h q0; rw [← hq0] at hb; clear hq0 q0; (first | ((with_reducible obtain ⟨p, hw''⟩ := In.of2 p hb); subst hw'') | (obtain ⟨p, hw''⟩ := In.of hb; subst hw'')); go_simp; intros))
                  have hb2 := hbz.trans (p.h.mono hbz.size)
                  go_wp2_with fail
                  exact ⟨⟨t + 1, want, there, rfl, rfl, by simp, htl, hnew, hwant, hb2⟩, by simp [intOf]; omega⟩
              · have e : t = l.length := by omega
                subst e
                have htl' : ¬ (l.length : Int) < l.length := by omega
                have hth : there = I := by
                  rw [hthere.out, hIh.out]
                  cases hb : isAt l id p
                  · simp
                  · obtain ⟨x, hx, _⟩ := isAt_some hb
                    have := (List.getElem?_eq_some_iff.1 hx).1
                    simp [this]
                have hwt : want = T := by
                  rw [hwant.out, hth, hIh.out, hTh.out]
                  cases hb : isAt l id p
                  · rw [if_neg (by simp)]
                    unfold textAt
                    unfold isAt at hb
                    cases hq : l[p]? with
                    | none => rfl
                    | some x => rw [hq] at hb; simp only at hb ⊢; rw [if_neg (by rw [hb]; simp)]
                  · rw [if_pos rfl]
                subst hth hwt
                have hHz : Hid (HeldP w.heap.size g l wr v) := Lib.hid ⟨hH12.out.at_.keep hbz, hH12.out.rise, hH12.out.room, hH12.out.ids⟩
                have hBz := Lib.hid (hB12.out.keep hbz)
                clear hkz z1 z6
                go_wp2_with fail
                exact ⟨⟨i + 1, g, v, l, M, mc, by simp, rfl, rfl, hil, h40, hHz, hBz, hbwz⟩, by simp [intOf]; omega⟩
      · have h40' : ¬ (i : Int) < 40 := by omega
        go_wp2_with fail
        rw [hGo.out]
        exact ⟨rfl, hbr⟩
    · have hil' : ¬ (i : Int) < n := by omega
      go_wp2_with fail
      rw [hGo.out]
      exact ⟨rfl, hbr⟩
end Go.Proofs.Ytgcoepljlkahoaa
