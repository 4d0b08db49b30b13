
/-
  Pages: PageFull, walked.
-/
import Derived.Test.YtgcoepljlkahoaaPgI
set_option linter.unusedSimpArgs false
set_option linter.unusedVariables false
namespace Go.Proofs.Ytgcoepljlkahoaa
open Go.RowKit

theorem rises_snoc {l : List Rec} {b : Rec} (h : Rises l) (hb : ∀ x ∈ l, x.1 < b.1) : Rises (l ++ [b]) := fun i j x y hij hx hy => by
  have hj := (List.getElem?_eq_some_iff.1 hy).1
  simp at hj
  have hi : i < l.length := by omega
  rw [List.getElem?_append_left hi] at hx
  by_cases e : j < l.length
  · rw [List.getElem?_append_left e] at hy
    exact h i j x y hij hx hy
  · have e2 : j = l.length := by omega
    subst e2
    simp at hy
    subst hy
    exact hb x (List.mem_of_getElem? hx)
/-- what is known of the page between two rounds -/
structure Full (w : World) (base g : Nat) (i used : Nat) : Prop where
  page : ∃ v l, PageAt w base g v l (used : Int) ∧ Rises l ∧ (∀ x ∈ l, x.1 < i) ∧ l.length ≤ i
  le : used ≤ 512
theorem Full.keep {w w' : World} {base g i used : Nat} (h : Full w base g i used) (hb : Below w.heap.size w w') : Full w' base g i used := by
  obtain ⟨⟨v, l, h1, h2, h3, h4⟩, h5⟩ := h
  exact ⟨⟨v, l, h1.keep hb, h2, h3, h4⟩, h5⟩
theorem Full.next {w : World} {base g i used : Nat} (h : Full w base g i used) : Full w base g (i + 1) used := by
  obtain ⟨⟨v, l, h1, h2, h3, h4⟩, h5⟩ := h
  exact ⟨⟨v, l, h1, h2, fun x hx => by have := h3 x hx; omega, by omega⟩, h5⟩
/-- a record of so many noughts -/
theorem Full.put {w : World} {base g i used : Nat} (h : Full w base g i used) (id k : Nat) (hi : i ≤ id) (hid : i ≤ 1000) (hk : k ≤ 100000) (hb : base ≤ w.heap.size) :
    Calls Try.prog 8 #[.pointer (some ⟨g, 0, none⟩), .int .u64 (id : Int), .string (st (List.replicate k 0))] w fun e w' => Below base w w' ∧ e = .returned (.bool (decide (used + 12 + k ≤ 512))) ∧ (if used + 12 + k ≤ 512 then Full w' base g (id + 1) (used + 12 + k) else Full w' base g i used) := by
  obtain ⟨⟨v, l, h1, h2, h3, h4⟩, h5⟩ := h
  refine (putEnd_c base g v l used (id, List.replicate k 0) w h1 hb h2 (fun x hx => by have := h3 x hx; show x.1 < id; omega) (by omega) h5 (by simp; omega)).mono fun e w' ⟨hb', hr⟩ => ?_
  simp only [List.length_replicate] at hr
  rcases hr with ⟨hf, he, v', hp⟩ | ⟨hf, he, hp⟩
  · rw [if_pos hf, decide_eq_true hf]
    exact ⟨hb', he, ⟨v', _, hp, rises_snoc h2 fun x hx => by have := h3 x hx; show x.1 < id; omega, fun x hx => by
      rcases List.mem_append.1 hx with hx | hx
      · have := h3 x hx; omega
      · rw [List.mem_singleton.1 hx]; show id < id + 1; omega, by simp; omega⟩, hf⟩
  · rw [if_neg hf, decide_eq_false hf]
    exact ⟨hb', he, ⟨v, l, hp, h2, h3, h4⟩, h5⟩
theorem Full.free {w : World} {base g i used : Nat} (h : Full w base g i used) : Calls Try.prog 9 #[.pointer (some ⟨g, 0, none⟩)] w fun e w' => e = .returned (.int .i64 (512 - (used : Int))) ∧ Below w.heap.size w w' := by
  obtain ⟨⟨v, l, h1, h2, h3, h4⟩, h5⟩ := h
  exact free_c base g v l used w h1 (by omega) (by omega)

set_option maxRecDepth 8000 in
set_option maxHeartbeats 8000000 in
theorem pageFull_walk (A : Option Addr) (len cap : Nat) (zs : List Int) (w : World) (hz : Ints w A len zs) : Calls Try.prog 3 #[.slice A len cap] w fun e w' => e = .returned (.bool true) ∧ Below w.heap.size w w' := by
  have c1 := new_c w.heap.size w (Nat.le_refl _)
  have aw := fun w => awake_c w
  have hlm := hz.max
  unfold maxLen at hlm
  go_enter Try.func3, Try.ntmps3
  go_upto_region 2 with ((with_reducible refine c1.mono ?_); rintro e w1 ⟨rfl, hp1, _, hb1⟩)
  have hf1 : Full w1 w.heap.size w.heap.size 0 2 := ⟨⟨_, [], hp1, rises_nil, fun x hx => (by cases hx), Nat.le_refl _⟩, by omega⟩
  clear c1 hp1
  generalize hg : w.heap.size = g at *
  go_wp2_with fail
  go_loopw [4, 5] (fun a4 a5 wr => ∃ i used : Nat, a5 = .int .i64 i ∧ a4 = .int .i64 (512 - (used : Int)) ∧ i ≤ 60 ∧ i ≤ len ∧ Hid (Full wr g g i used) ∧ Below g w wr) (fun _ b _ => 60 - (intOf b).toNat)
  case atStart => exact ⟨0, 2, rfl, rfl, Nat.zero_le _, Nat.zero_le _, hf1, hb1⟩
  case round =>
    obtain ⟨i, used, rfl, rfl, hi, hil, hfr, hbr⟩ := hrel
    have hgs : g ≤ wr.heap.size := by have := hbr.size; rw [hg] at this; exact this
    by_cases hgo : i < len ∧ i < 60
    · obtain ⟨hl1, hl2⟩ := hgo
      have hl1' : (i : Int) < len := by omega
      have hl2' : (i : Int) < 60 := by omega
      obtain ⟨ad, rfl, hal, hac⟩ := hz.at_ i hl1
      have hal' : (ad.add i).block < wr.heap.size := Nat.lt_of_lt_of_le (by rw [hg] at hal; exact hal) hgs
      have hac' : wr.cell? (ad.add i) = some (.int .i64 (zs.getD i 0)) := (hbr.cell (p := ad.add i) (by rw [hg] at hal; exact hal)).trans hac
      generalize zs.getD i 0 = z at *
      obtain ⟨k, hk, hk5⟩ := and511 z
      have hmk := fun w => make_run w k (by omega)
      have hcv := fun w => conv_noughts w 5 k
      have hwi : IntKind.u64.wrap (i : Int) = i := by simp [IntKind.wrap, IntKind.bits, IntKind.signed]; omega
      clear hz hal hac
      have cP := (hfr.out.keep (below_alloc wr (.cells (noughts k) 5))).put i k (Nat.le_refl _) (by omega) (by omega) (Nat.le_trans hgs (below_alloc wr (.cells (noughts k) 5)).size)
      have ba : Below g w (wr.alloc (.cells (noughts k) 5)) := hbr.alloc hgs _
      have w1' : IntKind.i64.wrap ((k : Int) + 12) = (k : Int) + 12 := by rw [IntKind.wrap_i64]; omega
      have w2' : IntKind.i64.wrap ((i : Int) + 1) = (i : Int) + 1 := by rw [IntKind.wrap_i64]; omega
      have hu5 := hfr.out.le
      by_cases hfit : used + 12 + k ≤ 512
      · rw [decide_eq_true hfit] at cP
        simp only [hfit, if_true] at cP
        have f1 : (k : Int) + 12 ≤ 512 - used := by omega
        have w3' : IntKind.i64.wrap (512 - (used : Int) - ((k : Int) + 12)) = 512 - ((used + 12 + k : Nat) : Int) := by rw [IntKind.wrap_i64]; omega
        clear hfr
        go_upto_region 11 with ((with_reducible refine cP.mono ?_); rintro e w2 ⟨hb2, rfl, hf2⟩)
        have cF := hf2.free
        have b2 := ba.trans hb2
        go_wp2_with ((with_reducible refine cF.mono ?_); rintro e w3 ⟨rfl, hb3⟩)
        exact ⟨⟨i + 1, used + 12 + k, rfl, by simp, by omega, hl1, hf2.keep hb3, b2.trans (hb3.mono (by have := b2.size; omega))⟩, by simp [intOf]; omega⟩
      · rw [decide_eq_false hfit] at cP
        simp only [hfit, if_false] at cP
        have f1 : ¬ (k : Int) + 12 ≤ 512 - used := by omega
        clear hfr
        go_upto_region 11 with ((with_reducible refine cP.mono ?_); rintro e w2 ⟨hb2, rfl, hf2⟩)
        have cF := hf2.free
        have b2 := ba.trans hb2
        go_wp2_with ((with_reducible refine cF.mono ?_); rintro e w3 ⟨rfl, hb3⟩)
        exact ⟨⟨i + 1, used, rfl, rfl, by omega, hl1, hf2.next.keep hb3, b2.trans (hb3.mono (by have := b2.size; omega))⟩, by simp [intOf]; omega⟩
    · have hu5 := hfr.out.le
      have aw1 := aw wr
      have w2' : ∀ x : Int, 0 ≤ x → x ≤ 512 → IntKind.i64.wrap (512 - x - 11) = 512 - x - 11 := fun x _ _ => by rw [IntKind.wrap_i64]; omega
      have w3' : ∀ x : Int, 0 ≤ x → x ≤ 512 → IntKind.i64.wrap (512 - x - 12) = 512 - x - 12 := fun x _ _ => by rw [IntKind.wrap_i64]; omega
      have hi1000 : IntKind.u64.wrap 1000 = 1000 := by decide
      by_cases hleft : used ≤ 500
      · have f1 : (12 : Int) ≤ 512 - used := by omega
        obtain ⟨ka, hka⟩ : ∃ ka : Nat, 512 - (used : Int) - 11 = ka := ⟨501 - used, by omega⟩
        obtain ⟨kb, hkb⟩ : ∃ kb : Nat, 512 - (used : Int) - 12 = kb := ⟨500 - used, by omega⟩
        have wa := w2' used (by omega) (by omega)
        have wb := w3' used (by omega) (by omega)
        rw [hka] at wa
        rw [hkb] at wb
        clear w2' w3'
        have mka := fun w => make_run w ka (by omega)
        have mkb := fun w => make_run w kb (by omega)
        have cva := fun w => conv_noughts w 5 ka
        have cvb := fun w => conv_noughts w 5 kb
        have cPa : ∀ w', Below wr.heap.size wr w' → Calls Try.prog 8 #[.pointer (some ⟨g, 0, none⟩), .int .u64 1000, .string (st (List.replicate ka 0))] (w'.alloc (.cells (noughts ka) 5)) fun e w'' => e = .returned (.bool false) ∧ Below g w' w'' ∧ Full w'' g g i used := fun w' hb => by
          have hgw : g ≤ w'.heap.size := Nat.le_trans hgs hb.size
          have := ((hfr.out.keep hb).keep (below_alloc w' (.cells (noughts ka) 5))).put 1000 ka (by omega) (by omega) (by omega) (by simp; omega)
          rw [decide_eq_false (by omega)] at this
          exact this.mono fun e w'' ⟨h1, h2, h3⟩ => ⟨h2, ((below_alloc w' _).mono hgw).trans h1, by rw [if_neg (by omega)] at h3; exact h3⟩
        have cPb : ∀ w', Full w' g g i used → g ≤ w'.heap.size → Calls Try.prog 8 #[.pointer (some ⟨g, 0, none⟩), .int .u64 1000, .string (st (List.replicate kb 0))] (w'.alloc (.cells (noughts kb) 5)) fun e w'' => e = .returned (.bool true) ∧ Below g w' w'' ∧ Full w'' g g 1001 512 := fun w' hf hgw => by
          have := (hf.keep (below_alloc w' (.cells (noughts kb) 5))).put 1000 kb (by omega) (by omega) (by omega) (by simp; omega)
          rw [decide_eq_true (by omega)] at this
          exact this.mono fun e w'' ⟨h1, h2, h3⟩ => ⟨h2, ((below_alloc w' _).mono hgw).trans h1, by rw [if_pos (by omega), show used + 12 + kb = 512 by omega] at h3; exact h3⟩
        have hka' := Lib.hid hka
        have hkb' := Lib.hid hkb
        by_cases hq : i < len
        · have hex1 : (i : Int) < len := by omega
          have hex2 : ¬ (i : Int) < 60 := by omega
          clear hfr hgo
          go_wp2_with (first | ((with_reducible refine aw1.mono ?_); rintro e w2 ⟨rfl, hb2⟩; have hgw2 := Nat.le_trans hgs hb2.size) | ((with_reducible refine (cPa _ hb2).mono ?_); rintro e w3 ⟨rfl, hb3, hf3⟩; have hgw3 := Nat.le_trans hgw2 hb3.size) | ((with_reducible refine (cPb _ hf3 hgw3).mono ?_); rintro e w4 ⟨rfl, hb4, hf4⟩) | ((with_reducible refine hf4.free.mono ?_); rintro e w5 ⟨rfl, hb5⟩))
          go_ret
          exact ⟨rfl, by rw [hg]; exact (((hbr.trans (hb2.mono hgs)).trans hb3).trans hb4).trans (hb5.mono (Nat.le_trans hgw3 hb4.size))⟩
        · have hex1 : ¬ (i : Int) < len := by omega
          clear hfr hgo
          go_wp2_with (first | ((with_reducible refine aw1.mono ?_); rintro e w2 ⟨rfl, hb2⟩; have hgw2 := Nat.le_trans hgs hb2.size) | ((with_reducible refine (cPa _ hb2).mono ?_); rintro e w3 ⟨rfl, hb3, hf3⟩; have hgw3 := Nat.le_trans hgw2 hb3.size) | ((with_reducible refine (cPb _ hf3 hgw3).mono ?_); rintro e w4 ⟨rfl, hb4, hf4⟩) | ((with_reducible refine hf4.free.mono ?_); rintro e w5 ⟨rfl, hb5⟩))
          go_ret
          exact ⟨rfl, by rw [hg]; exact (((hbr.trans (hb2.mono hgs)).trans hb3).trans hb4).trans (hb5.mono (Nat.le_trans hgw3 hb4.size))⟩
      · have f1 : ¬ (12 : Int) ≤ 512 - used := by omega
        have cP0 : ∀ w', Below wr.heap.size wr w' → Calls Try.prog 8 #[.pointer (some ⟨g, 0, none⟩), .int .u64 1000, .string ⟨#[]⟩] w' fun e w'' => e = .returned (.bool false) ∧ Below g w' w'' := fun w' hb => by
          have := (hfr.out.keep hb).put 1000 0 (by omega) (by omega) (by omega) (Nat.le_trans hgs hb.size)
          rw [decide_eq_false (by omega)] at this
          exact this.mono fun e w'' ⟨h1, h2, h3⟩ => ⟨h2, h1⟩
        clear w2' w3'
        by_cases hq : i < len
        · have hex1 : (i : Int) < len := by omega
          have hex2 : ¬ (i : Int) < 60 := by omega
          clear hfr hgo
          go_wp2_with (first | ((with_reducible refine aw1.mono ?_); rintro e w2 ⟨rfl, hb2⟩; have hgw2 := Nat.le_trans hgs hb2.size) | ((with_reducible refine (cP0 _ hb2).mono ?_); rintro e w3 ⟨rfl, hb3⟩))
          go_ret
          exact ⟨rfl, by rw [hg]; exact (hbr.trans (hb2.mono hgs)).trans hb3⟩
        · have hex1 : ¬ (i : Int) < len := by omega
          clear hfr hgo
          go_wp2_with (first | ((with_reducible refine aw1.mono ?_); rintro e w2 ⟨rfl, hb2⟩; have hgw2 := Nat.le_trans hgs hb2.size) | ((with_reducible refine (cP0 _ hb2).mono ?_); rintro e w3 ⟨rfl, hb3⟩))
          go_ret
          exact ⟨rfl, by rw [hg]; exact (hbr.trans (hb2.mono hgs)).trans hb3⟩
end Go.Proofs.Ytgcoepljlkahoaa
