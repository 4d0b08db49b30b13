
/-
  Pages: the reference's Used, the law's same, All.
-/
import Derived.Test.YtgcoepljlkahoaaPgD
import Derived.Test.YtgcoepljlkahoaaApp
set_option linter.unusedSimpArgs false
set_option linter.unusedVariables false
namespace Go.Proofs.Ytgcoepljlkahoaa
open Go.RowKit

theorem used_take {l : List Rec} {i : Nat} {b : Rec} (h : l[i]? = some b) : usedN (l.take (i + 1)) = usedN (l.take i) + 12 + b.2.length ∧ sumL (l.take (i + 1)) = sumL (l.take i) + b.2.length := by
  obtain ⟨hi, rfl⟩ := List.getElem?_eq_some_iff.1 h
  have e : sumL (l.take (i + 1)) = sumL (l.take i) + l[i].2.length := by
    rw [List.take_succ_eq_append_getElem hi]
    simp only [sumL, List.map_append, List.map_cons, List.map_nil, List.sum_append, List.sum_cons, List.sum_nil]
    omega
  refine ⟨?_, e⟩
  unfold usedN
  rw [e, List.length_take, List.length_take]
  omega
set_option maxRecDepth 8000 in
theorem used_c (A : Option Addr) (cap : Nat) (l : List Rec) (w : World) (hp : BodiesAt w A l) (hl : l.length ≤ 1000) (hs : sumL l ≤ 1000000) :
    Calls Try.prog 19 #[.slice A l.length cap] w fun e w' => e = .returned (.int .i64 (usedN l : Int)) ∧ Below w.heap.size w w' := by
  go_enter Try.func19, Try.ntmps19
  go_wp2_with fail
  go_loop [3, 4] (fun a3 a4 => ∃ i : Nat, a4 = .int .i64 i ∧ a3 = .int .i64 (usedN (l.take i) : Int) ∧ i ≤ l.length) (fun _ a => l.length - (intOf a).toNat)
  case atStart => exact ⟨0, rfl, rfl, Nat.zero_le _⟩
  case round =>
    obtain ⟨i, rfl, rfl, hi⟩ := hrel
    by_cases hil : i < l.length
    · have hil' : (i : Int) < l.length := by omega
      have hget : l[i]? = some l[i] := by simp
      obtain ⟨hu1, hu2⟩ := used_take hget
      have hsum := sumL_take_le l (i + 1)
      obtain ⟨ad, rfl, hB⟩ := hp i l[i] hget
      obtain ⟨q6, q0, q1⟩ := hB
      have hlen : usedN (l.take i) ≤ 12002 + sumL (l.take i) := by unfold usedN; rw [List.length_take]; omega
      generalize l[i] = x at *
      have w1 : IntKind.i64.wrap (12 + (x.2.length : Int)) = 12 + x.2.length := by rw [IntKind.wrap_i64]; omega
      have w2 : IntKind.i64.wrap ((usedN (l.take i) : Int) + (12 + x.2.length)) = usedN (l.take i) + (12 + x.2.length) := by rw [IntKind.wrap_i64]; omega
      have w3 : IntKind.i64.wrap ((i : Int) + 1) = (i : Int) + 1 := by rw [IntKind.wrap_i64]; omega
      have hu1 := Lib.hid hu1
      clear hget hu2 hsum hlen hp
      go_wp2_with fail
      exact ⟨⟨i + 1, rfl, by rw [hu1.out]; simp; omega, hil⟩, by simp [intOf]; omega⟩
    · have e : i = l.length := by omega
      subst e
      have hil' : ¬ (l.length : Int) < l.length := by omega
      rw [List.take_length]
      go_wp2_with fail
      go_ret
      exact ⟨rfl, Below.refl _ _⟩
set_option maxRecDepth 8000 in
theorem same_c (A B : Option Addr) (capA capB : Nat) (l : List Rec) (w : World) (ha : BodiesAt w A l) (hb : BodiesAt w B l) (hl : l.length ≤ 1000) :
    Calls Try.prog 13 #[.slice A l.length capA, .slice B l.length capB] w fun e w' => e = .returned (.bool true) ∧ Below w.heap.size w w' := by
  go_enter Try.func13, Try.ntmps13
  go_wp2_with fail
  go_loopw [5] (fun a5 wr => ∃ i : Nat, a5 = .int .i64 i ∧ i ≤ l.length ∧ Below w.heap.size w wr) (fun a _ => l.length - (intOf a).toNat)
  case atStart => exact ⟨0, rfl, Nat.zero_le _, Below.refl _ _⟩
  case round =>
    obtain ⟨i, rfl, hi, hbr⟩ := hrel
    by_cases hil : i < l.length
    · have hil' : (i : Int) < l.length := by omega
      have hget : l[i]? = some l[i] := by simp
      obtain ⟨ad, rfl, hB⟩ := ha i l[i] hget
      obtain ⟨ad2, rfl, hB2⟩ := hb i l[i] hget
      obtain ⟨q6, q0, q1⟩ := hB.keep hbr
      obtain ⟨r6, r0, r1⟩ := hB2.keep hbr
      generalize l[i] = x at *
      have w3 : IntKind.i64.wrap ((i : Int) + 1) = (i : Int) + 1 := by rw [IntKind.wrap_i64]; omega
      clear hget ha hb hB hB2
      go_upto_region 6 with fail
      (refine wp_region_flow [] (by kernel_rfl) (by kernel_rfl) ?_; (repeat (((with_reducible refine wpFlow_steps ?_); intro K hK; go_simp; first | (with_reducible refine hK _ ?_; clear hK K) | (apply Exists.intro; (with_reducible refine ⟨fun _ => ⟨?_, _, rfl⟩, hK _ ?_⟩); (· exact rfl); clear hK K) | (apply Exists.intro; (with_reducible refine ⟨fun _ => ⟨_, rfl⟩, hK _ ?_⟩); clear hK K) | (apply Exists.intro; (with_reducible refine ⟨fun _ => ?_, hK _ ?_⟩); (· (with_reducible (fail))); clear hK K)))); (refine wpFlow_nil ?_; rintro w1 ⟨q0, hq0⟩; have hb := In.h q0; rw [← hq0] at hb; clear hq0 q0; (first | ((with_reducible obtain ⟨p, hw''⟩ := In.of2 p hb); subst hw'') | (obtain ⟨p, hw''⟩ := In.of hb; subst hw'')); go_simp; intros))
      have hbz := hbr.trans (p.h.mono hbr.size)
      go_wp2_with fail
      exact ⟨⟨i + 1, rfl, hil, hbz⟩, by simp [intOf]; omega⟩
    · have hil' : ¬ (i : Int) < l.length := by omega
      go_wp2_with fail
      go_ret
      exact ⟨rfl, hbr⟩
/-- records as a row's cells -/
theorem BodiesAt.ofOwn {w : World} {base n : Nat} {v : Value} {l : List Rec} (h : w.ownsRow base 53 2 v n (flat l)) (hn : n = l.length) : ∃ A cap, v = .slice A l.length cap ∧ BodiesAt w A l ∧ l.length ≤ cap := by
  subst hn
  rcases h.2 with ⟨hv, hn⟩ | ⟨gb, cap, cur, hv, hbg, hc, hnc, hr⟩
  · refine ⟨none, 0, by rw [hv, hn], fun i b hi => ?_, by omega⟩
    rw [List.getElem?_eq_none (by omega)] at hi
    cases hi
  · subst hv
    refine ⟨some ⟨gb, 0, none⟩, cap, rfl, fun i b hi => ⟨_, rfl, ?_⟩, hnc⟩
    have hil := (List.getElem?_eq_some_iff.1 hi).1
    have hfl := flat_len l
    obtain ⟨h0, h1⟩ := flat_get hi
    have e : (⟨gb, 0, none⟩ : Addr).add (i * 2) = ⟨gb, i * 2, none⟩ := by simp [Addr.add]; intro h; exact h.symm
    rw [e]
    exact ⟨(Array.getElem?_eq_some_iff.1 hc).1, by rw [h.cellAt _ (by omega)]; exact h0, by rw [h.cellAt _ (by show i * 2 + 1 < _; omega)]; exact h1⟩
theorem flat_one (l : List Rec) : ∀ u ∈ flat l, u.oneCell' = true := by
  induction l with
  | nil => intro u hu; cases hu
  | cons x l ih =>
    intro u hu
    simp only [flat, List.mem_cons] at hu
    rcases hu with rfl | rfl | hu
    · rfl
    · rfl
    · exact ih u hu
theorem bodyK_info : ∃ i, Try.prog.info? 53 = some i ∧ i.zero = some (.agg #[.int .u64 0, .string ByteArray.empty]) ∧ i.size = 2 ∧ i.bytes = 24 := info_parts body_info
def BodiesEnds (l : List Rec) (w : World) (e : Ending) (w' : World) : Prop := ∃ A cap, e = .returned (.slice A l.length cap) ∧ BodiesAt w' A l ∧ Below w.heap.size w w'
set_option maxRecDepth 8000 in
theorem cloneB_c (base : Nat) (v : Value) (l : List Rec) (w : World) (ho : w.ownsRow base 53 2 v l.length (flat l)) (hl : l.length ≤ 100000) :
    Calls Try.prog 26 #[v] w (BodiesEnds l w) := by
  obtain ⟨i0, hi0, hz0, hz1, hz2⟩ := bodyK_info
  unfold BodiesEnds
  rcases ho.2 with ⟨hv, hn⟩ | ⟨gb, cap, cur, hv, hbg, hc, hnc, hr⟩
  · have hl0 : l = [] := List.eq_nil_of_length_eq_zero hn
    subst hl0 hv
    have heq := fun w => Lib.run_eql_slice_nil (P := Try.prog) w 34 53 none 0 0 0 0 Try.underlying34
    go_enter Try.func26, Try.ntmps26
    go_wp2_with fail
    go_ret
    exact ⟨none, 0, rfl, fun i b hi => by simp at hi, Below.refl _ _⟩
  · subst hv
    have heq := fun w => Lib.run_eql_slice_nil (P := Try.prog) w 34 53 (some ⟨gb, 0, none⟩) l.length cap 0 0 Try.underlying34
    have hgl := (ho.lt gb rfl).2
    have hcells : ∀ ad, (some (⟨gb, 0, none⟩ : Addr)) = some ad → ∀ j u, (flat l)[j]? = some u → (w.alloc (.cells #[] 53)).cell? (ad.add j) = some u := fun ad had j u hu => by
      cases had
      exact ((below_alloc w _).cell (p := (⟨gb, 0, none⟩ : Addr).add j) (by unfold Addr.add; split <;> exact hgl)).trans (ho.cells (g := gb) rfl j u hu)
    have hcells := Lib.hid hcells
    have hfl := Lib.hid (flat_len l)
    have hone := Lib.hid (flat_one l)
    clear ho hc hr hbg
    go_enter Try.func26, Try.ntmps26
    go_wp2_with (at_builtin; refine wpList_append_fresh _ rfl _ _ 34 rfl 53 i0 (.agg #[.int .u64 0, .string ByteArray.empty]) 2 24 Try.underlying34 hi0 hz0 hz1 hz2 rfl (by decide) w.heap.size rfl 53 rfl (alloc_here _ _) w.heap.size (Nat.le_refl _) (some ⟨gb, 0, none⟩) l.length cap (flat l) rfl (fun h => by cases h) hfl.out hcells.out hone.out (by unfold maxLen; omega) (by omega) ?_)
    intro v9 w9 hown9 hb9
    have hb := (below_alloc w (.cells #[] 53)).trans (hb9.mono (Nat.le_succ _))
    obtain ⟨A9, c9, rfl, hB9, _⟩ := BodiesAt.ofOwn hown9 rfl
    clear hown9 hb9
    go_wp2_with fail
    go_ret
    exact ⟨A9, c9, rfl, hB9, hb⟩
set_option maxRecDepth 8000 in
theorem all_c (base g : Nat) (v : Value) (l : List Rec) (used : Int) (w : World) (hp : PageAt w base g v l used) (hl : l.length ≤ 100000) : Calls Try.prog 14 #[.pointer (some ⟨g, 0, none⟩)] w (BodiesEnds l w) := by
  have c0 : w.cell? ⟨g, 0, none⟩ = some v := cell_of hp.blk 0
  have hlt := (Array.getElem?_eq_some_iff.1 hp.blk).1
  have cc := cloneB_c base v l w hp.row hl
  obtain ⟨A, cap, rfl, _⟩ := hp.parts
  clear hp
  unfold BodiesEnds at *
  go_enter Try.func14, Try.ntmps14
  go_wp2_with ((with_reducible refine cc.mono ?_); rintro e w2 ⟨A2, cap2, rfl, hB, hb2⟩)
  go_ret
  exact ⟨A2, cap2, rfl, hB, hb2⟩
end Go.Proofs.Ytgcoepljlkahoaa
