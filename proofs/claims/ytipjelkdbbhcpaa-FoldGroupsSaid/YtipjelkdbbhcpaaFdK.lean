
/-
  The folds' laws' cut.
-/
import Derived.Test.YtipjelkdbbhcpaaFdW
import Derived.Test.YtipjelkdbbhcpaaWgh
set_option linter.unusedSimpArgs false
set_option linter.unusedVariables false
namespace Go.Proofs.Ytipjelkdbbhcpaa
open Go.RowKit Go.Deep

theorem info_parts {P : Program} {e : TypeId} {z : Value} {s b : Nat} (h : (P.info? e).map (fun i => (i.zero, i.size, i.bytes)) = some (some z, s, b)) : ∃ i, P.info? e = some i ∧ i.zero = some z ∧ i.size = s ∧ i.bytes = b := by
  obtain ⟨i, hi, h2⟩ := Option.map_eq_some_iff.1 h
  simp only [Prod.mk.injEq] at h2
  exact ⟨i, hi, h2.1, h2.2.1, h2.2.2⟩
theorem own_below2 {w w' : World} {base : Nat} {e : TypeId} {size : Nat} {v : Value} {n : Nat} {xs : List Value} (h : w.ownsRow base e size v n xs) (hb : Below w.heap.size w w') : w'.ownsRow base e size v n xs := by
  refine ⟨h.1, ?_⟩
  rcases h.2 with h | ⟨g, cap, cur, hv, hbg, hc, hr⟩
  · exact .inl h
  · exact .inr ⟨g, cap, cur, hv, hbg, (hb.block g (Array.getElem?_eq_some_iff.1 hc).1).trans hc, hr⟩
def CutEnds (w : World) (e : Ending) (w' : World) : Prop := ∃ A cap ys, e = .returned (.slice A (List.length ys) cap) ∧ Parts w' A ys ∧ ys.length ≤ cap ∧ cap ≤ maxLen ∧ ys.length ≤ 20 ∧ (∀ y ∈ ys, wsz y ≤ 50) ∧ Below w.heap.size w w'
set_option maxRecDepth 8000 in
set_option maxHeartbeats 4000000 in
theorem cut_c (A : Option Addr) (cap : Nat) (l : List Val) (w : World) (hx : Parts w A l) (hl : l.length ≤ cap) (hcap : cap ≤ maxLen) :
    Calls Try.prog 9 #[.slice A l.length cap] w (CutEnds w) := by
  obtain ⟨i0, hi0, hz0, hz1, hz2⟩ := info_parts Try.info27
  have hm := Nat.le_trans hl hcap
  unfold maxLen at hm
  clear hl hcap
  obtain ⟨w3, hw3⟩ : ∃ w3, w3 = w.alloc (.cells #[] 27) := ⟨_, rfl⟩
  have own3 : w3.ownsRow w.heap.size 27 6 (.slice (some ⟨w.heap.size, 0, none⟩) 0 0) 0 [] := hw3 ▸ owns_empty6 w _ _ (Nat.le_refl _)
  have bel3 : Below w.heap.size w w3 := hw3 ▸ below_alloc w _
  have hwa : w.alloc (.cells #[] 27) = w3 := hw3.symm
  clear hw3
  go_enter Try.func9, Try.ntmps9
  go_upto_region 2 with fail
  clear hwa
  go_wp2_with fail
  go_loopw [3, 4] (fun a3 a4 wr => ∃ (i : Nat) (ys : List Val) (xs : List Value), a4 = .int .i64 i ∧ i ≤ l.length ∧ i ≤ 20 ∧ ys.length ≤ i ∧ Hid (∀ y ∈ ys, wsz y ≤ 50) ∧ wr.ownsRow w.heap.size 27 6 a3 ys.length xs ∧ VRow w ys xs ∧ Below w.heap.size w wr) (fun _ a _ => l.length - (intOf a).toNat)
  case atStart => exact ⟨0, [], [], rfl, Nat.zero_le _, Nat.zero_le _, Nat.zero_le _, (show Hid (∀ y ∈ ([] : List Val), wsz y ≤ 50) from fun y h => by cases h), own3, VRow.nil _, bel3⟩
  case round =>
    clear own3 bel3
    obtain ⟨i, ys, xs, rfl, hi, hi20, hyl, hsm, hown, hrow, hbr⟩ := hrel
    have fin : ∀ u, wr.ownsRow w.heap.size 27 6 u ys.length xs → CutEnds w (.returned u) wr := fun u ho => by
      obtain ⟨A', cap', h1, h2, h3, h4⟩ := Parts.ofRow ho (hrow.keep hbr)
      exact ⟨A', cap', ys, by rw [h1], h2, h3, h4, by omega, hsm, hbr⟩
    have fin2 := fin _ hown
    clear fin
    by_cases hil : i < l.length
    · have hil' : (i : Int) < l.length := by omega
      by_cases h20 : i < 20
      · have h20' : (i : Int) < 20 := by omega
        obtain ⟨ad, k, b, n, f, s, B, len, c, rfl, hv, hat⟩ := hx i l[i] (by simp)
        obtain ⟨q6, q0, q1, q2, q3, q4, q5⟩ := hat.keep hbr
        have wi : IntKind.i64.wrap ((i : Int) + 1) = (i : Int) + 1 := by rw [wrap_i64]; omega
        have ch : Calls Try.prog 30 #[valV k b n f s B len c, .int .i64 50] wr (WeighN l[i] 50 wr) := weighN_c l[i] _ wr 50 (hv.keep hbr) (by omega)
        generalize l[i] = x at *
        obtain ⟨m, hm2⟩ : ∃ m, m = min (wsz x) (50 + 1) := ⟨_, rfl⟩
        unfold WeighN at ch
        rw [← hm2] at ch
        have hM := Lib.hid hm2
        clear hm2 hx hat fin2
        by_cases hle : m ≤ 50
        · have hle' : (m : Int) ≤ 50 := by omega
          have hQ : ∀ p : In wr, ValAt p.w (ad.add (i * 6)) k b n f s B len c := fun p => ValAt.keep ⟨q6, q0, q1, q2, q3, q4, q5⟩ p.h
          go_upto_region 6 with ((with_reducible refine ch.mono ?_); rintro e w4 ⟨rfl, hb4⟩; (first | ((with_reducible obtain ⟨p, hw''⟩ := In.of2 p hb4); subst hw'') | (obtain ⟨p, hw''⟩ := In.of hb4; subst hw'')))
          obtain ⟨s6, s0, s1, s2, s3, s4, s5⟩ := hQ p
          have hown2 := own_below2 hown p.h
          have hb' := hbr.trans (p.h.mono hbr.size)
          clear q0 q1 q2 q3 q4 q5 q6 hQ ch hown
          generalize p.w = w5 at *
          clear p
          go_wp2_with (at_builtin; refine wpList_append_own _ rfl _ _ 22 rfl w.heap.size 27 i0 (.agg #[.int .i64 0, .bool false, .int .i64 0, .float .f64 0, .string ByteArray.empty, .slice none 0 0]) 6 72 Try.underlying22 hi0 hz0 hz1 hz2 rfl (by decide) _ _ _ rfl (hown2.alloc _) ⟨w5.heap.size, 0, none⟩ 1 1 (valC k b n f s B len c) rfl rfl ?d1 ?d2 ?d3 ?d4 ?d5 ?_)
          case d1 =>
            intro j u hj
            match j, hj with
            | 0, hj => simp at hj; subst hj; simp [Addr.add, go_sem]
            | 1, hj => simp at hj; subst hj; simp [Addr.add, go_sem]
            | 2, hj => simp at hj; subst hj; simp [Addr.add, go_sem]
            | 3, hj => simp at hj; subst hj; simp [Addr.add, go_sem]
            | 4, hj => simp at hj; subst hj; simp [Addr.add, go_sem]
            | 5, hj => simp at hj; subst hj; simp [Addr.add, go_sem]
          case d2 => intro u hu; simp only [List.mem_cons, List.not_mem_nil, or_false] at hu; rcases hu with rfl | rfl | rfl | rfl | rfl | rfl <;> rfl
          case d3 => unfold maxLen; omega
          case d4 => omega
          case d5 => have := hb'.size; simp; omega
          intro v' w6 hown6 hgrow _
          have bel6 : Below w.heap.size w w6 := (hb'.alloc hb'.size _).grown hgrow (by have := hb'.size; simp; omega) fun k hk => (hown2.lt k hk).1
          clear hgrow hown2
          go_wp2_with fail
          refine ⟨⟨i + 1, ys ++ [x], _, rfl, hil, by omega, by simp; omega, ?_, by simpa using hown6, hrow.snoc hv, bel6⟩, by simp [intOf]; omega⟩
          intro y hy
          rcases List.mem_append.1 hy with h | h
          · exact hsm.out y h
          · rw [List.mem_singleton.1 h]
            have := hM.out
            omega
        · have hle' : ¬ (m : Int) ≤ 50 := by omega
          go_wp2_with ((with_reducible refine ch.mono ?_); rintro e w4 ⟨rfl, hb4⟩)
          exact ⟨⟨i + 1, ys, xs, rfl, hil, by omega, by omega, hsm, own_below2 hown hb4, hrow, hbr.trans (hb4.mono hbr.size)⟩, by simp [intOf]; omega⟩
      · have h20' : ¬ (i : Int) < 20 := by omega
        clear hx hown
        go_wp2_with fail
        go_ret
        exact fin2
    · have hil' : ¬ (i : Int) < l.length := by omega
      clear hx hown
      go_wp2_with fail
      go_ret
      exact fin2
end Go.Proofs.Ytipjelkdbbhcpaa
