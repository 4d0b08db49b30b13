
/-
  The traversers' laws' cut.
-/
import Derived.Test.YtfccplkfdhpdgaaTrvB
import Derived.Deep.DeepCutAuto
import Derived.Deep.CutBlock
set_option linter.unusedSimpArgs false
set_option linter.unusedVariables false
namespace Go.Proofs.Ytfccplkfdhpdgaa
open Go.RowKit

theorem Try.info34 : (Try.prog.info? 34).map (fun i => (i.zero, i.size, i.bytes)) = some (some (.agg #[.int .i64 0, .bool false, .int .i64 0, .float .f64 0, .string ByteArray.empty, .slice none 0 0, .slice none 0 0, .slice none 0 0, .int .i64 0]), 9, 128) := by kernel_rfl
/-- a traverser that is not too great -/
structure Small (t : TravD) : Prop where
  path : t.path.length ≤ 4
  tags : t.tags.length ≤ 4
  lo : 1 ≤ t.bulk
  hi : t.bulk ≤ 4
abbrev travC (k : Int) (b : Bool) (n : Int) (f : Nat) (s : List UInt8) (B : Option Addr) (len c : Nat) (P : Option Addr) (pl pc : Nat) (T : Option Addr) (tl tc : Nat) (q : Int) : List Value :=
  [.int .i64 k, .bool b, .int .i64 n, .float .f64 f, .string (st s), .slice B len c, .slice P pl pc, .slice T tl tc, .int .i64 q]
/-- the cells of a row of traversers -/
def TRow (w : World) (ys : List TravD) (xs : List Value) : Prop := xs.length = ys.length * 9 ∧ ∀ (i : Nat) (t : TravD), ys[i]? = some t → ∃ k b n f s B len c P pl pc T tl tc q, HasT w k b n f s B len c P pl pc T tl tc q t ∧ ∀ j u, (travC k b n f s B len c P pl pc T tl tc q)[j]? = some u → xs[i * 9 + j]? = some u
theorem TRow.keep {w w' : World} {ys : List TravD} {xs : List Value} (h : TRow w ys xs) (hb : Below w.heap.size w w') : TRow w' ys xs := ⟨h.1, fun i t hi => by
  obtain ⟨k, b, n, f, s, B, len, c, P, pl, pc, T, tl, tc, q, h1, h2⟩ := h.2 i t hi
  exact ⟨k, b, n, f, s, B, len, c, P, pl, pc, T, tl, tc, q, h1.keep hb, h2⟩⟩
theorem TRow.nil (w : World) : TRow w [] [] := ⟨rfl, fun i t h => by simp at h⟩
theorem TRow.snoc {w : World} {ys : List TravD} {xs : List Value} (h : TRow w ys xs) {k : Int} {b : Bool} {n : Int} {f : Nat} {s : List UInt8} {B : Option Addr} {len c : Nat} {P : Option Addr} {pl pc : Nat} {T : Option Addr} {tl tc : Nat} {q : Int} {t : TravD} (ht : HasT w k b n f s B len c P pl pc T tl tc q t) :
    TRow w (ys ++ [t]) (xs ++ travC k b n f s B len c P pl pc T tl tc q) := by
  refine ⟨by rw [List.length_append, List.length_append, h.1]; simp; omega, fun i t' hi => ?_⟩
  by_cases hl : i < ys.length
  · rw [List.getElem?_append_left hl] at hi
    obtain ⟨k, b, n, f, s, B, len, c, P, pl, pc, T, tl, tc, q, h1, h2⟩ := h.2 i t' hi
    refine ⟨k, b, n, f, s, B, len, c, P, pl, pc, T, tl, tc, q, h1, fun j u hu => ?_⟩
    have h3 := h2 j u hu
    rw [List.getElem?_append_left (List.getElem?_eq_some_iff.1 h3).1]
    exact h3
  · have hl2 : i = ys.length := by
      have := (List.getElem?_eq_some_iff.1 hi).1
      simp at this; omega
    subst hl2
    simp at hi
    subst hi
    refine ⟨k, b, n, f, s, B, len, c, P, pl, pc, T, tl, tc, q, ht, fun j u hu => ?_⟩
    rw [List.getElem?_append_right (by rw [h.1]; omega), h.1, show ys.length * 9 + j - ys.length * 9 = j by omega]
    exact hu
def CutEnds (w : World) (e : Ending) (w' : World) : Prop := ∃ v ys xs, e = .returned v ∧ w'.ownsRow w.heap.size 34 9 v (List.length ys) xs ∧ ys.length ≤ 12 ∧ (∀ t ∈ ys, Small t) ∧ TRow w' ys xs ∧ Below w.heap.size w w'
theorem owns_empty9 (w : World) (T : TypeId) (base : Nat) (hb : base ≤ w.heap.size) : (w.alloc (.cells #[] T)).ownsRow base T 9 (.slice (some ⟨w.heap.size, 0, none⟩) 0 0) 0 [] :=
  ⟨rfl, .inr ⟨w.heap.size, 0, #[], rfl, hb, by show (w.heap.push _)[w.heap.size]? = _; simp, Nat.le_refl _, by unfold maxLen; omega, rfl, rfl⟩⟩

theorem and3' (n : Int) : ∃ j : Nat, bits .and .i64 n 3 = (j : Int) ∧ j < 4 := by
  have e : bits .and .i64 n 3 = IntKind.i64.wrap ((BitVec.ofInt 64 n &&& BitVec.ofInt 64 3).toNat : Int) := rfl
  have h3 : (BitVec.ofInt 64 n &&& BitVec.ofInt 64 3).toNat < 4 := by
    rw [BitVec.toNat_and]
    exact Nat.lt_of_le_of_lt Nat.and_le_right (by decide)
  exact ⟨_, e.trans (by rw [wrap_i64]; omega), h3⟩

theorem Parts.take {w : World} {P : Option Addr} {l : List Val} (h : Parts w P l) (n : Nat) : Parts w P (l.take n) := fun i x hx => by
  rw [List.getElem?_take] at hx
  split at hx
  · exact h i x hx
  · cases hx
theorem Tags.take {w : World} {P : Option Addr} {l : List (List UInt8 × Val)} (h : Tags w P l) (n : Nat) : Tags w P (l.take n) := fun i x hx => by
  rw [List.getElem?_take] at hx
  split at hx
  · exact h i x hx
  · cases hx
theorem own_below {w w' : World} {base : Nat} {e : TypeId} {size : Nat} {v : Value} {n : Nat} {xs : List Value} (h : w.ownsRow base e size v n xs) (hb : Below w.heap.size w w') : w'.ownsRow base e size v n xs := by
  refine ⟨h.1, ?_⟩
  rcases h.2 with h | ⟨g, cap, cur, hv, hbg, hc, hr⟩
  · exact .inl h
  · exact .inr ⟨g, cap, cur, hv, hbg, (hb.block g (Array.getElem?_eq_some_iff.1 hc).1).trans hc, hr⟩

theorem heavy100_c (x : Val) (u : Value) (w : World) (h : Has w u x) : Calls Try.prog 18 #[u, .int .i64 100] w fun e w' => ∃ r : Nat, e = .returned (.int .i64 r) ∧ Below w.heap.size w w' :=
  (weigh_c x u w 100 h (by omega)).mono fun e w' ⟨r, h1, _, _, _, h2⟩ => ⟨r, h1, h2⟩

set_option maxRecDepth 8000 in
set_option maxHeartbeats 4000000 in
theorem cut_c (A : Option Addr) (cap : Nat) (ts : List TravD) (w : World) (hx : TParts w A ts) (hl : ts.length ≤ cap) (hcap : cap ≤ maxLen) :
    Calls Try.prog 9 #[.slice A ts.length cap] w (CutEnds w) := by
  unfold maxLen at hcap
  obtain ⟨i0, hi0, hz0, hz1, hz2⟩ := info_parts Try.info34
  go_enter Try.func9, Try.ntmps9
  go_upto_block 0 with fail
  obtain ⟨w3, hw3⟩ : ∃ w3, w3 = w.alloc (.cells #[] 34) := ⟨_, rfl⟩
  have own3 : w3.ownsRow w.heap.size 34 9 (.slice (some ⟨w.heap.size, 0, none⟩) 0 0) 0 [] := hw3 ▸ owns_empty9 w _ _ (Nat.le_refl _)
  have bel3 : Below w.heap.size w w3 := hw3 ▸ below_alloc w _
  rw [← hw3]
  clear hw3
  go_wp2_with fail
  go_loopw [3, 4] (fun a3 a4 wr => ∃ (i : Nat) (ys : List TravD) (xs : List Value), a4 = .int .i64 i ∧ i ≤ ts.length ∧ i ≤ 12 ∧ ys.length = i ∧ wr.ownsRow w.heap.size 34 9 a3 i xs ∧ TRow w ys xs ∧ (∀ t ∈ ys, Small t) ∧ Below w.heap.size w wr) (fun _ a _ => ts.length - (intOf a).toNat)
  case atStart => exact ⟨0, [], [], rfl, Nat.zero_le _, Nat.zero_le _, rfl, own3, TRow.nil _, (fun t h => by cases h), bel3⟩
  case round =>
    obtain ⟨i, ys, xs, rfl, hi, hi12, hys, hown, hrow, hsmall, hbr⟩ := hrel
    have hd : (i < ts.length ∧ i < 12) ∨ (¬ (i : Int) < ts.length) ∨ ((i : Int) < ts.length ∧ ¬ (i : Int) < 12) := by omega
    rcases hd with ⟨hil, h12⟩ | hex
    · have hil' : (i : Int) < ts.length := by omega
      have h12' : (i : Int) < 12 := by omega
      obtain ⟨ad, k, b, n, f, s, B, len, c, P, pl, pc, T, tl, tc, q, rfl, ht, hat⟩ := hx i ts[i] (by simp)
      have htr := ht
      obtain ⟨q9, q0, q1, q2, q3, q4, q5, q6, q7, q8⟩ := hat.keep hbr
      have hpc := htr.hpc
      have htc := htr.htc
      have hepl := htr.epl
      have hetl := htr.etl
      have hpm := htr.hpm
      have htm := htr.htm
      unfold maxLen at hpm htm
      have hplc : pl ≤ pc := by omega
      have htlc : tl ≤ tc := by omega
      have hH := Lib.hid (And.intro hepl hetl)
      clear hepl hetl hat ht hpc htc
      generalize ts[i] = t at *
      go_upto_if 26 with fail
      go_cut [] (fun wx => ∃ pl' : Nat, Hid (pl' = min pl 4) ∧ wx = wr.alloc (.cells #[.int .i64 k, .bool b, .int .i64 n, .float .f64 f, .string (st s), .slice B len c, .slice P pl' pc, .slice T tl tc, .int .i64 q] 34))
      case first =>
        by_cases h4 : 4 < pl
        · have h4' : (4 : Int) < pl := by omega
          have h4c : (4 : Int) ≤ pc := by omega
          go_wp2_with fail
          ((with_reducible show Met _ _ _); refine Met.intro ?_; go_step; (repeat' apply Exists.intro); refine ⟨?_, rfl⟩)
          exact ⟨4, by show _ = _; omega, rfl⟩
        · have h4' : ¬ (4 : Int) < pl := by omega
          go_wp2_with fail
          ((with_reducible show Met _ _ _); refine Met.intro ?_; go_step; (repeat' apply Exists.intro); refine ⟨?_, rfl⟩)
          exact ⟨pl, by show _ = _; omega, rfl⟩
      case rest =>
        obtain ⟨pl', hpl', rfl⟩ := hcut
        go_upto_if 34 with fail
        go_cut [] (fun wx => ∃ tl' : Nat, Hid (tl' = min tl 4) ∧ wx = wr.alloc (.cells #[.int .i64 k, .bool b, .int .i64 n, .float .f64 f, .string (st s), .slice B len c, .slice P pl' pc, .slice T tl' tc, .int .i64 q] 34))
        case first =>
          by_cases h4 : 4 < tl
          · have h4' : (4 : Int) < tl := by omega
            have h4c : (4 : Int) ≤ tc := by omega
            go_wp2_with fail
            ((with_reducible show Met _ _ _); refine Met.intro ?_; go_step; (repeat' apply Exists.intro); refine ⟨?_, rfl⟩)
            exact ⟨4, by show _ = _; omega, rfl⟩
          · have h4' : ¬ (4 : Int) < tl := by omega
            go_wp2_with fail
            ((with_reducible show Met _ _ _); refine Met.intro ?_; go_step; (repeat' apply Exists.intro); refine ⟨?_, rfl⟩)
            exact ⟨tl, by show _ = _; omega, rfl⟩
        case rest =>
          obtain ⟨tl', htl', rfl⟩ := hcut
          obtain ⟨jq, hjq, hj4⟩ := and3' q
          have hw1 : IntKind.i64.wrap (1 + (jq : Int)) = 1 + (jq : Int) := by rw [wrap_i64]; omega
          go_wp2_with fail
          obtain ⟨t', ht'⟩ : ∃ t' : TravD, t' = ⟨t.v, t.path.take 4, t.tags.take 4, 1 + jq⟩ := ⟨_, rfl⟩
          have hsm : Small t' := by rw [ht']; exact ⟨by simp; omega, by simp; omega, by show (1 : Int) ≤ 1 + jq; omega, by show (1 : Int) + jq ≤ 4; omega⟩
          have htw : HasT w k b n f s B len c P pl' pc T tl' tc (1 + jq) t' := by
            have h1 := hH.out.1
            have h2 := hH.out.2
            have h3 := hpl'.out
            have h4 := htl'.out
            rw [ht']
            refine ⟨htr.hv, Parts.take htr.hp 4, ?_, ?_, htr.hpm, Tags.take htr.ht 4, ?_, ?_, htr.htm, rfl, ⟨by show -9223372036854775808 ≤ 1 + (jq : Int); omega, by show 1 + (jq : Int) ≤ 9223372036854775807; omega⟩⟩
            · show pl' = (t.path.take 4).length
              rw [List.length_take]; omega
            · show (t.path.take 4).length ≤ pc
              rw [List.length_take]; omega
            · show tl' = (t.tags.take 4).length
              rw [List.length_take]; omega
            · show (t.tags.take 4).length ≤ tc
              rw [List.length_take]; omega
          clear ht'
          obtain ⟨w2, hw2⟩ : ∃ w2, w2 = wr.alloc (.cells #[.int .i64 k, .bool b, .int .i64 n, .float .f64 f, .string (st s), .slice B len c, .slice P pl' pc, .slice T tl' tc, .int .i64 (1 + (jq : Int))] 34) := ⟨_, rfl⟩
          have hb2 : Below wr.heap.size wr w2 := hw2 ▸ below_alloc wr _
          have hg : wr.heap.size < w2.heap.size := by rw [hw2]; simp
          have hcells : ∀ j u, (travC k b n f s B len c P pl' pc T tl' tc (1 + (jq : Int)))[j]? = some u → w2.cell? ⟨wr.heap.size, j, none⟩ = some u := fun j u hu => by
            rw [hw2, World.cell?]
            have : (wr.alloc (.cells #[.int .i64 k, .bool b, .int .i64 n, .float .f64 f, .string (st s), .slice B len c, .slice P pl' pc, .slice T tl' tc, .int .i64 (1 + (jq : Int))] 34)).heap[wr.heap.size]? = some (.cells #[.int .i64 k, .bool b, .int .i64 n, .float .f64 f, .string (st s), .slice B len c, .slice P pl' pc, .slice T tl' tc, .int .i64 (1 + (jq : Int))] 34) := by
              show (wr.heap.push _)[wr.heap.size]? = _
              simp
            simp only [this]
            simpa using hu
          have hcx : ∀ wx, Below w2.heap.size w2 wx → ∀ j u, (travC k b n f s B len c P pl' pc T tl' tc (1 + (jq : Int)))[j]? = some u → wx.cell? ⟨wr.heap.size, j, none⟩ = some u := fun wx h j u hu => (h.cell (p := ⟨wr.heap.size, j, none⟩) hg).trans (hcells j u hu)
          have own2 := own_below hown hb2
          have bel2 := hbr.trans (hb2.mono hbr.size)
          have ht2 := htw.keep bel2
          rw [← hw2]
          clear hw2 hown htr q9 q0 q1 q2 q3 q4 q5 q6 q7 q8 hjq hw1
          have ch := fun (x : Val) (u : Value) (w : World) (h : Has w u x) => heavy100_c x u w h
          have cw := ch t'.v (valV k b n f s B len c) w2 ht2.hv
          have fin : ∀ (e : Ending) (wx : World), Below w2.heap.size w2 wx → e = .returned (.slice (some ⟨wx.heap.size, 0, none⟩) 0 0) → CutEnds w e (wx.alloc (.cells #[] 34)) := fun e wx hb he => by
            have hbx := bel2.trans (hb.mono bel2.size)
            exact ⟨_, [], [], he, owns_empty9 _ _ _ hbx.size, by simp, (fun t h => by cases h), TRow.nil _, hbx.trans ((below_alloc _ _).mono hbx.size)⟩
          go_wp2_with ((with_reducible refine cw.mono ?_); rintro e w4 ⟨r, rfl, hb4⟩; have f4 := fin _ w4 hb4 rfl)
          all_goals try (go_ret; exact fin _ _ hb4 rfl)
          clear f4
          go_loopw [6] (fun a6 wx => ∃ j : Nat, a6 = .int .i64 j ∧ j ≤ t'.path.length ∧ Below w2.heap.size w2 wx) (fun a _ => t'.path.length - (intOf a).toNat)
          case atStart => exact ⟨0, rfl, Nat.zero_le _, hb4⟩
          case round =>
            obtain ⟨j, rfl, hj, hbx⟩ := hrel
            have hc6 := hcx wr hbx 6 _ rfl
            have epl := ht2.epl
            by_cases hjl : j < t'.path.length
            · have hjl' : (j : Int) < pl' := by omega
              obtain ⟨ae, k', b', n', f', s', B', len', c', rfl, hx', hat'⟩ := ht2.hp j t'.path[j] (by simp)
              obtain ⟨q6, q0, q1, q2, q3, q4, q5⟩ := hat'.keep hbx
              have cx := ch t'.path[j] _ wr (hx'.keep hbx)
              have wj : IntKind.i64.wrap ((j : Int) + 1) = (j : Int) + 1 := by have := hsm.path; rw [wrap_i64]; omega
              clear hx' hat' epl
              generalize t'.path[j] = xx at *
              go_wp2_with ((with_reducible refine cx.mono ?_); rintro e w5 ⟨r5, rfl, hb5⟩)
              all_goals try (go_ret; exact fin _ _ (hbx.trans (hb5.mono hbx.size)) rfl)
              exact ⟨⟨j + 1, rfl, hjl, hbx.trans (hb5.mono hbx.size)⟩, by simp [intOf]; omega⟩
            · have hjl' : ¬ (j : Int) < pl' := by omega
              clear epl
              go_wp2_with fail
              go_loopw [7] (fun a7 wx => ∃ j : Nat, a7 = .int .i64 j ∧ j ≤ t'.tags.length ∧ Below w2.heap.size w2 wx) (fun a _ => t'.tags.length - (intOf a).toNat)
              case atStart => exact ⟨0, rfl, Nat.zero_le _, hbx⟩
              case round =>
                clear hc6 hbx
                obtain ⟨j, rfl, hj, hbx⟩ := hrel
                have hc7 := hcx wr hbx 7 _ rfl
                have etl := ht2.etl
                by_cases hjl : j < t'.tags.length
                · have hjl' : (j : Int) < tl' := by omega
                  obtain ⟨ae, k', b', n', f', s', B', len', c', rfl, _, hx', hat'⟩ := ht2.ht j t'.tags[j] (by simp)
                  obtain ⟨q7, q0, q1, q2, q3, q4, q5, q6⟩ := hat'.keep hbx
                  have cx := ch t'.tags[j].2 _ wr (hx'.keep hbx)
                  have wj : IntKind.i64.wrap ((j : Int) + 1) = (j : Int) + 1 := by have := hsm.tags; rw [wrap_i64]; omega
                  clear hx' hat' etl
                  generalize t'.tags[j] = xx at *
                  go_wp2_with ((with_reducible refine cx.mono ?_); rintro e w5 ⟨r5, rfl, hb5⟩)
                  all_goals try (go_ret; exact fin _ _ (hbx.trans (hb5.mono hbx.size)) rfl)
                  exact ⟨⟨j + 1, rfl, hjl, hbx.trans (hb5.mono hbx.size)⟩, by simp [intOf]; omega⟩
                · have hjl' : ¬ (j : Int) < tl' := by omega
                  have c0 := hcx wr hbx 0 _ rfl
                  have c1 := hcx wr hbx 1 _ rfl
                  have c2 := hcx wr hbx 2 _ rfl
                  have c3 := hcx wr hbx 3 _ rfl
                  have c4 := hcx wr hbx 4 _ rfl
                  have c5 := hcx wr hbx 5 _ rfl
                  have c6 := hcx wr hbx 6 _ rfl
                  have c8 := hcx wr hbx 8 _ rfl
                  have own5 := own_below own2 hbx
                  have bel5 := bel2.trans (hbx.mono bel2.size)
                  have wi : IntKind.i64.wrap ((i : Int) + 1) = (i : Int) + 1 := by rw [wrap_i64]; omega
                  clear etl own2 hc7
                  go_wp2_with (at_builtin; refine wpList_append_own _ rfl _ _ 22 rfl w.heap.size 34 i0 (.agg #[.int .i64 0, .bool false, .int .i64 0, .float .f64 0, .string ByteArray.empty, .slice none 0 0, .slice none 0 0, .slice none 0 0, .int .i64 0]) 9 128 Try.underlying22 hi0 hz0 hz1 hz2 rfl (by decide) _ _ _ rfl (own5.alloc _) ⟨wr.heap.size, 0, none⟩ 1 1 (travC k b n f s B len c P pl' pc T tl' tc (1 + (jq : Int))) rfl rfl ?d1 ?d2 ?d3 ?d4 ?d5 ?_)
                  case d2 => exact ⟨rfl, rfl, rfl, rfl, rfl, rfl, rfl, rfl, rfl⟩
                  case d3 => unfold maxLen; omega
                  case d4 => omega
                  case d5 => have := bel5.size; simp; omega
                  intro v' w6 hown' hgrow _
                  have bel6 : Below w.heap.size w w6 := (bel5.alloc bel5.size _).grown hgrow (by have := bel5.size; simp; omega) fun k hk => (own5.lt k hk).1
                  clear hgrow own5
                  go_wp2_with fail
                  refine ⟨⟨i + 1, ys ++ [t'], _, rfl, hil, h12, by rw [List.length_append, hys]; rfl, hown', hrow.snoc htw, (fun t h => by rcases List.mem_append.1 h with h | h; exact hsmall t h; rw [List.mem_singleton.1 h]; exact hsm), bel6⟩, by simp [intOf]; omega⟩
    · have fin : CutEnds w (.returned u3) wr := ⟨_, ys, xs, rfl, hys ▸ hown, by omega, hsmall, hrow.keep hbr, hbr⟩
      rcases hex with h | ⟨h, h'⟩
      · go_wp2_with fail
        go_ret
        exact fin
      · go_wp2_with fail
        go_ret
        exact fin
end Go.Proofs.Ytfccplkfdhpdgaa
