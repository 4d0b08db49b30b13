
/-
  trav.Cut and Values.
-/
import Derived.Test.YtfccplkfdhpdgaaTrvM
import Derived.Test.YtfccplkfdhpdgaaValR
set_option linter.unusedSimpArgs false
set_option linter.unusedVariables false
namespace Go.Proofs.Ytfccplkfdhpdgaa
open Go.RowKit

def loAt (frm at_ : Int) : Int := if at_ < frm then frm else at_
def hiAt (hgh e : Int) : Int := if 0 ≤ hgh then (if hgh < e then hgh else e) else e
def piece (frm hgh at_ : Int) (t : TravD) : List TravD := if loAt frm at_ < hiAt hgh (at_ + t.bulk) then [{ t with bulk := hiAt hgh (at_ + t.bulk) - loAt frm at_ }] else []
def cutL (frm hgh : Int) : Int → List TravD → List TravD
  | _, [] => []
  | at_, t :: ts => piece frm hgh at_ t ++ cutL frm hgh (at_ + t.bulk) ts
theorem cutL_snoc (frm hgh : Int) (t : TravD) : ∀ (xs : List TravD) (at_ : Int), cutL frm hgh at_ (xs ++ [t]) = cutL frm hgh at_ xs ++ piece frm hgh (at_ + sumB xs) t
  | [], at_ => by simp [cutL, sumB]
  | x :: xs, at_ => by
    simp only [List.cons_append, cutL, sumB, cutL_snoc frm hgh t xs, List.append_assoc]
    rw [show at_ + x.bulk + sumB xs = at_ + (x.bulk + sumB xs) by omega]
theorem cutL_take (frm hgh : Int) {ts : List TravD} {i : Nat} {t : TravD} (h : ts[i]? = some t) : cutL frm hgh 0 (ts.take (i + 1)) = cutL frm hgh 0 (ts.take i) ++ piece frm hgh (sumB (ts.take i)) t := by
  obtain ⟨hi, rfl⟩ := List.getElem?_eq_some_iff.1 h
  rw [List.take_succ_eq_append_getElem hi, cutL_snoc]
  simp
/-- of a row those at places from one on up to another one -/
def pickL {α : Type} (frm hgh : Int) : Int → List α → List α
  | _, [] => []
  | p, x :: xs => (if frm ≤ p ∧ (hgh < 0 ∨ p < hgh) then [x] else []) ++ pickL frm hgh (p + 1) xs
theorem pickL_append {α : Type} (frm hgh : Int) (ys : List α) : ∀ (xs : List α) (p : Int), pickL frm hgh p (xs ++ ys) = pickL frm hgh p xs ++ pickL frm hgh (p + xs.length) ys
  | [], p => by simp [pickL]
  | x :: xs, p => by
    simp only [List.cons_append, pickL, pickL_append frm hgh ys xs, List.append_assoc, List.length_cons]
    rw [show p + 1 + (xs.length : Int) = p + ((xs.length + 1 : Nat) : Int) by omega]
theorem pickL_copies {α : Type} (frm hgh : Int) (x : α) (p : Int) : ∀ n : Nat, pickL frm hgh p (List.replicate n x) = List.replicate (hiAt hgh (p + n) - loAt frm p).toNat x
  | 0 => by
    have : (hiAt hgh (p + (0 : Nat)) - loAt frm p).toNat = 0 := by
      unfold hiAt loAt
      repeat' split
      all_goals omega
    rw [this]
    rfl
  | n + 1 => by
    rw [List.replicate_succ', pickL_append, pickL_copies frm hgh x p n, List.length_replicate]
    simp only [pickL, List.append_nil]
    by_cases hc : frm ≤ p + n ∧ (hgh < 0 ∨ p + n < hgh)
    · rw [if_pos hc, ← List.replicate_succ']
      congr 1
      unfold hiAt loAt
      repeat' split
      all_goals omega
    · rw [if_neg hc, List.append_nil]
      congr 1
      unfold hiAt loAt
      repeat' split
      all_goals omega
theorem spread_piece (frm hgh p : Int) (t : TravD) (h : 1 ≤ t.bulk) : spreadV (piece frm hgh p t) = pickL frm hgh p (List.replicate t.bulk.toNat (oneB t)) := by
  rw [pickL_copies]
  unfold piece
  have e : p + (t.bulk.toNat : Int) = p + t.bulk := by omega
  rw [e]
  split
  · rw [spreadV_one]
  · rename_i hn
    rw [show (hiAt hgh (p + t.bulk) - loAt frm p).toNat = 0 by omega]
    rfl
theorem spread_cut (frm hgh : Int) : ∀ (ts : List TravD) (p : Int), Ones ts → spreadV (cutL frm hgh p ts) = pickL frm hgh p (spreadV ts)
  | [], p, _ => rfl
  | t :: ts, p, h => by
    have h1 := h t (by simp)
    rw [cutL, spreadV_append, spread_piece frm hgh p t h1, spread_cut frm hgh ts _ fun x hx => h x (by simp [hx]), show t :: ts = [t] ++ ts from rfl, spreadV_append, spreadV_one, pickL_append, List.length_replicate]
    rw [show p + (t.bulk.toNat : Int) = p + t.bulk by omega]
theorem pickL_take {α : Type} (frm hgh : Int) {xs : List α} {i : Nat} {x : α} (h : xs[i]? = some x) : pickL frm hgh 0 (xs.take (i + 1)) = pickL frm hgh 0 (xs.take i) ++ (if frm ≤ i ∧ (hgh < 0 ∨ (i : Int) < hgh) then [x] else []) := by
  obtain ⟨hi, rfl⟩ := List.getElem?_eq_some_iff.1 h
  rw [List.take_succ_eq_append_getElem hi, pickL_append, List.length_take, Nat.min_eq_left (Nat.le_of_lt hi)]
  simp [pickL]
theorem pickL_len {α : Type} (frm hgh : Int) : ∀ (xs : List α) (p : Int), (pickL frm hgh p xs).length ≤ xs.length
  | [], _ => Nat.le_refl _
  | x :: xs, p => by
    have := pickL_len frm hgh xs (p + 1)
    rw [pickL, List.length_append, List.length_cons]
    split
    · simp; omega
    · simp; omega
theorem piece_ok {frm hgh p : Int} {t : TravD} (h0 : 0 ≤ p) (h1 : 1 ≤ t.bulk) (h2 : t.bulk ≤ 4) : ∀ x ∈ piece frm hgh p t, 1 ≤ x.bulk ∧ x.bulk ≤ 4 := by
  intro x hx
  unfold piece at hx
  split at hx
  · rename_i hlt
    rw [List.mem_singleton.1 hx]
    show 1 ≤ hiAt hgh (p + t.bulk) - loAt frm p ∧ hiAt hgh (p + t.bulk) - loAt frm p ≤ 4
    refine ⟨by omega, ?_⟩
    unfold hiAt loAt
    repeat' split
    all_goals omega
  · cases hx
theorem cutL_ok {frm hgh : Int} : ∀ {ts : List TravD} {p : Int}, 0 ≤ p → (∀ t ∈ ts, 1 ≤ t.bulk ∧ t.bulk ≤ 4) → ∀ x ∈ cutL frm hgh p ts, 1 ≤ x.bulk ∧ x.bulk ≤ 4
  | [], _, _, _, x, hx => by cases hx
  | t :: ts, p, h0, h, x, hx => by
    have ht := h t (by simp)
    rw [cutL] at hx
    rcases List.mem_append.1 hx with h1 | h1
    · exact piece_ok h0 ht.1 ht.2 x h1
    · exact cutL_ok (by omega) (fun y hy => h y (by simp [hy])) x h1
theorem piece_len (frm hgh p : Int) (t : TravD) : (piece frm hgh p t).length ≤ 1 := by unfold piece; split <;> simp
theorem cutL_len (frm hgh : Int) : ∀ (ts : List TravD) (p : Int), (cutL frm hgh p ts).length ≤ ts.length
  | [], _ => Nat.le_refl _
  | t :: ts, p => by
    have h1 := cutL_len frm hgh ts (p + t.bulk)
    have h2 := piece_len frm hgh p t
    rw [cutL, List.length_append, List.length_cons]; omega

set_option maxRecDepth 8000 in
set_option maxHeartbeats 4000000 in
theorem tcut_c (A : Option Addr) (cap : Nat) (ts : List TravD) (frm hgh : Int) (w : World) (hx : TParts w A ts) (hn : ts.length ≤ 1000) (hq : ∀ t ∈ ts, 1 ≤ t.bulk ∧ t.bulk ≤ 4) (hf : 0 ≤ frm) (hI : I64 frm) (hJ : I64 hgh) :
    Calls Try.prog 24 #[.slice A ts.length cap, .int .i64 frm, .int .i64 hgh] w (RowEnds (cutL frm hgh 0 ts) (cutL frm hgh 0 ts).length w) := by
  obtain ⟨i0, hi0, hz0, hz1, hz2⟩ := info_parts Try.info34
  have hI2 := hI.hi
  have hJ1 := hJ.lo
  have hJ2 := hJ.hi
  clear hI hJ
  go_enter Try.func24, Try.ntmps24
  go_wp2_with fail
  go_loopw [7, 8, 16] (fun a7 a8 a16 wr => ∃ (i : Nat) (p : Int) (ys : List TravD) (xs : List Value), a16 = .int .i64 i ∧ a8 = .int .i64 p ∧ i ≤ ts.length ∧ Hid (p = sumB (ts.take i)) ∧ 0 ≤ p ∧ p ≤ 4 * i ∧ Hid (ys = cutL frm hgh 0 (ts.take i)) ∧ ys.length ≤ i ∧ wr.ownsRow w.heap.size 34 9 a7 ys.length xs ∧ TRow w ys xs ∧ Below w.heap.size w wr) (fun _ _ a _ => ts.length - (intOf a).toNat)
  case atStart => exact ⟨0, 0, [], [], rfl, rfl, Nat.zero_le _, rfl, by omega, by omega, rfl, Nat.zero_le _, World.ownsRow_nil _ _ _ _, TRow.nil _, Below.refl _ _⟩
  case round =>
    obtain ⟨i, p, ys, xs, rfl, rfl, hi, hp, hp0, hp4, hys, hyl, hown, hrow, hbr⟩ := hrel
    by_cases hil : i < ts.length
    · have hil' : (i : Int) < ts.length := by omega
      obtain ⟨ad, k, b, n, f, s, B, len, c, P, pl, pc, T, tl, tc, q, rfl, ht, hat⟩ := hx i ts[i] (by simp)
      obtain ⟨q9, q0, q1, q2, q3, q4, q5, q6, q7, q8⟩ := hat.keep hbr
      have hst := Lib.hid (cutL_take frm hgh (ts := ts) (i := i) (t := ts[i]) (by simp))
      have hsb := Lib.hid (sumB_take (ts := ts) (i := i) (t := ts[i]) (by simp))
      have hqt := hq ts[i] (List.getElem_mem _)
      generalize ts[i] = t at *
      have hbulk := ht.ebq
      subst hbulk
      have wi : IntKind.i64.wrap ((i : Int) + 1) = (i : Int) + 1 := by rw [wrap_i64]; omega
      have we : IntKind.i64.wrap (p + t.bulk) = p + t.bulk := by rw [wrap_i64]; omega
      obtain ⟨lo, hlo⟩ : ∃ lo, lo = loAt frm p := ⟨_, rfl⟩
      obtain ⟨hi', hhi⟩ : ∃ hi', hi' = hiAt hgh (p + t.bulk) := ⟨_, rfl⟩
      have hlo1 : lo = if p < frm then frm else p := hlo
      have hb1 : hi' ≤ p + t.bulk := by rw [hhi]; unfold hiAt; repeat' split <;> omega
      have hb2 : p ≤ lo := by rw [hlo1]; split <;> omega
      have hpc := Lib.hid (show piece frm hgh p t = if lo < hi' then [{ t with bulk := hi' - lo }] else [] by unfold piece; rw [hlo, hhi])
      have hlo2 : (if p < frm then frm else p) = lo := hlo1.symm
      have hhi2 : hiAt hgh (p + t.bulk) = hi' := hhi.symm
      unfold hiAt at hhi2
      clear hlo hhi hlo1 hat hx hq
      have ws : IntKind.i64.wrap (hi' - lo) = hi' - lo := by rw [wrap_i64]; omega
      have hpr : p + t.bulk = sumB (ts.take (i + 1)) := by have := hp.out; have := hsb.out; omega
      have hPR := Lib.hid hpr
      clear hpr
      have ht1 : ∀ h : lo < hi', HasT w k b n f s B len c P pl pc T tl tc (hi' - lo) { t with bulk := hi' - lo } := fun h => ⟨ht.hv, ht.hp, ht.epl, ht.hpc, ht.hpm, ht.ht, ht.etl, ht.htc, ht.htm, rfl, ⟨by show (-9223372036854775808 : Int) ≤ hi' - lo; omega, by show hi' - lo ≤ (9223372036854775807 : Int); omega⟩⟩
      by_cases h0 : 0 ≤ hgh
      · rw [if_pos h0] at hhi2
        by_cases hlt : lo < hi'
        · have ht1 := ht1 hlt
          go_wp2_with (at_builtin; refine wpList_append_own _ rfl _ _ 22 rfl w.heap.size 34 i0 (.agg #[.int .i64 0, .bool false, .int .i64 0, .float .f64 0, .string ByteArray.empty, .slice none 0 0, .slice none 0 0, .slice none 0 0, .int .i64 0]) 9 128 Try.underlying22 hi0 hz0 hz1 hz2 rfl (by decide) _ _ _ rfl ((hown.alloc _).alloc _) ⟨wr.heap.size + 1, 0, none⟩ 1 1 (travC k b n f s B len c P pl pc T tl tc (hi' - lo)) rfl rfl ?d1 ?d2 ?d3 ?d4 ?d5 ?_)
          case d1 =>
            intro j u hj
            match j, hj with
            | 0, hj => simp at hj; subst hj; simp [Addr.add, go_sem]
            | 1, hj => simp at hj; subst hj; simp [Addr.add, go_sem]
            | 2, hj => simp at hj; subst hj; simp [Addr.add, go_sem]
            | 3, hj => simp at hj; subst hj; simp [Addr.add, go_sem]
            | 4, hj => simp at hj; subst hj; simp [Addr.add, go_sem]
            | 5, hj => simp at hj; subst hj; simp [Addr.add, go_sem]
            | 6, hj => simp at hj; subst hj; simp [Addr.add, go_sem]
            | 7, hj => simp at hj; subst hj; simp [Addr.add, go_sem]
            | 8, hj => simp at hj; subst hj; simp [Addr.add, go_sem]
          case d2 => intro u hu; simp only [List.mem_cons, List.not_mem_nil, or_false] at hu; rcases hu with rfl | rfl | rfl | rfl | rfl | rfl | rfl | rfl | rfl <;> rfl
          case d3 => unfold maxLen; omega
          case d4 => omega
          case d5 => have := hbr.size; simp; omega
          intro v' w6 hown6 hgrow _
          have bel6 : Below w.heap.size w w6 := ((hbr.alloc hbr.size _).alloc (by have := hbr.size; simp; omega) _).grown hgrow (by have := hbr.size; simp; omega) fun k hk => (hown.lt k hk).1
          clear hgrow hown
          go_wp2_with fail
          refine ⟨⟨i + 1, _, ys ++ [{ t with bulk := hi' - lo }], _, rfl, rfl, hil, ?_, by omega, by omega, ?_, by simp; omega, by simpa using hown6, hrow.snoc ht1, bel6⟩, by simp [intOf]; omega⟩
          · exact hPR.out
          · show _ = _
            rw [hst.out, ← hys.out, ← hp.out, hpc.out, if_pos hlt]
        · go_wp2_with fail
          refine ⟨⟨i + 1, _, ys, _, rfl, rfl, hil, ?_, by omega, by omega, ?_, by omega, hown.alloc _, hrow, hbr.alloc hbr.size _⟩, by simp [intOf]; omega⟩
          · exact hPR.out
          · show _ = _
            rw [hst.out, ← hys.out, ← hp.out, hpc.out, if_neg hlt, List.append_nil]
      · rw [if_neg h0] at hhi2
        by_cases hlt : lo < hi'
        · have ht1 := ht1 hlt
          go_wp2_with (at_builtin; refine wpList_append_own _ rfl _ _ 22 rfl w.heap.size 34 i0 (.agg #[.int .i64 0, .bool false, .int .i64 0, .float .f64 0, .string ByteArray.empty, .slice none 0 0, .slice none 0 0, .slice none 0 0, .int .i64 0]) 9 128 Try.underlying22 hi0 hz0 hz1 hz2 rfl (by decide) _ _ _ rfl ((hown.alloc _).alloc _) ⟨wr.heap.size + 1, 0, none⟩ 1 1 (travC k b n f s B len c P pl pc T tl tc (hi' - lo)) rfl rfl ?k1 ?k2 ?k3 ?k4 ?k5 ?_)
          case k2 => exact ⟨rfl, rfl, rfl, rfl, rfl, rfl, rfl, rfl, rfl⟩
          case k3 => unfold maxLen; omega
          case k4 => omega
          case k5 => have := hbr.size; simp; omega
          intro v' w6 hown6 hgrow _
          have bel6 : Below w.heap.size w w6 := ((hbr.alloc hbr.size _).alloc (by have := hbr.size; simp; omega) _).grown hgrow (by have := hbr.size; simp; omega) fun k hk => (hown.lt k hk).1
          clear hgrow hown
          go_wp2_with fail
          refine ⟨⟨i + 1, _, ys ++ [{ t with bulk := hi' - lo }], _, rfl, rfl, hil, ?_, by omega, by omega, ?_, by simp; omega, by simpa using hown6, hrow.snoc ht1, bel6⟩, by simp [intOf]; omega⟩
          · exact hhi2.symm.trans hPR.out
          · show _ = _
            rw [hst.out, ← hys.out, ← hp.out, hpc.out, if_pos hlt]
        · go_wp2_with fail
          refine ⟨⟨i + 1, _, ys, _, rfl, rfl, hil, ?_, by omega, by omega, ?_, by omega, hown.alloc _, hrow, hbr.alloc hbr.size _⟩, by simp [intOf]; omega⟩
          · exact hhi2.symm.trans hPR.out
          · show _ = _
            rw [hst.out, ← hys.out, ← hp.out, hpc.out, if_neg hlt, List.append_nil]
    · have hil' : ¬ (i : Int) < ts.length := by omega
      have he := hys.out
      rw [List.take_of_length_le (by omega)] at he
      have fin : RowEnds (cutL frm hgh 0 ts) (cutL frm hgh 0 ts).length w (.returned u7) wr := by
        obtain ⟨A', cap', h1, h2, h3, h4⟩ := TParts.ofRow (he ▸ hown) (he ▸ hrow.keep hbr)
        exact ⟨A', cap', by rw [h1], h2, h3, h4, hbr⟩
      clear he hx hq
      go_wp2_with fail
      go_ret
      exact fin

theorem Keeps.step1 {b : Nat} {wa wx w' : World} {o1 : Obj} {r : Option Nat} (h : Keeps b wa wx) (hg : (wx.alloc o1).grownBy w' r) (hr : r ≠ some b) : Keeps b wa w' := by
  have hlt := h.lt
  refine ⟨by have := hg.size; simp at this; omega, ?_⟩
  rw [hg.block b (by simp; omega) (fun e => hr e.symm), Below.heap_alloc _ _ _ hlt]
  exact h.at_
/-- the values at which traversers are, each as often as it stands for -/
def valuesV (ts : List TravD) : List Val := ts.flatMap fun t => List.replicate t.bulk.toNat t.v
theorem valuesV_eq (ts : List TravD) : valuesV ts = (spreadV ts).map (·.v) := by
  unfold valuesV spreadV
  rw [List.map_flatMap]
  congr 1
  funext t
  rw [List.map_replicate]
theorem valuesV_take {ts : List TravD} {i : Nat} {t : TravD} (h : ts[i]? = some t) : valuesV (ts.take (i + 1)) = valuesV (ts.take i) ++ List.replicate t.bulk.toNat t.v := by
  obtain ⟨hi, rfl⟩ := List.getElem?_eq_some_iff.1 h
  unfold valuesV
  rw [List.take_succ_eq_append_getElem hi, List.flatMap_append]
  congr 1
  simp
set_option maxRecDepth 8000 in
set_option maxHeartbeats 4000000 in
theorem values_c (A : Option Addr) (cap : Nat) (ts : List TravD) (w : World) (hx : TParts w A ts) (hn : ts.length ≤ 1000) (hq : ∀ t ∈ ts, 0 ≤ t.bulk ∧ t.bulk ≤ 10000) :
    Calls Try.prog 25 #[.slice A ts.length cap] w (PartsEnds (valuesV ts) (valuesV ts).length w) := by
  obtain ⟨i0, hi0, hz0, hz1, hz2⟩ := info_parts Try.info31
  go_enter Try.func25, Try.ntmps25
  go_wp2_with fail
  go_loopw [3, 8] (fun a3 a8 wr => ∃ (i : Nat) (ys : List Val) (xs : List Value), a8 = .int .i64 i ∧ i ≤ ts.length ∧ Hid (ys = valuesV (ts.take i)) ∧ ys.length ≤ 10000 * i ∧ wr.ownsRow w.heap.size 31 6 a3 ys.length xs ∧ VRow w ys xs ∧ Below w.heap.size w wr) (fun _ a _ => ts.length - (intOf a).toNat)
  case atStart => exact ⟨0, [], [], rfl, Nat.zero_le _, rfl, Nat.zero_le _, World.ownsRow_nil _ _ _ _, VRow.nil _, Below.refl _ _⟩
  case round =>
    obtain ⟨i, ys, xs, rfl, hi, hys, hyl, hown, hrow, hbr⟩ := hrel
    by_cases hil : i < ts.length
    · have hil' : (i : Int) < ts.length := by omega
      obtain ⟨ad, k, b, n, f, s, B, len, c, P, pl, pc, T, tl, tc, q, rfl, ht, hat⟩ := hx i ts[i] (by simp)
      obtain ⟨q9, q0, q1, q2, q3, q4, q5, q6, q7, q8⟩ := hat.keep hbr
      have hst := Lib.hid (valuesV_take (ts := ts) (i := i) (t := ts[i]) (by simp))
      have hqt := hq ts[i] (List.getElem_mem _)
      generalize ts[i] = t at *
      have hbulk := ht.ebq
      subst hbulk
      obtain ⟨m, hm⟩ : ∃ m : Nat, t.bulk = m := ⟨t.bulk.toNat, by omega⟩
      have hmt : t.bulk.toNat = m := by omega
      rw [hmt] at hst
      obtain ⟨wa, hwa⟩ : ∃ wa, wa = wr.alloc (.cells #[.int .i64 k, .bool b, .int .i64 n, .float .f64 f, .string (st s), .slice B len c, .slice P pl pc, .slice T tl tc, .int .i64 t.bulk] 34) := ⟨_, rfl⟩
      have hba : Below wr.heap.size wr wa := hwa ▸ below_alloc wr _
      have z9 : wr.heap.size < wa.heap.size := by rw [hwa]; simp
      have hz : ∀ j u, (travC k b n f s B len c P pl pc T tl tc t.bulk)[j]? = some u → wa.cell? ⟨wr.heap.size, j, none⟩ = some u := fun j u hu => by
        rw [hwa, World.cell?]
        have : (wr.alloc (.cells #[.int .i64 k, .bool b, .int .i64 n, .float .f64 f, .string (st s), .slice B len c, .slice P pl pc, .slice T tl tc, .int .i64 t.bulk] 34)).heap[wr.heap.size]? = some (.cells #[.int .i64 k, .bool b, .int .i64 n, .float .f64 f, .string (st s), .slice B len c, .slice P pl pc, .slice T tl tc, .int .i64 t.bulk] 34) := by
          show (wr.heap.push _)[wr.heap.size]? = _
          simp
        simp only [this]
        simpa using hu
      have hK : ∀ wx, Keeps wr.heap.size wa wx → ∀ j u, (travC k b n f s B len c P pl pc T tl tc t.bulk)[j]? = some u → wx.cell? ⟨wr.heap.size, j, none⟩ = some u := fun wx h j u hu => (h.cell j).trans (hz j u hu)
      have hS : ∀ (wx w' : World) (o1 : Obj) (r : Option Nat), Keeps wr.heap.size wa wx → (wx.alloc o1).grownBy w' r → r ≠ some wr.heap.size → Keeps wr.heap.size wa w' := fun wx w' o1 r h hg hr => h.step1 hg hr
      have hN : ∀ (wx : World) (r r' : Option Nat), Keeps wr.heap.size wa wx → r ≠ some wr.heap.size → (r' = r ∨ r' = some (wx.heap.size + 1)) → r' ≠ some wr.heap.size := fun wx r r' h hr hx => by
        rcases hx with rfl | rfl
        · exact hr
        · have := h.lt; simp only [ne_eq, Option.some.injEq]; omega
      have bela : Below w.heap.size w wa := hbr.trans (hba.mono hbr.size)
      have owna := own_below hown hba
      have z8 := hz 8 _ rfl
      have k0 : Keeps wr.heap.size wa wa := ⟨z9, rfl⟩
      have n0 : u3.ownBlock ≠ some wr.heap.size := fun h => by have := (hown.lt _ h).2; omega
      have hM := Lib.hid hm
      clear hm hmt
      go_upto_region 5 with fail
      rw [← hwa]
      have wi : IntKind.i64.wrap ((i : Int) + 1) = (i : Int) + 1 := by rw [wrap_i64]; omega
      clear hwa hat q0 q1 q2 q3 q4 q5 q6 q7 q8 hx hq hown
      go_wp2_with fail
      go_loopw [3, 14] (fun a3 a14 wx => ∃ (j : Nat) (ys' : List Val) (xs' : List Value), a14 = .int .i64 j ∧ j ≤ m ∧ Hid (ys' = ys ++ List.replicate j t.v) ∧ ys'.length ≤ 10000 * i + j ∧ wx.ownsRow w.heap.size 31 6 a3 ys'.length xs' ∧ VRow w ys' xs' ∧ Below w.heap.size w wx ∧ Keeps wr.heap.size wa wx ∧ a3.ownBlock ≠ some wr.heap.size) (fun _ a _ => m - (intOf a).toNat)
      case atStart => exact ⟨0, ys, xs, rfl, Nat.zero_le _, by show _ = _; simp, by omega, owna, hrow, bela, k0, n0⟩
      case round =>
        obtain ⟨j, ys', xs', rfl, hj, hys', hyl', hown', hrow', hb', hk', hn'⟩ := hrel
        by_cases hjm : j < m
        · have hjm' : (j : Int) < t.bulk := by have := hM.out; omega
          have c0 := hK wr hk' 0 _ rfl
          have c1 := hK wr hk' 1 _ rfl
          have c2 := hK wr hk' 2 _ rfl
          have c3 := hK wr hk' 3 _ rfl
          have c4 := hK wr hk' 4 _ rfl
          have c5 := hK wr hk' 5 _ rfl
          have wj : IntKind.i64.wrap ((j : Int) + 1) = (j : Int) + 1 := by rw [wrap_i64]; omega
          go_wp2_with (at_builtin; refine wpList_append_own_at _ rfl _ _ 29 rfl w.heap.size 31 i0 (.agg #[.int .i64 0, .bool false, .int .i64 0, .float .f64 0, .string ByteArray.empty, .slice none 0 0]) 6 72 Try.underlying29 hi0 hz0 hz1 hz2 rfl (by decide) _ _ _ rfl (hown'.alloc _) ⟨wr.heap.size, 0, none⟩ 1 1 (valC k b n f s B len c) rfl rfl ?d1 ?d2 ?d3 ?d4 ?d5 ?_)
          case d1 =>
            intro j u hj
            match j, hj with
            | 0, hj => simp at hj; subst hj; simp [Addr.add, go_sem]
            | 1, hj => simp at hj; subst hj; simp [Addr.add, go_sem]
            | 2, hj => simp at hj; subst hj; simp [Addr.add, go_sem]
            | 3, hj => simp at hj; subst hj; simp [Addr.add, go_sem]
            | 4, hj => simp at hj; subst hj; simp [Addr.add, go_sem]
            | 5, hj => simp at hj; subst hj; simp [Addr.add, go_sem]
          case d2 => intro u hu; simp only [List.mem_cons, List.not_mem_nil, or_false] at hu; rcases hu with rfl | rfl | rfl | rfl | rfl | rfl <;> rfl
          case d3 => unfold maxLen; omega
          case d4 => omega
          case d5 => have := hb'.size; simp; omega
          intro v' w6 hown6 hgrow _ hat6
          have k6 := hS _ _ _ _ hk' hgrow hn'
          have n6 := hN wr _ v'.ownBlock hk' hn' hat6
          have bel6 : Below w.heap.size w w6 := (hb'.alloc hb'.size _).grown hgrow (by have := hb'.size; simp; omega) fun k hk => (hown'.lt k hk).1
          clear hgrow hown' hat6
          go_wp2_with fail
          refine ⟨⟨j + 1, ys' ++ [t.v], _, rfl, hjm, ?_, by simp; omega, by simpa using hown6, hrow'.snoc ht.hv, bel6, k6, n6⟩, by simp [intOf]; omega⟩
          show _ = _
          rw [hys'.out, List.replicate_succ', List.append_assoc]
        · have hjm' : ¬ (j : Int) < t.bulk := by have := hM.out; omega
          go_wp2_with fail
          have hjm2 : j = m := by omega
          refine ⟨⟨i + 1, ys', xs', rfl, hil, ?_, by have := hM.out; omega, hown', hrow', hb'⟩, by simp [intOf]; omega⟩
          show _ = _
          rw [hst.out, ← hys.out, hys'.out, hjm2]
    · have hil' : ¬ (i : Int) < ts.length := by omega
      have he := hys.out
      rw [List.take_of_length_le (by omega)] at he
      have fin : PartsEnds (valuesV ts) (valuesV ts).length w (.returned u3) wr := by
        obtain ⟨A', cap', h1, h2, h3, h4⟩ := Parts.ofRow (he ▸ hown) (he ▸ hrow.keep hbr)
        exact ⟨A', cap', by rw [h1], h2, h3, h4, hbr⟩
      clear he hx hq
      go_wp2_with fail
      go_ret
      exact fin
end Go.Proofs.Ytfccplkfdhpdgaa
