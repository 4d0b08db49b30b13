
/-
  trav.Many, Spread, New; the traversers' laws' awake.
-/
import Derived.Test.YtfccplkfdhpdgaaTrvE
import Derived.Maps.AppendAt
set_option linter.unusedSimpArgs false
set_option linter.unusedVariables false
namespace Go.Proofs.Ytfccplkfdhpdgaa
open Go.RowKit

def sumB : List TravD → Int
  | [] => 0
  | t :: ts => t.bulk + sumB ts
theorem sumB_append (a b : List TravD) : sumB (a ++ b) = sumB a + sumB b := by
  induction a with
  | nil => simp [sumB]
  | cons t a ih => simp [sumB, ih]; omega
theorem sumB_take {ts : List TravD} {i : Nat} {t : TravD} (h : ts[i]? = some t) : sumB (ts.take (i + 1)) = sumB (ts.take i) + t.bulk := by
  obtain ⟨hi, rfl⟩ := List.getElem?_eq_some_iff.1 h
  rw [List.take_succ_eq_append_getElem hi, sumB_append]
  simp [sumB]
set_option maxRecDepth 8000 in
set_option maxHeartbeats 4000000 in
theorem many_c (A : Option Addr) (cap : Nat) (ts : List TravD) (w : World) (hx : TParts w A ts) (hn : ts.length ≤ 1000) (hq : ∀ t ∈ ts, 0 ≤ t.bulk ∧ t.bulk ≤ 10000) :
    Calls Try.prog 15 #[.slice A ts.length cap] w fun e w' => e = .returned (.int .i64 (sumB ts)) ∧ Below w.heap.size w w' := by
  go_enter Try.func15, Try.ntmps15
  go_wp2_with fail
  go_loopw [3, 8] (fun a3 a8 wr => ∃ i : Nat, ∃ r : Int, a8 = .int .i64 i ∧ a3 = .int .i64 r ∧ i ≤ ts.length ∧ Hid (r = sumB (ts.take i)) ∧ 0 ≤ r ∧ r ≤ 10000 * i ∧ Below w.heap.size w wr) (fun _ a _ => ts.length - (intOf a).toNat)
  case atStart => exact ⟨0, 0, rfl, rfl, Nat.zero_le _, rfl, by omega, by omega, Below.refl _ _⟩
  case round =>
    obtain ⟨i, r, rfl, rfl, hi, hr, h0, h1, hbr⟩ := hrel
    by_cases hil : i < ts.length
    · have hil' : (i : Int) < ts.length := by omega
      obtain ⟨ad, k, b, n, f, s, B, len, c, P, pl, pc, T, tl, tc, q, rfl, ht, hat⟩ := hx i ts[i] (by simp)
      obtain ⟨q9, q0, q1, q2, q3, q4, q5, q6, q7, q8⟩ := hat.keep hbr
      have hst := Lib.hid (sumB_take (ts := ts) (i := i) (t := ts[i]) (by simp))
      have hqt := hq ts[i] (List.getElem_mem _)
      generalize ts[i] = t at *
      have hbulk := ht.ebq
      subst hbulk
      have wi : IntKind.i64.wrap ((i : Int) + 1) = (i : Int) + 1 := by rw [wrap_i64]; omega
      have wr1 : IntKind.i64.wrap (r + t.bulk) = r + t.bulk := by rw [wrap_i64]; omega
      clear hat ht hq hx
      go_wp2_with fail
      refine ⟨⟨i + 1, _, rfl, rfl, hil, ?_, by omega, by omega, hbr.trans ((below_alloc _ _).mono hbr.size)⟩, by simp [intOf]; omega⟩
      show _ = _
      rw [hst.out, hr.out]
    · have hil' : ¬ (i : Int) < ts.length := by omega
      have he := hr.out
      rw [List.take_of_length_le (by omega)] at he
      have hE := Lib.hid he
      clear he hx hq
      go_wp2_with fail
      go_ret
      exact ⟨ret_int hE.out, hbr⟩

abbrev oneB (t : TravD) : TravD := { t with bulk := 1 }
def spreadV (ts : List TravD) : List TravD := ts.flatMap fun t => List.replicate t.bulk.toNat (oneB t)
theorem spreadV_take {ts : List TravD} {i : Nat} {t : TravD} (h : ts[i]? = some t) : spreadV (ts.take (i + 1)) = spreadV (ts.take i) ++ List.replicate t.bulk.toNat (oneB t) := by
  obtain ⟨hi, rfl⟩ := List.getElem?_eq_some_iff.1 h
  unfold spreadV
  rw [List.take_succ_eq_append_getElem hi, List.flatMap_append]
  congr 1
  simp
/-- a block of a world that is still there -/
structure Keeps (b : Nat) (wa wx : World) : Prop where
  lt : b < wx.heap.size
  at_ : wx.heap[b]? = wa.heap[b]?
theorem Keeps.step {b : Nat} {wa wx w' : World} {o1 o2 : Obj} {r : Option Nat} (h : Keeps b wa wx) (hg : ((wx.alloc o1).alloc o2).grownBy w' r) (hr : r ≠ some b) : Keeps b wa w' := by
  have hlt := h.lt
  refine ⟨by have := hg.size; simp at this; omega, ?_⟩
  rw [hg.block b (by simp; omega) (fun e => hr e.symm), Below.heap_alloc _ _ _ (by simp; omega), Below.heap_alloc _ _ _ hlt]
  exact h.at_
theorem Keeps.cell {b : Nat} {wa wx : World} (h : Keeps b wa wx) (j : Nat) : wx.cell? ⟨b, j, none⟩ = wa.cell? ⟨b, j, none⟩ := World.cell?_of_block (a := ⟨b, j, none⟩) h.at_
def SpreadEnds (ts : List TravD) (w : World) (e : Ending) (w' : World) : Prop := ∃ v xs, e = .returned v ∧ w'.ownsRow w.heap.size 34 9 v (spreadV ts).length xs ∧ TRow w' (spreadV ts) xs ∧ Below w.heap.size w w'
set_option maxRecDepth 8000 in
set_option maxHeartbeats 4000000 in
theorem spread_c (A : Option Addr) (cap : Nat) (ts : List TravD) (w : World) (hx : TParts w A ts) (hn : ts.length ≤ 1000) (hq : ∀ t ∈ ts, 0 ≤ t.bulk ∧ t.bulk ≤ 10000) :
    Calls Try.prog 13 #[.slice A ts.length cap] w (SpreadEnds ts w) := by
  obtain ⟨i0, hi0, hz0, hz1, hz2⟩ := info_parts Try.info34
  go_enter Try.func13, Try.ntmps13
  go_wp2_with fail
  go_loopw [3, 9] (fun a3 a9 wr => ∃ (i : Nat) (ys : List TravD) (xs : List Value), a9 = .int .i64 i ∧ i ≤ ts.length ∧ Hid (ys = spreadV (ts.take i)) ∧ ys.length ≤ 10000 * i ∧ wr.ownsRow w.heap.size 34 9 a3 ys.length xs ∧ TRow w ys xs ∧ Below w.heap.size w wr) (fun _ a _ => ts.length - (intOf a).toNat)
  case atStart => exact ⟨0, [], [], rfl, Nat.zero_le _, rfl, Nat.zero_le _, World.ownsRow_nil _ _ _ _, TRow.nil _, Below.refl _ _⟩
  case round =>
    obtain ⟨i, ys, xs, rfl, hi, hys, hyl, hown, hrow, hbr⟩ := hrel
    by_cases hil : i < ts.length
    · have hil' : (i : Int) < ts.length := by omega
      obtain ⟨ad, k, b, n, f, s, B, len, c, P, pl, pc, T, tl, tc, q, rfl, ht, hat⟩ := hx i ts[i] (by simp)
      obtain ⟨q9, q0, q1, q2, q3, q4, q5, q6, q7, q8⟩ := hat.keep hbr
      have hst := Lib.hid (spreadV_take (ts := ts) (i := i) (t := ts[i]) (by simp))
      have hqt := hq ts[i] (List.getElem_mem _)
      generalize ts[i] = t at *
      have hbulk := ht.ebq
      subst hbulk
      obtain ⟨m, hm⟩ : ∃ m : Nat, t.bulk = m := ⟨t.bulk.toNat, by omega⟩
      have ht1 : HasT w k b n f s B len c P pl pc T tl tc 1 (oneB t) := ⟨ht.hv, ht.hp, ht.epl, ht.hpc, ht.hpm, ht.ht, ht.etl, ht.htc, ht.htm, rfl, ⟨by show (-9223372036854775808 : Int) ≤ 1; omega, by show (1 : Int) ≤ 9223372036854775807; omega⟩⟩
      have hmt : t.bulk.toNat = m := by omega
      rw [hmt] at hst
      obtain ⟨wa, hwa⟩ : ∃ wa, wa = wr.alloc (.cells #[.int .i64 k, .bool b, .int .i64 n, .float .f64 f, .string (st s), .slice B len c, .slice P pl pc, .slice T tl tc, .int .i64 t.bulk] 34) := ⟨_, rfl⟩
      have hba : Below wr.heap.size wr wa := hwa ▸ below_alloc wr _
      have z9 : wr.heap.size < wa.heap.size := by rw [hwa]; simp
      have hz : ∀ j u, (travC k b n f s B len c P pl pc T tl tc t.bulk)[j]? = some u → wa.cell? ⟨wr.heap.size, j, none⟩ = some u := fun j u hu => by
        rw [hwa, World.cell?]
        have : (wr.alloc (.cells #[.int .i64 k, .bool b, .int .i64 n, .float .f64 f, .string (st s), .slice B len c, .slice P pl pc, .slice T tl tc, .int .i64 t.bulk] 34)).heap[wr.heap.size]? = some (.cells #[.int .i64 k, .bool b, .int .i64 n, .float .f64 f, .string (st s), .slice B len c, .slice P pl pc, .slice T tl tc, .int .i64 t.bulk] 34) := by
          show (wr.heap.push _)[wr.heap.size]? = _
          simp
        simp only [this]
        simpa using hu
      have hK : ∀ wx, Keeps wr.heap.size wa wx → ∀ j u, (travC k b n f s B len c P pl pc T tl tc t.bulk)[j]? = some u → wx.cell? ⟨wr.heap.size, j, none⟩ = some u := fun wx h j u hu => (h.cell j).trans (hz j u hu)
      have hS : ∀ (wx w' : World) (o1 o2 : Obj) (r : Option Nat), Keeps wr.heap.size wa wx → ((wx.alloc o1).alloc o2).grownBy w' r → r ≠ some wr.heap.size → Keeps wr.heap.size wa w' := fun wx w' o1 o2 r h hg hr => h.step hg hr
      have hN : ∀ (wx : World) (r r' : Option Nat), Keeps wr.heap.size wa wx → r ≠ some wr.heap.size → (r' = r ∨ r' = some (wx.heap.size + 1 + 1)) → r' ≠ some wr.heap.size := fun wx r r' h hr hx => by
        rcases hx with rfl | rfl
        · exact hr
        · have := h.lt; simp only [ne_eq, Option.some.injEq]; omega
      have bela : Below w.heap.size w wa := hbr.trans (hba.mono hbr.size)
      have owna := own_below hown hba
      have z8 := hz 8 _ rfl
      have k0 : Keeps wr.heap.size wa wa := ⟨z9, rfl⟩
      have n0 : u3.ownBlock ≠ some wr.heap.size := fun h => by have := (hown.lt _ h).2; omega
      have hM := Lib.hid hm
      clear hm
      go_upto_region 5 with fail
      rw [← hwa]
      have wi : IntKind.i64.wrap ((i : Int) + 1) = (i : Int) + 1 := by rw [wrap_i64]; omega
      clear hwa hat q0 q1 q2 q3 q4 q5 q6 q7 q8 hx hq hown
      go_wp2_with fail
      go_loopw [3, 15] (fun a3 a15 wx => ∃ (j : Nat) (ys' : List TravD) (xs' : List Value), a15 = .int .i64 j ∧ j ≤ m ∧ Hid (ys' = ys ++ List.replicate j (oneB t)) ∧ ys'.length ≤ 10000 * i + j ∧ wx.ownsRow w.heap.size 34 9 a3 ys'.length xs' ∧ TRow w ys' xs' ∧ Below w.heap.size w wx ∧ Keeps wr.heap.size wa wx ∧ a3.ownBlock ≠ some wr.heap.size) (fun _ a _ => m - (intOf a).toNat)
      case atStart => exact ⟨0, ys, xs, rfl, Nat.zero_le _, by show _ = _; simp, by omega, owna, hrow, bela, k0, n0⟩
      case round =>
        obtain ⟨j, ys', xs', rfl, hj, hys', hyl', hown', hrow', hb', hk', hn'⟩ := hrel
        by_cases hjm : j < m
        · have hjm' : (j : Int) < t.bulk := by have := hM.out; omega
          have c0 := hK wr hk' 0 _ rfl
          have c1 := hK wr hk' 1 _ rfl
          have c2 := hK wr hk' 2 _ rfl
          have c3 := hK wr hk' 3 _ rfl
          have c4 := hK wr hk' 4 _ rfl
          have c5 := hK wr hk' 5 _ rfl
          have c6 := hK wr hk' 6 _ rfl
          have c7 := hK wr hk' 7 _ rfl
          have c8 := hK wr hk' 8 _ rfl
          have wj : IntKind.i64.wrap ((j : Int) + 1) = (j : Int) + 1 := by rw [wrap_i64]; omega
          go_wp2_with (at_builtin; refine wpList_append_own_at _ rfl _ _ 22 rfl w.heap.size 34 i0 (.agg #[.int .i64 0, .bool false, .int .i64 0, .float .f64 0, .string ByteArray.empty, .slice none 0 0, .slice none 0 0, .slice none 0 0, .int .i64 0]) 9 128 Try.underlying22 hi0 hz0 hz1 hz2 rfl (by decide) _ _ _ rfl ((hown'.alloc _).alloc _) ⟨wr.heap.size + 1, 0, none⟩ 1 1 (travC k b n f s B len c P pl pc T tl tc 1) rfl rfl ?d1 ?d2 ?d3 ?d4 ?d5 ?_)
          case d1 =>
            intro j u hj
            match j, hj with
            | 0, hj => simp at hj; subst hj; simp [Addr.add, go_sem]
            | 1, hj => simp at hj; subst hj; simp [Addr.add, go_sem]
            | 2, hj => simp at hj; subst hj; simp [Addr.add, go_sem]
            | 3, hj => simp at hj; subst hj; simp [Addr.add, go_sem]
            | 4, hj => simp at hj; subst hj; simp [Addr.add, go_sem]
            | 5, hj => simp at hj; subst hj; simp [Addr.add, go_sem]
            | 6, hj => simp at hj; subst hj; simp [Addr.add, go_sem]
            | 7, hj => simp at hj; subst hj; simp [Addr.add, go_sem]
            | 8, hj => simp at hj; subst hj; simp [Addr.add, go_sem]
          case d2 => intro u hu; simp only [List.mem_cons, List.not_mem_nil, or_false] at hu; rcases hu with rfl | rfl | rfl | rfl | rfl | rfl | rfl | rfl | rfl <;> rfl
          case d3 => unfold maxLen; omega
          case d4 => omega
          case d5 => have := hb'.size; simp; omega
          intro v' w6 hown6 hgrow _ hat6
          have k6 := hS _ _ _ _ _ hk' hgrow hn'
          have n6 := hN wr _ v'.ownBlock hk' hn' hat6
          have bel6 : Below w.heap.size w w6 := ((hb'.alloc hb'.size _).alloc (by have := hb'.size; simp; omega) _).grown hgrow (by have := hb'.size; simp; omega) fun k hk => (hown'.lt k hk).1
          clear hgrow hown' hat6
          go_wp2_with fail
          refine ⟨⟨j + 1, ys' ++ [oneB t], _, rfl, hjm, ?_, by simp; omega, by simpa using hown6, hrow'.snoc ht1, bel6, k6, n6⟩, by simp [intOf]; omega⟩
          show _ = _
          rw [hys'.out, List.replicate_succ', List.append_assoc]
        · have hjm' : ¬ (j : Int) < t.bulk := by have := hM.out; omega
          go_wp2_with fail
          have hjm2 : j = m := by omega
          refine ⟨⟨i + 1, ys', xs', rfl, hil, ?_, by omega, hown', hrow', hb'⟩, by simp [intOf]; omega⟩
          show _ = _
          rw [hst.out, ← hys.out, hys'.out, hjm2]
    · have hil' : ¬ (i : Int) < ts.length := by omega
      have he := hys.out
      rw [List.take_of_length_le (by omega)] at he
      have fin : SpreadEnds ts w (.returned u3) wr := ⟨u3, xs, rfl, he ▸ hown, he ▸ hrow.keep hbr, hbr⟩
      clear he hx hq
      go_wp2_with fail
      go_ret
      exact fin
end Go.Proofs.Ytfccplkfdhpdgaa
