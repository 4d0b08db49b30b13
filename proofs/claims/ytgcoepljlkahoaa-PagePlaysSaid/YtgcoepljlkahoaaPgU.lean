
/-
  Pages: Drop (slices.Delete of one record).
-/
import Derived.Test.YtgcoepljlkahoaaPgT
set_option linter.unusedSimpArgs false
set_option linter.unusedVariables false
namespace Go.Proofs.Ytgcoepljlkahoaa
open Go.RowKit

theorem run_append_cells {P : Program} (w : World) (t ty e : TypeId) (i : TypeInfo) (ht : P.underlying t = some (.slice e)) (hi : P.info? e = some i)
    (g sLen sCap : Nat) (a : Addr) (m c : Nat) (news : List Value) (hl : news.length = m * i.size) (hnews : ∀ j u, news[j]? = some u → w.cell? (a.add j) = some u) (h1 : ∀ u ∈ news, u.oneCell' = true)
    (hroom : sLen + m ≤ sCap) (hc : ∀ j, j < news.length → (w.cell? ⟨g, sLen * i.size + j, none⟩).isSome = true) (hf : ∀ j, j < news.length → w.frozen? ⟨g, sLen * i.size + j, none⟩ = false) :
    (Builtin.append_ #[t, t] ty #[.slice (some ⟨g, 0, none⟩) sLen sCap, .slice (some a) m c]).run P w = .ok (.slice (some ⟨g, 0, none⟩) (sLen + m) sCap) (w.setCells g (sLen * i.size) news) := by
  have hf' := run_firstCells_some (P := P) w i.size m a m c news hl hnews
  have hst := run_storeCells_cells (P := P) g (sLen * i.size) news 0 w (by simpa using hc) (by simpa using hf) h1
  simp only [Nat.add_zero] at hst
  simp [Builtin.append_, run_underlying ht, sizeOf, typeInfo, hi, Builtin.lenOf, hroom, hf', Addr.add_lit, hst]
theorem run_clear_body (w : World) (ty : TypeId) (g o c : Nat) (hc : ∀ j, j < 2 → (w.cell? ⟨g, o + j, none⟩).isSome = true) (hf : ∀ j, j < 2 → w.frozen? ⟨g, o + j, none⟩ = false) :
    (Builtin.clear_ #[34] ty #[.slice (some ⟨g, o, none⟩) 1 c]).run Try.prog w = .ok (.tuple #[]) (w.setCells g o [.int .u64 0, .string ByteArray.empty]) := by
  have hz : ∀ w, (zeroValue 53).run Try.prog w = .ok (.agg #[.int .u64 0, .string ByteArray.empty]) w := by
    obtain ⟨i0, hi0, hz0, hz1, hz2⟩ := bodyK_info
    intro w
    simp [zeroValue, typeInfo, hi0, hz0, Result.andThen]
  have hst := run_storeCells_cells (P := Try.prog) g o [.int .u64 0, .string ByteArray.empty] 0 w (fun j hj => by simpa using hc j hj) (fun j hj => by simpa using hf j hj) (fun v hv => by simp only [List.mem_cons, List.not_mem_nil, or_false] at hv; rcases hv with rfl | rfl <;> rfl)
  simp only [Nat.add_zero] at hst
  have e : Builtin.zeroCells (Value.agg #[.int .u64 0, .string ByteArray.empty]).cells 1 = #[.int .u64 0, .string ByteArray.empty] := by
    apply Array.toList_inj.1
    simp [Builtin.zeroCells, Value.cells, Array.range, List.range, List.range.loop]
  simp [Builtin.clear_, run_underlying Try.underlying34, hz, Result.andThen, e]
  erw [hst]
/-- all but one -/
theorem cut_len {l : List Rec} {i : Nat} (h : i < l.length) : (l.take i ++ l.drop (i + 1)).length = l.length - 1 := by
  rw [List.length_append, List.length_take, List.length_drop]
  omega
/-- the row when the records behind have gone one to the front -/
theorem shift_own {w : World} {base g cap i : Nat} {l : List Rec} (h : w.ownsRow base 53 2 (.slice (some ⟨g, 0, none⟩) l.length cap) l.length (flat l)) (hi : i < l.length) :
    (w.setCells g (i * 2) (flat (l.drop (i + 1)))).ownsRow base 53 2 (.slice (some ⟨g, 0, none⟩) l.length cap) l.length (puts (flat l) (i * 2) (flat (l.drop (i + 1)))) ∧ w.grownBy (w.setCells g (i * 2) (flat (l.drop (i + 1)))) (some g) :=
  own_puts _ (i * 2) h (by rw [flat_len, flat_len, List.length_drop]; omega)
theorem shift_take {l : List Rec} {i : Nat} (hi : i < l.length) : (puts (flat l) (i * 2) (flat (l.drop (i + 1)))).take ((l.length - 1) * 2) = flat (l.take i ++ l.drop (i + 1)) := by
  have h1 := cut_len hi
  have h2 : (flat (l.take i ++ l.drop (i + 1))).length = (l.length - 1) * 2 := by rw [flat_len, h1]
  unfold puts
  rw [flat_take, ← flat_append, ← h2, List.take_left]
theorem grown_two {a b c : World} {r : Option Nat} (h1 : a.grownBy b r) (h2 : b.grownBy c r) : a.grownBy c r :=
  ⟨h2.os.trans h1.os, h2.tape.trans h1.tape, h2.output.trans h1.output, Nat.le_trans h1.size h2.size, fun k hk hne => (h2.block k (Nat.lt_of_lt_of_le hk h1.size) hne).trans (h1.block k hk hne)⟩
def DelEnds (base g cap i : Nat) (l : List Rec) (w : World) (e : Ending) (w' : World) : Prop :=
  e = .returned (.slice (some ⟨g, 0, none⟩) (l.length - 1) cap) ∧ w'.ownsRow base 53 2 (.slice (some ⟨g, 0, none⟩) (l.length - 1) cap) (l.length - 1) (flat (l.take i ++ l.drop (i + 1))) ∧ Below base w w' ∧ w.heap.size ≤ w'.heap.size ∧ ∀ b, b < w.heap.size → b ≠ g → w'.heap[b]? = w.heap[b]?
/-- what Delete's append and clear do -/
structure DelRun (base g cap i : Nat) (l : List Rec) (w w1 w2 : World) : Prop where
  app : ∀ (off : Nat) (c : Nat), (off = (i + 1) * 2 ∨ l.length - (i + 1) = 0) → (Builtin.append_ #[34, 34] 34 #[.slice (some ⟨g, 0, none⟩) i cap, .slice (some ⟨g, off, none⟩) (l.length - (i + 1)) c]).run Try.prog w = .ok (.slice (some ⟨g, 0, none⟩) (l.length - 1) cap) w1
  clr : ∀ ty c, (Builtin.clear_ #[34] ty #[.slice (some ⟨g, (l.length - 1) * 2, none⟩) 1 c]).run Try.prog w1 = .ok (.tuple #[]) w2
  own : w2.ownsRow base 53 2 (.slice (some ⟨g, 0, none⟩) (l.length - 1) cap) (l.length - 1) (flat (l.take i ++ l.drop (i + 1)))
  grown : w.grownBy w2 (some g)
theorem own_caps {w : World} {base g n cap : Nat} {T : TypeId} {size : Nat} {xs : List Value} (hown : w.ownsRow base T size (.slice (some ⟨g, 0, none⟩) n cap) n xs) : n ≤ cap ∧ cap ≤ maxLen := by
  rcases hown.2 with ⟨hv, _⟩ | ⟨gb, cap', cur, hv, _, _, hnc, hcm, _⟩
  · cases hv
  · simp only [Value.slice.injEq] at hv
    obtain ⟨_, _, rfl⟩ := hv
    exact ⟨hnc, hcm⟩
theorem del_run (base g cap i : Nat) (l : List Rec) (w : World) (hown : w.ownsRow base 53 2 (.slice (some ⟨g, 0, none⟩) l.length cap) l.length (flat l)) (hi : i < l.length) :
    ∃ w1 w2, DelRun base g cap i l w w1 w2 := by
  obtain ⟨i0, hi0, hz0, hz1, hz2⟩ := bodyK_info
  obtain ⟨hnc, hcm⟩ := own_caps hown
  have hfl := flat_len l
  obtain ⟨k, hk⟩ : ∃ k, k = l.length - (i + 1) := ⟨_, rfl⟩
  have hkl : (l.drop (i + 1)).length = k := by rw [List.length_drop, hk]
  obtain ⟨ow1, gw1⟩ := shift_own hown hi
  have hnews : ∀ (off : Nat), (off = (i + 1) * 2 ∨ k = 0) → ∀ j u, (flat (l.drop (i + 1)))[j]? = some u → w.cell? ((⟨g, off, none⟩ : Addr).add j) = some u := fun off ho j u hu => by
    have hj := (List.getElem?_eq_some_iff.1 hu).1
    rw [flat_len, hkl] at hj
    rw [insAdd]
    rcases ho with rfl | h0
    · rw [← flat_drop, List.getElem?_drop] at hu
      rw [hown.cellAt _ (by omega)]
      exact hu
    · omega
  have hpl : (puts (flat l) (i * 2) (flat (l.drop (i + 1)))).length = l.length * 2 := by rw [puts_len (by rw [hfl, flat_len, hkl]; omega), hfl]
  obtain ⟨ow2, gw2⟩ := own_puts [.int .u64 0, .string ByteArray.empty] ((l.length - 1) * 2) ow1 (by rw [hpl]; simp; omega)
  have ow3 := own_fewer ow2 (show l.length - 1 ≤ l.length by omega)
  have e3 : (puts (puts (flat l) (i * 2) (flat (l.drop (i + 1)))) ((l.length - 1) * 2) [.int .u64 0, .string ByteArray.empty]).take ((l.length - 1) * 2) = flat (l.take i ++ l.drop (i + 1)) := by
    have e4 : (puts (puts (flat l) (i * 2) (flat (l.drop (i + 1)))) ((l.length - 1) * 2) [.int .u64 0, .string ByteArray.empty]).take ((l.length - 1) * 2) = (puts (flat l) (i * 2) (flat (l.drop (i + 1)))).take ((l.length - 1) * 2) := by
      generalize puts (flat l) (i * 2) (flat (l.drop (i + 1))) = X at *
      unfold puts
      rw [List.append_assoc, List.take_append_of_le_length (by rw [List.length_take]; omega), List.take_take, Nat.min_self]
    rw [e4, shift_take hi]
  rw [e3] at ow3
  refine ⟨w.setCells g (i * 2) (flat (l.drop (i + 1))), _, ⟨fun off c ho => ?_, fun ty c => ?_, ow3, grown_two gw1 gw2⟩⟩
  · rw [← hk] at ho ⊢
    have h := run_append_cells (P := Try.prog) w 34 34 53 i0 Try.underlying34 hi0 g i cap ⟨g, off, none⟩ k c (flat (l.drop (i + 1))) (by rw [flat_len, hkl, hz1]) (hnews off ho) (flat_one _) (by omega)
      (fun j hj => own_there hown _ (by rw [flat_len, hkl] at hj; rw [hfl, hz1]; omega)) (fun j hj => own_unfrozen hown _)
    rw [hz1, show i + k = l.length - 1 by omega] at h
    exact h
  · exact run_clear_body _ ty g ((l.length - 1) * 2) c (fun j hj => own_there ow1 _ (by rw [hpl]; omega)) (fun j hj => own_unfrozen ow1 _)
set_option maxRecDepth 8000 in
set_option maxHeartbeats 4000000 in
theorem deleteB_c (base g cap i : Nat) (l : List Rec) (w : World) (hown : w.ownsRow base 53 2 (.slice (some ⟨g, 0, none⟩) l.length cap) l.length (flat l)) (hb : base ≤ w.heap.size) (hi : i < l.length) (hl : l.length ≤ 100000) :
    Calls Try.prog 30 #[.slice (some ⟨g, 0, none⟩) l.length cap, .int .i64 (i : Int), .int .i64 ((i : Int) + 1)] w (DelEnds base g cap i l w) := by
  obtain ⟨GOAL, hG⟩ : ∃ G, G = DelEnds base g cap i l w := ⟨_, rfl⟩
  rw [← hG]
  have hGo := Lib.hid hG
  clear hG
  obtain ⟨hnc, hcm⟩ := own_caps hown
  unfold maxLen at hcm
  have hgb := (hown.lt g rfl).1
  have hgl := (hown.lt g rfl).2
  have hownh := Lib.hid hown
  clear hown
  have hli : (i : Int) + 1 ≤ l.length := by omega
  have hii : (i : Int) ≤ l.length := by omega
  have hic : (i : Int) ≤ cap := by omega
  have hn1 : (l.length : Int) ≤ cap := by omega
  have hn2 : ((l.length - 1 : Nat) : Int) ≤ l.length := by omega
  have hn3 : ¬ (i : Int) = (i : Int) + 1 := by omega
  have hn4 : l.length - (l.length - 1) = 1 := by omega
  have hn5 : ¬ cap = l.length - 1 := by omega
  have hn6 : (0 : Int) ≤ (i : Int) + 1 := by omega
  have hn7 : ((i : Int) + 1).toNat = i + 1 := by omega
  go_enter Try.func30, Try.ntmps30
  by_cases hci : cap = i + 1
  · have hk0 : l.length - (i + 1) = 0 := by omega
    have hk0' := hk0
    subst hci
    have f1 : (i : Int) ≤ (i : Int) + 1 := by omega
    have f2 : (i : Int) ≤ ((i + 1 : Nat) : Int) := by omega
    have hk1 : l.length - i = 1 := by omega
    have hll := Lib.hid (show l.length - 1 = i by omega)
    have hfl := Lib.hid (flat_len l)
    have hdr := Lib.hid (show l.drop (i + 1) = [] from List.drop_eq_nil_of_le (by omega))
    have hi2 := Lib.hid hi
    go_upto_region 5 with fail
    (refine wp_region_rel_at (6) [] [] (by kernel_rfl) (by kernel_rfl) (by kernel_rfl) ?_; (simp only [List.take_succ_cons, List.take_zero, List.drop_succ_cons, List.drop_zero]))
    iterate 6 (((with_reducible refine wpRel_none (by kernel_rfl) (by kernel_rfl) ?_); intro K hK; go_simp; first | (with_reducible refine hK _ ?_; clear hK K) | (apply Exists.intro; (with_reducible refine ⟨fun _ => ⟨?_, _, rfl⟩, hK _ ?_⟩); (· exact rfl); clear hK K) | (apply Exists.intro; (with_reducible refine ⟨fun _ => ?_, hK _ ?_⟩); (· (with_reducible (fail))); clear hK K)))
    ((with_reducible refine wpRel_nil ?_); intro p; (simp only [fillR]))
    intro _
    have hownp := own_below hownh.out p.h
    have hbp := p.h
    generalize p.w = wp at *
    clear p
    have hclr : ∀ ty c, (Builtin.clear_ #[34] ty #[.slice (some ⟨g, i * 2, none⟩) 1 c]).run Try.prog wp = .ok (.tuple #[]) (wp.setCells g (i * 2) [.int .u64 0, .string ByteArray.empty]) := fun ty c =>
      run_clear_body wp ty g (i * 2) c (fun j hj => own_there hownp _ (by rw [hfl.out]; have := hi2.out; omega)) (fun j hj => own_unfrozen hownp _)
    have hR : Hid ((wp.setCells g (i * 2) [.int .u64 0, .string ByteArray.empty]).ownsRow base 53 2 (.slice (some ⟨g, 0, none⟩) i (i + 1)) i (flat (l.take i)) ∧ wp.grownBy (wp.setCells g (i * 2) [.int .u64 0, .string ByteArray.empty]) (some g)) := Lib.hid (by
      obtain ⟨o1, g1⟩ := own_puts [.int .u64 0, .string ByteArray.empty] (i * 2) hownp (by rw [hfl.out]; have := hi2.out; simp; omega)
      have o2 := own_fewer o1 (show i ≤ l.length by have := hi2.out; omega)
      have e : (puts (flat l) (i * 2) [.int .u64 0, .string ByteArray.empty]).take (i * 2) = flat (l.take i) := by
        unfold puts
        rw [List.append_assoc, List.take_append_of_le_length (by rw [List.length_take, hfl.out]; have := hi2.out; omega), List.take_take, Nat.min_self, flat_take]
      rw [e] at o2
      exact ⟨o2, g1⟩)
    clear hownp
    go_wp2_with fail
    rw [hGo.out]
    have hbp2 := hbp.mono hb
    refine ⟨by rw [hll.out]; rfl, ?_, hbp2.grown hR.out.2 (Nat.le_trans hb hbp.size) fun k hk => by cases hk; exact hgb, Nat.le_trans hbp.size hR.out.2.size, fun b hb1 hb2 => (hR.out.2.block b (Nat.lt_of_lt_of_le hb1 hbp.size) (by simpa using hb2)).trans (hbp.block b hb1)⟩
    rw [hll.out, hdr.out, List.append_nil]
    exact hR.out.1
  · have hci' : ¬ cap = i + 1 := hci
    go_upto_region 5 with fail
    (refine wp_region_rel_at (6) [] [] (by kernel_rfl) (by kernel_rfl) (by kernel_rfl) ?_; (simp only [List.take_succ_cons, List.take_zero, List.drop_succ_cons, List.drop_zero]))
    iterate 6 (((with_reducible refine wpRel_none (by kernel_rfl) (by kernel_rfl) ?_); intro K hK; go_simp; first | (with_reducible refine hK _ ?_; clear hK K) | (apply Exists.intro; (with_reducible refine ⟨fun _ => ⟨?_, _, rfl⟩, hK _ ?_⟩); (· exact rfl); clear hK K) | (apply Exists.intro; (with_reducible refine ⟨fun _ => ?_, hK _ ?_⟩); (· (with_reducible (fail))); clear hK K)))
    ((with_reducible refine wpRel_nil ?_); intro p; (simp only [fillR]))
    intro _
    obtain ⟨w1, w2, hR⟩ := del_run base g cap i l p.w (own_below hownh.out p.h) hi
    have hbp := p.h
    generalize p.w = wp at *
    clear p
    have happ := hR.app ((i + 1) * 2) (cap - (i + 1)) (.inl rfl)
    have hclr := hR.clr
    have hR := Lib.hid hR
    go_wp2_with (at_builtin; refine Lib.wpList_append_run _ rfl _ _ _ _ rfl _ _ rfl rfl _ _ happ ?_)
    rw [hGo.out]
    have hbp2 := hbp.mono hb
    exact ⟨rfl, hR.out.own, hbp2.grown hR.out.grown (Nat.le_trans hb hbp.size) fun k hk => by cases hk; exact hgb, Nat.le_trans hbp.size hR.out.grown.size, fun b hb1 hb2 => (hR.out.grown.block b (Nat.lt_of_lt_of_le hb1 hbp.size) (by simpa using hb2)).trans (hbp.block b hb1)⟩
/-- a page's records without one -/
def DropEnds (base g : Nat) (v : Value) (l : List Rec) (id : Nat) (w : World) (e : Ending) (w' : World) : Prop :=
  ∃ p, Place l id p ∧ e = .returned (.bool (isAt l id p)) ∧ Below base w w' ∧ PageFrame g v w w' ∧ ∃ v', PageAt w' base g v' (dropR l id p) (usedN (dropR l id p) : Int)
theorem dropR_at {l : List Rec} {id p : Nat} (h : isAt l id p = true) : dropR l id p = l.take p ++ l.drop (p + 1) := by unfold dropR behind; rw [if_pos h]
theorem dropR_not {l : List Rec} {id p : Nat} (h : isAt l id p = false) : dropR l id p = l := by unfold dropR behind; rw [if_neg (by rw [h]; simp), List.take_append_drop]
theorem used_drop {l : List Rec} {p : Nat} {x : Rec} (hx : l[p]? = some x) : usedN (l.take p ++ l.drop (p + 1)) + 12 + x.2.length = usedN l ∧ x.2.length ≤ sumL l := by
  obtain ⟨hp, rfl⟩ := List.getElem?_eq_some_iff.1 hx
  have h1 := sumL_split l p
  rw [List.drop_eq_getElem_cons hp, sumL_cons] at h1
  unfold usedN
  rw [sumL_append, cut_len hp]
  omega
set_option maxRecDepth 8000 in
set_option maxHeartbeats 4000000 in
theorem drop_c (base g : Nat) (v : Value) (l : List Rec) (id : Nat) (w : World) (hp : PageAt w base g v l (usedN l : Int)) (hb : base ≤ w.heap.size) (hr : Rises l) (hu : usedN l ≤ 512) :
    Calls Try.prog 17 #[.pointer (some ⟨g, 0, none⟩), .int .u64 (id : Int)] w (DropEnds base g v l id w) := by
  have hl : l.length ≤ 42 := by unfold usedN at hu; omega
  obtain ⟨GOAL, hG⟩ : ∃ G, G = DropEnds base g v l id w := ⟨_, rfl⟩
  rw [← hG]
  have hGo := Lib.hid hG
  clear hG
  have cs := place_c base g v l (usedN l) id w hp hr (by omega)
  unfold SearchEnds at cs
  go_enter Try.func17, Try.ntmps17
  go_upto_region 4 with ((with_reducible refine cs.mono ?_); rintro e w2 ⟨i, rfl, hP, hb2⟩)
  have hp2 := hp.keep hb2
  have hbb : Below base w w2 := hb2.mono hb
  have hbs : base ≤ w2.heap.size := Nat.le_trans hb hb2.size
  have hK2 := Lib.hid hb2
  have hPh := Lib.hid hP
  clear cs hp hP
  cases hA : isAt l id i
  · have hR := Lib.hid (dropR_not hA)
    have hAh := Lib.hid hA
    clear hA
    go_wp2_with fail
    rw [hGo.out]
    exact ⟨i, hPh.out, by rw [hAh.out]; rfl, hbb, .ofBelow hK2.out, v, by rw [hR.out]; exact hp2⟩
  · obtain ⟨x, hx, hxid⟩ := isAt_some hA
    obtain ⟨hud, hxs⟩ := used_drop hx
    have hi := (List.getElem?_eq_some_iff.1 hx).1
    have hii : (i : Int) < l.length := by omega
    obtain ⟨A, cap, hv, hcap, hB, hne⟩ := hp2.parts
    subst hv
    obtain ⟨ad, hA2, hBx⟩ := hB i x hx
    subst hA2
    obtain ⟨y6, y0, y1⟩ := hBx
    have hR := Lib.hid (dropR_at hA)
    have hAh := Lib.hid hA
    have hsl : sumL l ≤ 512 := by unfold usedN at hu; omega
    clear hA hB hx hxid
    have c0 : w2.cell? ⟨g, 0, none⟩ = some (.slice (some ad) l.length cap) := cell_of hp2.blk 0
    have c1 : w2.cell? ⟨g, 1, none⟩ = some (.int .i64 (usedN l : Int)) := cell_of hp2.blk 1
    have hlt := (Array.getElem?_eq_some_iff.1 hp2.blk).1
    have w1 : IntKind.i64.wrap (12 + (x.2.length : Int)) = 12 + x.2.length := by rw [IntKind.wrap_i64]; omega
    have w5 : IntKind.i64.wrap ((usedN l : Int) - (12 + x.2.length)) = (usedN l : Int) - (12 + x.2.length) := by rw [IntKind.wrap_i64]; omega
    have wi : IntKind.i64.wrap ((i : Int) + 1) = (i : Int) + 1 := by rw [IntKind.wrap_i64]; omega
    have hud := Lib.hid hud
    clear hxs hsl
    go_upto_region 5 with fail
    (refine wp_region_rel_at (17) [] [] (by kernel_rfl) (by kernel_rfl) (by kernel_rfl) ?_; (simp only [List.take_succ_cons, List.take_zero, List.drop_succ_cons, List.drop_zero]))
    iterate 17 (((with_reducible refine wpRel_none (by kernel_rfl) (by kernel_rfl) ?_); intro K hK; go_simp; first | (with_reducible refine hK _ ?_; clear hK K) | (apply Exists.intro; (with_reducible refine ⟨fun _ => ⟨?_, _, rfl⟩, hK _ ?_⟩); (· exact rfl); clear hK K) | (apply Exists.intro; (with_reducible refine ⟨fun _ => ?_, hK _ ?_⟩); (· (with_reducible (fail))); clear hK K)))
    ((with_reducible refine wpRel_nil ?_); intro p; (simp only [fillR]))
    intro _
    have hK3 := Lib.hid (hK2.out.trans (p.h.mono hK2.out.size))
    have hp3 := hp2.keep p.h
    have hb3 := hbb.trans (p.h.mono hbs)
    have hbs3 := Nat.le_trans hbs p.h.size
    generalize p.w = w3 at *
    clear p c0 c1 hlt y6 y0 y1 hp2 hbb hbs hb2
    have c0 : w3.cell? ⟨g, 0, none⟩ = some (.slice (some ad) l.length cap) := cell_of hp3.blk 0
    have c1 : w3.cell? ⟨g, 1, none⟩ = some (.int .i64 (usedN l : Int)) := cell_of hp3.blk 1
    have q1 := frozen_of hp3.blk 1
    have hlt := (Array.getElem?_eq_some_iff.1 hp3.blk).1
    go_upto_region 6 with fail
    obtain ⟨w4, hw4⟩ : ∃ w4, w4 = w3.setCell ⟨g, 1, none⟩ (.int .i64 ((usedN l : Int) - (12 + x.2.length))) := ⟨_, rfl⟩
    have hO : Only g w3 w4 := hw4 ▸ (Only.refl g w3).set 1 _
    have hg4 : w4.heap[g]? = some (.cells #[.slice (some ad) l.length cap, .int .i64 ((usedN l : Int) - (12 + x.2.length))] 56) := hw4 ▸ set2_at1 hp3.blk
    have own4 := own_only hp3.row hO hne
    have hb4 : Below base w w4 := hb3.trans (hO.below hp3.lo)
    have hbs4 : base ≤ w4.heap.size := by rw [hO.size]; exact hbs3
    have hlo := hp3.lo
    have hK4 : Hid ((∀ b, b < w.heap.size → b ≠ g → w4.heap[b]? = w.heap[b]?) ∧ w.heap.size ≤ w4.heap.size) := Lib.hid ⟨fun b h1 h2 => (hO.block b h2).trans (hK3.out.block b h1), by rw [hO.size]; exact hK3.out.size⟩
    rw [← hw4]
    clear hw4 hO hp3 hb3 hbs3 c0 c1 q1 hlt hK3 w3
    obtain ⟨gb, hadg, hgb⟩ : ∃ gb, ad = ⟨gb, 0, none⟩ ∧ base ≤ gb := by
      rcases own4.2 with ⟨hv, _⟩ | ⟨gb, cap', cur, hv, hbg, _⟩
      · cases hv
      · simp only [Value.slice.injEq, Option.some.injEq] at hv
        exact ⟨gb, hv.1, hbg⟩
    subst hadg
    have c0 : w4.cell? ⟨g, 0, none⟩ = some (.slice (some ⟨gb, 0, none⟩) l.length cap) := cell_of hg4 0
    have hlt := (Array.getElem?_eq_some_iff.1 hg4).1
    have hneg : g ≠ gb := fun e => hne (by rw [e]; rfl)
    have cd := deleteB_c base gb cap i l w4 own4 hbs4 hi (by omega)
    unfold DelEnds at cd
    clear own4 hne
    go_wp2_with ((with_reducible refine cd.mono ?_); rintro e w5 ⟨rfl, hown5, hb5, hs5, hk5⟩; have hg5 := (hk5 g hlt hneg).trans hg4; have q0 := frozen_of hg5 0; have c0' : w5.cell? ⟨g, 0, none⟩ = some (.slice (some ⟨gb, 0, none⟩) l.length cap) := cell_of hg5 0; have hlt5 := (Array.getElem?_eq_some_iff.1 hg5).1)
    rw [hGo.out]
    have hb6 : Below base w w5 := hb4.trans hb5
    have hO : Only g w5 (w5.setCell ⟨g, 0, none⟩ (.slice (some ⟨gb, 0, none⟩) (l.length - 1) cap)) := (Only.refl g w5).set 0 _
    have hl1 : (dropR l id i).length = l.length - 1 := by rw [hR.out, cut_len hi]
    refine ⟨i, hPh.out, by rw [hAh.out]; rfl, hb6.trans (hO.below hlo), fun b h1 h2 h3 => (hO.block b h2).trans ((hk5 b (Nat.lt_of_lt_of_le h1 hK4.out.2) (fun e => h3 (by rw [e]; rfl))).trans (hK4.out.1 b h1 h2)), .slice (some ⟨gb, 0, none⟩) (l.length - 1) cap, hlo, ?_, ?_⟩
    · rw [set2_at0 hg5, hR.out]
      have := hud.out
      simp
      omega
    · rw [hl1, hR.out]
      exact own_only hown5 hO (by simp [Value.ownBlock]; exact fun e => hneg e.symm)
end Go.Proofs.Ytgcoepljlkahoaa
