/-
  FramePieces' walk.
-/
import Derived.Test.YtijkliffgihglaaFrH
import Derived.Deep.CutBlock
import Derived.Deep.DeepCutAuto
import Derived.Laws.AppendOwnNone
set_option linter.unusedSimpArgs false
set_option linter.unusedVariables false
namespace Go.Proofs.Ytijkliffgihglaa
open Go.RowKit

theorem Try.info3 : (Try.prog.info? 3).map (fun i => (i.zero, i.size, i.bytes)) = some (some (.int .i64 0), 1, 8) := by kernel_rfl
def endsV (fl : List (List UInt8)) (i : Nat) : List Value := (List.range i).map fun k => Value.int .i64 (endAt fl (k + 1) : Nat)
theorem endsV_succ (fl : List (List UInt8)) (i : Nat) : endsV fl (i + 1) = endsV fl i ++ [.int .i64 (endAt fl (i + 1) : Nat)] := by simp [endsV, List.range_succ]
theorem flat_take_succ (fl : List (List UInt8)) (i : Nat) (h : i < fl.length) : flat (fl.take (i + 1)) = flat (fl.take i) ++ frameL (fl.getD i []) := by
  rw [List.take_succ_eq_append_getElem h, flat_append]
  simp [flat, List.getD, h]
theorem endAt_next (fl : List (List UInt8)) (i : Nat) (h : i < fl.length) : endAt fl (i + 1) = endAt fl i + (frameL (fl.getD i [])).length := by
  unfold endAt
  rw [flat_take_succ fl i h, List.length_append]
theorem endAt_bound (fl : List (List UInt8)) (hf : ∀ f ∈ fl, f.length ≤ 300) (i : Nat) (h : i ≤ fl.length) : endAt fl i ≤ 304 * i := by
  induction i with
  | zero => rw [endAt_zero]; omega
  | succ i ih =>
    rw [endAt_next fl i (by omega), frameL_len]
    have h1 := ih (by omega)
    have h2 : (fl.getD i []).length ≤ 300 := hf _ (by
      have : i < fl.length := by omega
      simp [List.getD, this])
    omega

theorem own_grown {w w' : World} {rb base : Nat} {e : TypeId} {size : Nat} {v : Value} {n : Nat} {xs : List Value} (h : w.ownsRow base e size v n xs) (hg : w.grownBy w' (some rb)) (hrb : rb < base) : w'.ownsRow base e size v n xs := by
  refine ⟨h.1, ?_⟩
  rcases h.2 with h | ⟨g, cap, cur, hv, hbg, hc, hr⟩
  · exact .inl h
  · exact .inr ⟨g, cap, cur, hv, hbg, (hg.block g (Array.getElem?_eq_some_iff.1 hc).1 (by simp; omega)).trans hc, hr⟩
theorem grown_refl (w : World) (r : Option Nat) : w.grownBy w r := ⟨rfl, rfl, rfl, Nat.le_refl _, fun _ _ _ => rfl⟩
theorem wpList_append_rows {P : Program} {w : World} {ops : Array Oper} {rest : List Oper} {o : Oper} {a : Act} {Q : Exit → Act → World → Prop} (hgd : o.guard = none) (s x : Operand) (t : TypeId)
    (ho : o.op = .call { callee := .builtin .append, args := #[s, x], argTypes := #[t, t] })
    (base : Nat) (e : TypeId) (i : TypeInfo) (z : Value) (bytes : Nat) (ht : P.underlying t = some (.slice e)) (hi : P.info? e = some i) (hz : i.zero = some z)
    (hsize : i.size = 1) (hby : i.bytes = bytes) (hzs : z.cells.size = 1)
    (v : Value) (n : Nat) (xs : List Value) (hs : a.eval s = v) (hown : w.ownsRow base e 1 v n xs)
    (u : Value) (base2 m : Nat) (news : List Value) (hx : a.eval x = u) (hown2 : w.ownsRow base2 e 1 u m news) (h1 : ∀ u ∈ news, u.oneCell' = true)
    (h63 : n + m ≤ maxLen) (hbytes : (n + m) * bytes ≤ 140737488355328) (hbase : base ≤ w.heap.size)
    (h : ∀ v' w', w'.ownsRow base e 1 v' (n + m) (xs ++ news) → w.grownBy w' v.ownBlock → wpList P ops Q rest (a.put o.dst v') w') : wpList P ops Q (o :: rest) a w := by
  obtain ⟨ao, cap, hv, hlen, hcells⟩ := owns_read hown2
  rcases hown2.2 with ⟨hu, hn⟩ | ⟨g, cap', cur, hu, hb, hc, hr⟩
  · have hm0 : m = 0 := hn
    have hnw : news = [] := List.eq_nil_of_length_eq_zero (by omega)
    subst hm0 hnw
    refine wpList_append_own_none hgd s x t ho base e i 1 ht hi v n xs hs hown (hx.trans hu) (h v w ?_ (grown_refl _ _))
    simpa using hown
  · refine wpList_append_own w hgd s x t ho base e i z 1 bytes ht hi hz hsize hby hzs (by decide) v n xs hs hown ⟨g, 0, none⟩ m cap' news (hx.trans hu) (by omega) ?_ h1 h63 hbytes hbase fun v' w' h2 h3 _ => h v' w' h2 h3
    intro j q hj
    obtain ⟨g', e1, _, _, e2⟩ := hcells j q hj
    rw [hu] at hv
    cases hv
    cases e1
    have e3 : (⟨g, 0, none⟩ : Addr).add j = ⟨g, j, none⟩ := by cases j <;> simp [Addr.add]
    rw [e3]; exact e2
theorem grown_rd {w w1 : World} {rb base e : Nat} {v : Value} {n : Nat} {xs : List Value} {h : List UInt8} {E : Int} (hr : Rd w rb h E) (hown : w.ownsRow base e 1 v n xs) (hrb : rb < base) (hg : w.grownBy w1 v.ownBlock) : Rd w1 rb h E := by
  have hk : w1.heap[rb]? = w.heap[rb]? := hg.block rb hr.lt fun h => by have := (hown.lt rb h.symm).1; omega
  have hc : ∀ k, w1.cell? ⟨rb, k, none⟩ = w.cell? ⟨rb, k, none⟩ := fun k => World.cell?_of_block (a := ⟨rb, k, none⟩) hk
  have hf : ∀ k, w1.frozen? ⟨rb, k, none⟩ = w.frozen? ⟨rb, k, none⟩ := fun k => World.frozen?_of_block (a := ⟨rb, k, none⟩) hk
  exact ⟨(hc 0).trans hr.held, (hc 1).trans hr.err, (hf 0).trans hr.f0, (hf 1).trans hr.f1, Nat.lt_of_lt_of_le hr.lt hg.size⟩

abbrev heldAt (fl : List (List UInt8)) (a : Nat) : List UInt8 := ((flat fl).take a).drop (endAt fl (cnt fl a))
theorem feedP (rb : Nat) (fl : List (List UInt8)) (hff : ∀ f ∈ fl, f.length ≤ 300) (hL : (flat fl).length ≤ 3000) (a n : Nat) (ha : a ≤ n) (hn : n ≤ (flat fl).length) (w : World) (hr : Rd w rb (heldAt fl a) 0) :
    Calls Try.prog 15 #[.pointer (some ⟨rb, 0, none⟩), .string (st (((flat fl).take n).drop a))] w fun e w' => ∃ v, e = .returned (.tuple #[v, .int .i64 0]) ∧
      w'.ownsRow w.heap.size 9 1 v (cnt fl n - cnt fl a) (strs ((fl.drop (cnt fl a)).take (cnt fl n - cnt fl a))) ∧ Rd w' rb (heldAt fl n) 0 ∧ w.grownBy w' (some rb) ∧ cnt fl a ≤ cnt fl n := by
  obtain ⟨hp, hle⟩ := parse_piece fl hff a n ha hn
  refine (feed_c rb _ _ w hr (by simp; omega)).mono ?_
  rintro e w' ⟨v, fs, r, b, hp', rfl, hown, hrd, hg⟩
  rw [hp] at hp'
  cases hp'
  refine ⟨v, rfl, ?_, hrd, hg, hle⟩
  have hl : ((fl.drop (cnt fl a)).take (cnt fl n - cnt fl a)).length = cnt fl n - cnt fl a := by
    have := cnt_le fl n
    rw [List.length_take, List.length_drop]; omega
  rwa [hl] at hown
theorem and63 (n : Int) : ∃ j : Nat, bits .and .i64 n 63 = (j : Int) ∧ j < 64 := by
  have e : bits .and .i64 n 63 = IntKind.i64.wrap ((BitVec.ofInt 64 n &&& BitVec.ofInt 64 63).toNat : Int) := rfl
  have h3 : (BitVec.ofInt 64 n &&& BitVec.ofInt 64 63).toNat < 64 := by
    rw [BitVec.toNat_and]
    exact Nat.lt_of_le_of_lt Nat.and_le_right (by decide)
  exact ⟨_, e.trans (wrap_i64_id _ (by omega) (by omega)), h3⟩

set_option maxRecDepth 8000 in
set_option maxHeartbeats 4000000 in
theorem framePieces_walk (A : Option Addr) (len cap : Nat) (ss : List (List UInt8)) (B : Option Addr) (lenc capc : Nat) (zs : List Int) (w : World) (hs : Strs w A len ss) (hz : Ints w B lenc zs) :
    Calls Try.prog 4 #[.slice A len cap, .slice B lenc capc] w (TrueEnds w) := by
  have hlm := hs.max
  have hcm := hz.max
  obtain ⟨fl, hfl0⟩ : ∃ fl, fl = (ss.take 8).map (·.take 300) := ⟨_, rfl⟩
  obtain ⟨m, hm⟩ : ∃ m, m = fl.length := ⟨_, rfl⟩
  have hml : m = min 8 len := by rw [hm, hfl0, List.length_map, List.length_take, hs.length]
  have hff : ∀ f ∈ fl, f.length ≤ 300 := by
    intro f hf
    rw [hfl0, List.mem_map] at hf
    obtain ⟨g, _, rfl⟩ := hf
    simp; omega
  have hfl : ∀ i, i < m → fl.getD i [] = (ss.getD i []).take 300 := by
    intro i hi
    have h1 : i < ss.length := by rw [hs.length]; omega
    have h2 : i < 8 := by omega
    rw [hfl0]
    simp [List.getD, h1, h2]
  clear hfl0
  obtain ⟨i0, hi0, hz0, hz1, hz2⟩ := info_parts Try.info3
  obtain ⟨j0, hj0, hy0, hy1, hy2⟩ := info_parts Try.info9
  unfold maxLen at hlm hcm
  have hm8 : m ≤ 8 := by omega
  have hmlen : m ≤ len := by omega
  have hmor := Lib.hid (show m = 8 ∨ m = len by omega)
  have hM := Lib.hid hm
  clear hml hm
  go_enter Try.func4, Try.ntmps4
  go_upto_block 0 with fail
  obtain ⟨w3, hw3⟩ : ∃ w3, w3 = w.alloc (.cells #[] 3) := ⟨_, rfl⟩
  have own3 : w3.ownsRow w.heap.size 3 1 (.slice (some ⟨w.heap.size, 0, none⟩) 0 0) 0 [] := hw3 ▸ owns_empty w _
  have bel3 : Below w.heap.size w w3 := hw3 ▸ (Below.refl _ _).alloc (Nat.le_refl _) _
  rw [← hw3]
  clear hw3
  go_cut [5, 6] (fun a5 a6 wr => a5 = .string (st (flat fl)) ∧ wr.ownsRow w.heap.size 3 1 a6 m (endsV fl m) ∧ Below w.heap.size w wr)
  case first =>
    go_wp2_with fail
    go_loopw [5, 6, 7] (fun a5 a6 a7 wr => ∃ i : Nat, a7 = .int .i64 i ∧ a5 = .string (st (flat (fl.take i))) ∧ wr.ownsRow w.heap.size 3 1 a6 i (endsV fl i) ∧ Below w.heap.size w wr ∧ i ≤ m) (fun _ _ a7 _ => m - (intOf a7).toNat)
    case atStart => exact ⟨0, rfl, rfl, own3, bel3, Nat.zero_le _⟩
    case round =>
      obtain ⟨i, rfl, rfl, hown, hbel, hi⟩ := hrel
      by_cases hlt : i < m
      · obtain ⟨ad, rfl, hab, hac⟩ := (hs.below hbel).at_ i (by omega)
        have hXl := hs.each i (by omega)
        have hX := hfl i hlt
        have hn := flat_take_succ fl i (by rw [← hM.out]; exact hlt)
        have he := endAt_next fl i (by rw [← hM.out]; exact hlt)
        have hb := endAt_bound fl hff (i + 1) (by rw [← hM.out]; exact hlt)
        generalize ss.getD i [] = X at *
        have c1 := fun w => few_c X w hXl
        rw [← hX] at c1
        have hf3 : (fl.getD i []).length ≤ 300 := by rw [hX]; simp; omega
        clear hX
        generalize fl.getD i [] = f at *
        have c3 := fun w => put_frame_c f w (by omega)
        have hflen : ((frameL f).length : Int) = 4 + f.length := by rw [frameL_len]; omega
        have hi8 : (i : Int) < 8 := by omega
        have hil : (i : Int) < len := by omega
        have wi : IntKind.i64.wrap ((i : Int) + 1) = (i : Int) + 1 := wrap_i64_id _ (by omega) (by omega)
        have wf : IntKind.i64.wrap (4 + (f.length : Int)) = 4 + (f.length : Int) := wrap_i64_id _ (by omega) (by omega)
        have hE : ((flat (fl.take i)).length : Int) + (4 + f.length) = (endAt fl (i + 1) : Nat) := by show (endAt fl i : Int) + _ = _; omega
        generalize hEE : endAt fl (i + 1) = E at hE
        have hsum : ¬ 9223372036854775807 < (flat (fl.take i)).length + (frameL f).length := by show ¬ 9223372036854775807 < endAt fl i + _; omega
        go_wp2_with (first | ((with_reducible refine (c1 _).mono ?_); rintro e w4 ⟨rfl, rfl⟩) | ((with_reducible refine (c3 _).mono ?_); rintro e w4 ⟨rfl, hb4⟩; have own4 := own_below hown hb4; have bel4 := hbel.trans (hb4.mono hbel.size); have hab4 := Nat.lt_of_lt_of_le hab hb4.size; have hac4 := (hb4.cell hab).trans hac; clear hb4) | (at_builtin; refine wpList_append_own _ rfl _ _ 35 rfl w.heap.size 3 i0 (.int .i64 0) 1 8 Try.underlying35 hi0 hz0 hz1 hz2 rfl (by decide) _ _ _ rfl (own4.alloc _) ⟨w4.heap.size, 0, none⟩ 1 1 [.int .i64 (E : Nat)] rfl rfl ?c1 ?c2 ?c3 ?c4 ?c5 ?_))
        case c1 =>
          intro j u hj
          match j, hj with
          | 0, hj => simp at hj; subst hj; simp [Addr.add]
        case c2 => intro u hu; simp at hu; subst hu; rfl
        case c3 => unfold maxLen; omega
        case c4 => omega
        case c5 => have := bel4.size; simp; omega
        intro v' w6 hown' hgrow _
        have bel6 := World.ownsRow_step bel4 own4 hgrow
        clear hgrow own4 hown
        go_wp2_with (fail)
        refine ⟨⟨i + 1, rfl, ?_, ?_, bel6, by omega⟩, by simp [intOf]; omega⟩
        · rw [hn]
        · rw [endsV_succ, hEE]; exact hown'
      · have him := Lib.hid (show i = m by omega)
        have hd : ¬ ((i : Int) < len) ∨ ((i : Int) < len ∧ ¬ (i : Int) < 8) := by
          have := hmor.out
          omega
        rcases hd with hil | ⟨hil, hi8⟩
        · go_wp2_with (fail)
          ((with_reducible show Met _ _ _); refine Met.intro ?_; go_step; (repeat' apply Exists.intro); refine ⟨?_, rfl⟩)
          exact ⟨by rw [him.out, hM.out, List.take_length], him.out ▸ hown, hbel⟩
        · go_wp2_with (fail)
          ((with_reducible show Met _ _ _); refine Met.intro ?_; go_step; (repeat' apply Exists.intro); refine ⟨?_, rfl⟩)
          exact ⟨by rw [him.out, hM.out, List.take_length], him.out ▸ hown, hbel⟩
  case rest =>
    obtain ⟨rfl, hown, hbel⟩ := hcut
    obtain ⟨ao, capE, rfl, _, hE⟩ := owns_read hown
    clear hown own3 bel3
    have hLb := endAt_bound fl hff fl.length (Nat.le_refl _)
    have hL : (flat fl).length ≤ 3000 := by
      unfold endAt at hLb
      rw [List.take_length] at hLb
      have := hM.out
      omega
    obtain ⟨L, hLL⟩ : ∃ L, L = (flat fl).length := ⟨_, rfl⟩
    have hLH := Lib.hid hLL
    clear hLL
    have hLc : cnt fl L = m := by rw [hLH.out, cnt_all fl _ (Nat.le_refl _), hM.out]
    have hcl : ∀ a, cnt fl a ≤ m := fun a => by rw [hM.out]; exact cnt_le fl a
    go_upto_block 2 with fail
    obtain ⟨rb, hrb⟩ : ∃ rb, rb = wc.heap.size := ⟨_, rfl⟩
    obtain ⟨wr0, hwr0⟩ : ∃ wr0, wr0 = (wc.alloc (.cells #[.string (st []), .int .i64 0] 40)).alloc (.cells #[] 9) := ⟨_, rfl⟩
    have rd0 : Rd wr0 rb [] 0 := by
      rw [hwr0, hrb]
      obtain ⟨h0, h1, h2, h3, h4⟩ := rd_alloc wc 40
      have hk := Below.heap_alloc (wc.alloc (.cells #[.string (st []), .int .i64 0] 40)) (.cells #[] 9) _ h4
      exact ⟨(World.cell?_of_block (a := ⟨_, 0, none⟩) hk).trans h0, (World.cell?_of_block (a := ⟨_, 1, none⟩) hk).trans h1, (World.frozen?_of_block (a := ⟨_, 0, none⟩) hk).trans h2, (World.frozen?_of_block (a := ⟨_, 1, none⟩) hk).trans h3, by simp; omega⟩
    have own0 : wr0.ownsRow (rb + 1) 9 1 (.slice (some ⟨rb + 1, 0, none⟩) 0 0) 0 [] := by
      have h := owns_empty (wc.alloc (.cells #[.string (st []), .int .i64 0] 40)) 9
      rw [hwr0, hrb]
      rwa [show (wc.alloc (.cells #[.string (st []), .int .i64 0] 40)).heap.size = wc.heap.size + 1 from by simp] at h
    have bel0 : Below rb wc wr0 := by
      rw [hwr0, hrb]
      exact ((Below.refl _ _).alloc (Nat.le_refl _) _).alloc (by simp) _
    have hbn : w.heap.size ≤ rb := by rw [hrb]; exact hbel.size
    rw [← hwr0, ← hrb]
    have hRB := Lib.hid hrb
    clear hwr0 hrb
    go_cut [12] (fun a12 wx => wx.ownsRow (rb + 1) 9 1 a12 m (strs fl) ∧ Below rb wc wx)
    case first =>
      go_wp2_with fail
      go_loopw [11, 12, 13] (fun a11 a12 a13 wr => ∃ i a : Nat, a13 = .int .i64 i ∧ a11 = .int .i64 a ∧ wr.ownsRow (rb + 1) 9 1 a12 (cnt fl a) (strs (fl.take (cnt fl a))) ∧ Rd wr rb (heldAt fl a) 0 ∧ Below rb wc wr ∧ a ≤ L ∧ i ≤ lenc + 1 ∧ i ≤ 40 ∧ Hid (lenc + 1 ≤ i ∨ 40 ≤ i → a = L)) (fun _ _ a13 _ => 40 - (intOf a13).toNat)
      case atStart =>
        have c0 : cnt fl 0 = 0 := by
          have := endAt_cnt fl 0
          rcases Nat.eq_zero_or_pos (cnt fl 0) with h | h
          · exact h
          · have h2 := (endAt_iff fl 0 0 (by have := cnt_le fl 0; omega)).2 h
            rw [endAt_next fl 0 (by have := cnt_le fl 0; omega), frameL_len] at h2
            omega
        refine ⟨0, 0, rfl, rfl, ?_, ?_, bel0, Nat.zero_le _, Nat.zero_le _, by omega, fun h => by omega⟩
        · rw [c0]; exact own0
        · unfold heldAt; rw [c0]; simpa using rd0
      case round =>
        obtain ⟨i, a, rfl, rfl, hown, hrd, hb2, haL, hil, hi40, hend⟩ := hrel
        have hd : (i ≤ lenc ∧ i < 40) ∨ ((¬ (i : Int) ≤ lenc) ∨ ((i : Int) ≤ lenc ∧ ¬ (i : Int) < 40)) := by omega
        rcases hd with ⟨hle, hlt⟩ | hex
        · have hle' : (i : Int) ≤ lenc := by omega
          have hlt' : (i : Int) < 40 := by omega
          go_upto_region 15 with fail
          go_cut [85] (fun v wx => v = .bool (decide (i < lenc ∧ i < 39)) ∧ wx = wr)
          case first =>
            by_cases h1 : i < lenc
            · by_cases h2 : i < 39
              · have h1' : (i : Int) < lenc := by omega
                have h2' : (i : Int) < 39 := by omega
                go_wp2_with fail
                ((with_reducible show Met _ _ _); refine Met.intro ?_; go_step; (repeat' apply Exists.intro); refine ⟨?_, rfl⟩)
                exact ⟨by simp [h1, h2], rfl⟩
              · have h1' : (i : Int) < lenc := by omega
                have h2' : ¬ (i : Int) < 39 := by omega
                go_wp2_with fail
                ((with_reducible show Met _ _ _); refine Met.intro ?_; go_step; (repeat' apply Exists.intro); refine ⟨?_, rfl⟩)
                exact ⟨by simp [h1, h2], rfl⟩
            · have h1' : ¬ (i : Int) < lenc := by omega
              go_wp2_with fail
              ((with_reducible show Met _ _ _); refine Met.intro ?_; go_step; (repeat' apply Exists.intro); refine ⟨?_, rfl⟩)
              exact ⟨by simp [h1], rfl⟩
          case rest =>
            obtain ⟨rfl, rfl⟩ := hcut
            go_upto_if 85 with fail
            go_cut [14] (fun v wx => ∃ n : Nat, v = .int .i64 n ∧ a ≤ n ∧ n ≤ L ∧ Hid (lenc ≤ i ∨ 39 ≤ i → n = L) ∧ wx = wc)
            case first =>
              by_cases hdd : i < lenc ∧ i < 39
              · have hde : decide (i < lenc ∧ i < 39) = true := decide_eq_true hdd
                obtain ⟨bd, rfl, hbb, hbc⟩ := (hz.below (hbel.trans ((hRB.out ▸ hb2).mono hbel.size))).at_ i (by omega)
                generalize zs.getD i 0 = z at *
                obtain ⟨j, hj, hj64⟩ := and63 z
                have hw1 : IntKind.i64.wrap ((a : Int) + j) = (a : Int) + j := wrap_i64_id _ (by have := hLH.out; omega) (by have := hLH.out; omega)
                have hil' : (i : Int) < lenc := by omega
                by_cases hbig : L < a + j
                · have hbig' : ((flat fl).length : Int) < (a : Int) + j := by have := hLH.out; omega
                  go_wp2_with fail
                  ((with_reducible show Met _ _ _); refine Met.intro ?_; go_step; (repeat' apply Exists.intro); refine ⟨?_, rfl⟩)
                  exact ⟨L, by rw [hLH.out], haL, Nat.le_refl _, fun _ => rfl, rfl⟩
                · have hbig' : ¬ ((flat fl).length : Int) < (a : Int) + j := by have := hLH.out; omega
                  go_wp2_with fail
                  ((with_reducible show Met _ _ _); refine Met.intro ?_; go_step; (repeat' apply Exists.intro); refine ⟨?_, rfl⟩)
                  exact ⟨a + j, by simp, by omega, by omega, fun h => by omega, rfl⟩
              · have hde : decide (i < lenc ∧ i < 39) = false := decide_eq_false hdd
                go_wp2_with fail
                ((with_reducible show Met _ _ _); refine Met.intro ?_; go_step; (repeat' apply Exists.intro); refine ⟨?_, rfl⟩)
                exact ⟨L, by rw [hLH.out], haL, Nat.le_refl _, fun _ => rfl, rfl⟩
            case rest =>
              obtain ⟨n, rfl, han, hnL, hnend, rfl⟩ := hcut
              have hx : (⟨(flat fl).toArray⟩ : ByteArray).extract a n = st (((flat fl).take n).drop a) := by
                apply ByteArray.ext
                simp [ByteArray.data_extract, List.extract_eq_take_drop, List.drop_take]
              have han' : (a : Int) ≤ n := by omega
              have hnL' : (n : Int) ≤ (flat fl).length := by have := hLH.out; omega
              have cf := fun w hr => feedP rb fl hff hL a n han (by have := hLH.out; omega) w hr
              have hc8 := hcl n
              have hrbl : rb ≤ wc.heap.size := Nat.le_trans (Nat.le_of_eq hRB.out) hb2.size
              go_upto_block 4 with (first | ((with_reducible refine (cf _ hrd).mono ?_); rintro e w5 ⟨v, rfl, ownS, rd5, hg5, hcle⟩; have own5 := own_grown hown hg5 (Nat.lt_succ_self rb)) | (at_builtin; refine wpList_append_rows rfl _ _ 34 rfl (rb + 1) 9 j0 (.string ByteArray.empty) 16 Try.underlying34 hj0 hy0 hy1 hy2 rfl _ _ _ rfl own5 _ _ _ _ rfl ownS ?c1 ?c2 ?c3 ?c4 ?_))
              case c1 => intro u hu; simp only [strs, List.mem_map] at hu; obtain ⟨x, _, rfl⟩ := hu; rfl
              case c2 => unfold maxLen; omega
              case c3 => omega
              case c4 => have := rd5.lt; omega
              intro v' w6 hown6 hg6
              have rd6 := grown_rd rd5 own5 (Nat.lt_succ_self rb) hg6
              have bel6 := (hb2.grown hg5 hrbl (fun k h => by cases h; exact Nat.le_refl _)).grown hg6 (Nat.le_of_lt rd5.lt) (fun k h => by have := (own5.lt k h).1; omega)
              rw [← List.take_add, show cnt fl a + (cnt fl n - cnt fl a) = cnt fl n by omega, ← List.map_take] at hown6
              clear hg6 hg5 own5 ownS hown hrd rd5 hb2 cf hx
              obtain ⟨aoG, capG, rfl, _, _⟩ := owns_read hown6
              have hcn := endAt_cnt fl n
              have hHl : ((heldAt fl n).length : Int) = (n : Int) - (endAt fl (cnt fl n) : Nat) := by
                have := hLH.out
                simp only [heldAt, List.length_drop, List.length_take]
                omega
              have hH6 : (heldAt fl n).length ≤ 1000000 := by have := hLH.out; simp only [heldAt, List.length_drop, List.length_take]; omega
              generalize hcc : cnt fl n = c at *
              go_upto_block 4 with fail
              go_cut [17, 18] (fun a17 a18 wx => a17 = .int .i64 c ∧ a18 = .int .i64 (endAt fl c : Nat) ∧ ∃ nq, wx = w6.drewN nq)
              case first =>
                go_wp2_with fail
                go_loopw [17, 18, 19] (fun a17 a18 a19 wx => ∃ k q nq : Nat, a19 = .int .i64 k ∧ a17 = .int .i64 q ∧ a18 = .int .i64 (endAt fl q : Nat) ∧ wx = w6.drewN nq ∧ k ≤ m ∧ Hid (q = min k c)) (fun _ _ a19 _ => m - (intOf a19).toNat)
                case atStart => exact ⟨0, 0, 0, rfl, rfl, by rw [endAt_zero]; rfl, rfl, Nat.zero_le _, by show _ = _; omega⟩
                case round =>
                  obtain ⟨k, q, nq, rfl, rfl, rfl, rfl, hkm, hq⟩ := hrel
                  by_cases hkl : k < m
                  · have hkl' : (k : Int) < m := by omega
                    obtain ⟨ge, rfl, _, gel, gec⟩ := hE k (.int .i64 (endAt fl (k + 1) : Nat)) (by simp [endsV, hkl])
                    have gec6 : w6.cell? ⟨ge, k, none⟩ = some (.int .i64 (endAt fl (k + 1) : Nat)) := (bel6.cell (p := ⟨ge, k, none⟩) (by rw [hRB.out]; exact gel)).trans gec
                    have hiff := endAt_iff fl n k (by rw [← hM.out]; exact hkl)
                    rw [hcc] at hiff
                    have wk : IntKind.i64.wrap ((k : Int) + 1) = (k : Int) + 1 := wrap_i64_id _ (by omega) (by omega)
                    generalize hEk : endAt fl (k + 1) = Ek at *
                    by_cases hkc : k < c
                    · have h1 : (Ek : Int) ≤ n := by have := hiff.2 hkc; omega
                      clear hiff
                      go_wp2_with fail
                      go_quiet (fail)
                      go_wp2
                      refine ⟨⟨k + 1, k + 1, _, rfl, rfl, by rw [hEk], rfl, hkl, ?_⟩, by simp [intOf]; omega⟩
                      show _ = _
                      omega
                    · have h1 : ¬ (Ek : Int) ≤ n := by
                        intro h
                        exact hkc (hiff.1 (by omega))
                      clear hiff
                      go_wp2_with fail
                      refine ⟨⟨k + 1, q, _, rfl, rfl, rfl, rfl, hkl, ?_⟩, by simp [intOf]; omega⟩
                      have := hq.out
                      show _ = _
                      omega
                  · have hkl' : ¬ (k : Int) < m := by omega
                    go_wp2_with fail
                    ((with_reducible show Met _ _ _); refine Met.intro ?_; go_step; (repeat' apply Exists.intro); refine ⟨?_, rfl⟩)
                    have := hq.out
                    have hqc : q = c := by omega
                    exact ⟨by rw [hqc], by rw [hqc], _, rfl⟩
              case rest =>
                obtain ⟨rfl, rfl, nq, rfl⟩ := hcut
                have ch := held_c rb (heldAt fl n) (w6.drewN nq) rd6.held hH6
                have hwh : IntKind.i64.wrap ((n : Int) - (endAt fl c : Nat)) = ((heldAt fl n).length : Int) := by rw [hHl, wrap_i64_id _ (by omega) (by have := hLH.out; omega)]
                have wi : IntKind.i64.wrap ((i : Int) + 1) = (i : Int) + 1 := wrap_i64_id _ (by omega) (by omega)
                generalize hgd' : heldAt fl n = hd6 at *
                have hgd := Lib.hid hgd'
                have hcd := Lib.hid hcc
                clear hHl hgd' hcc
                go_wp2_with ((with_reducible refine ch.mono ?_); rintro e w7 ⟨rfl, rfl⟩)
                refine ⟨⟨i + 1, n, rfl, rfl, by rw [hcd.out]; exact hown6, by rw [hgd.out]; exact ⟨rd6.held, rd6.err, rd6.f0, rd6.f1, rd6.lt⟩, ⟨bel6.os, bel6.tape, bel6.output, bel6.size, bel6.block⟩, hnL, by omega, by omega, fun h => hnend.out (by omega)⟩, by simp [intOf]; omega⟩
        · rcases hex with h | ⟨h, h'⟩
          · go_wp2_with fail
            ((with_reducible show Met _ _ _); refine Met.intro ?_; go_step; (repeat' apply Exists.intro); refine ⟨?_, rfl⟩)
            · have e := hend.out (by omega)
              rw [e, hLc] at hown
              rw [List.take_of_length_le (by rw [hM.out]; exact Nat.le_refl _)] at hown
              exact ⟨hown, hb2⟩
          · go_wp2_with fail
            ((with_reducible show Met _ _ _); refine Met.intro ?_; go_step; (repeat' apply Exists.intro); refine ⟨?_, rfl⟩)
            · have e := hend.out (by omega)
              rw [e, hLc] at hown
              rw [List.take_of_length_le (by rw [hM.out]; exact Nat.le_refl _)] at hown
              exact ⟨hown, hb2⟩
    case rest =>
      obtain ⟨hownG, hbG⟩ := hcut
      obtain ⟨aoG, capG, rfl, _, hG⟩ := owns_read hownG
      have hbA : Below w.heap.size w wc := hbel.trans (hbG.mono hbn)
      have hA := hs.below hbA
      clear hownG hbG hE
      go_wp2_with fail
      go_loopw [20] (fun v wr => ∃ i : Nat, v = .int .i64 i ∧ Below wc.heap.size wc wr ∧ i ≤ m) (fun v _ => m - (intOf v).toNat)
      case atStart => exact ⟨0, rfl, Below.refl _ _, Nat.zero_le _⟩
      case round =>
        obtain ⟨i, rfl, hbr, him⟩ := hrel
        by_cases hlt : i < m
        · have hlt' : (i : Int) < m := by omega
          have hlen' : (i : Int) < len := by omega
          have hlen : i < len := by omega
          obtain ⟨ad, rfl, hab, hac⟩ := (hA.below hbr).at_ i hlen
          have hXl := hs.each i hlen
          have hX := hfl i hlt
          have hgk : (strs fl)[i]? = some (.string (st (fl.getD i []))) := by
            have : i < fl.length := by rw [← hM.out]; exact hlt
            simp [strs, List.getD, this]
          obtain ⟨g, rfl, _, hgl, hgc⟩ := hG i _ hgk
          have hgl' := Nat.lt_of_lt_of_le hgl hbr.size
          have hgc' := (hbr.cell (p := ⟨g, i, none⟩) hgl).trans hgc
          generalize ss.getD i [] = X at *
          have c9 : ∀ w : World, Calls Try.prog 14 #[.string (st X)] w fun e w' => e = .returned (.string (st (fl.getD i []))) ∧ Below w.heap.size w w' := fun w => by
            rw [hX]
            exact (few_c X w hXl).mono fun e w' ⟨h1, h2⟩ => ⟨h1, h2 ▸ Below.refl _ _⟩
          clear hX hgk hgc
          generalize fl.getD i [] = f at *
          have wi : IntKind.i64.wrap ((i : Int) + 1) = (i : Int) + 1 := wrap_i64_id _ (by omega) (by omega)
          go_wp2_with fail
          refine wp_region_flow [] (by kernel_rfl) (by kernel_rfl) ?_
          repeat ((refine wpFlow_steps (fun K hK => ?_); go_simp; first | (with_reducible refine hK _ ?_; clear hK K) | (apply Exists.intro; (with_reducible refine ⟨fun _ => ⟨?_, _, rfl⟩, hK _ ?_⟩); (· exact rfl); clear hK K) | (apply Exists.intro; (with_reducible refine ⟨fun _ => ⟨_, rfl⟩, hK _ ?_⟩); clear hK K) | (apply Exists.intro; (with_reducible refine ⟨fun _ => ?_, hK _ ?_⟩); (· (with_reducible (first | exact c9 _))); clear hK K)))
          (refine wpFlow_nil ?_; rintro w1 ⟨q0, hq0⟩; have hb := In.h q0; rw [← hq0] at hb; clear hq0 q0; (first | ((with_reducible obtain ⟨p, hw''⟩ := In.of2 p hb); subst hw'') | (obtain ⟨p, hw''⟩ := In.of hb; subst hw'')); go_simp; intros)
          go_wp2_with fail
          exact ⟨⟨i + 1, rfl, hbr.trans (hb.mono hbr.size), hlt⟩, by simp [intOf]; omega⟩
        · have hlt' : ¬ (i : Int) < m := by omega
          go_wp2_with ((with_reducible refine (awake_c _).mono ?_); rintro e w7 ⟨rfl, hb7⟩)
          go_ret
          exact ⟨rfl, hbA.trans ((hbr.trans (hb7.mono hbr.size)).mono hbA.size)⟩
end Go.Proofs.Ytijkliffgihglaa
