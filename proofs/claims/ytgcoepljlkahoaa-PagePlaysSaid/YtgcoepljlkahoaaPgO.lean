
/-
  Pages: the reference's Get.
-/
import Derived.Test.YtgcoepljlkahoaaPgN
import Derived.Test.YtgcoepljlkahoaaPgL
import Derived.Test.YtgcoepljlkahoaaPgF
import Derived.Test.YtgcoepljlkahoaaRwd
set_option linter.unusedSimpArgs false
set_option linter.unusedVariables false
namespace Go.Proofs.Ytgcoepljlkahoaa
open Go.RowKit

/-- a byte, as a number -/
def bn (s : List UInt8) (k : Nat) : Nat := (s.getD k 0).toNat
theorem bn_lt (s : List UInt8) (k : Nat) : bn s k < 256 := (s.getD k 0).toNat_lt
theorem bn_get (s : List UInt8) (k : Nat) (h : k < s.length) : ((st s)[k]'(st_lt h)).toNat = bn s k := by
  rw [st_get s k h]
  unfold bn
  rw [List.getD_eq_getElem?_getD, List.getElem?_eq_getElem h]
  rfl
def cntB (s : List UInt8) : Nat := bn s 0 * 256 + bn s 1
def atB (T : List UInt8) : Nat := bn T 8 * 256 + bn T 9
def longB (T : List UInt8) : Nat := bn T 10 * 256 + bn T 11
/-- the i-th record of a page's bytes -/
def recAt (s : List UInt8) (i : Nat) : Rec := (wide (((s.drop (2 + 12 * i)).take 8).take 8), (s.take (atB (s.drop (2 + 12 * i)) + longB (s.drop (2 + 12 * i)))).drop (atB (s.drop (2 + 12 * i))))
def fits (s : List UInt8) (i : Nat) : Prop := atB (s.drop (2 + 12 * i)) + longB (s.drop (2 + 12 * i)) ≤ 512
def recs (s : List UInt8) (i : Nat) : List Rec := (List.range i).map (recAt s)
theorem recs_len (s : List UInt8) (i : Nat) : (recs s i).length = i := by simp [recs]
theorem recs_next (s : List UInt8) (i : Nat) : recs s (i + 1) = recs s i ++ [recAt s i] := by
  unfold recs
  rw [List.range_succ, List.map_append]
  rfl
theorem recs_get {s : List UInt8} {n i : Nat} (h : i < n) : (recs s n)[i]? = some (recAt s i) := by
  unfold recs
  rw [List.getElem?_map, List.getElem?_range h]
  rfl
theorem flat_snoc (l : List Rec) (b : Rec) : flat (l ++ [b]) = flat l ++ [.int .u64 (b.1 : Int), .string (st b.2)] := by rw [flat_append]; rfl
theorem rises_adj {l : List Rec} (h : ∀ (j : Nat) (a b : Rec), l[j]? = some a → l[j + 1]? = some b → a.1 < b.1) : Rises l := by
  suffices hh : ∀ (d i : Nat) (a b : Rec), l[i]? = some a → l[i + d + 1]? = some b → a.1 < b.1 from by
    intro i j a b hij ha hb
    exact hh (j - i - 1) i a b ha (by rw [show i + (j - i - 1) + 1 = j by omega]; exact hb)
  intro d
  induction d with
  | zero => exact fun i a b ha hb => h i a b ha hb
  | succ d ih =>
    intro i a b ha hb
    have hl : i + d + 1 < l.length := by have := (List.getElem?_eq_some_iff.1 hb).1; omega
    have h1 := ih i a l[i + d + 1] ha (by simp)
    have h2 := h (i + d + 1) l[i + d + 1] b (by simp) hb
    omega
theorem recs_sum (s : List UInt8) (hs : s.length = 512) : ∀ i, sumL (recs s i) ≤ 512 * i
  | 0 => by simp [recs, sumL]
  | i + 1 => by
    have ih := recs_sum s hs i
    rw [recs_next, sumL_append]
    have : (recAt s i).2.length ≤ 512 := by
      unfold recAt
      rw [List.length_drop, List.length_take]
      omega
    have e : sumL [recAt s i] = (recAt s i).2.length := by simp [sumL]
    omega
theorem recs_id (s : List UInt8) (i : Nat) : ∀ b ∈ recs s i, b.1 ≤ 18446744073709551615 := by
  intro b hb
  obtain ⟨j, _, rfl⟩ := List.mem_map.1 hb
  unfold recAt
  have h1 := wide_lt (((s.drop (2 + 12 * j)).take 8).take 8)
  have h2 : (((s.drop (2 + 12 * j)).take 8).take 8).length ≤ 8 := by rw [List.length_take]; omega
  have h3 : 256 ^ (((s.drop (2 + 12 * j)).take 8).take 8).length ≤ 256 ^ 8 := Nat.pow_le_pow_right (by decide) h2
  dsimp only
  omega
structure GetOk (s : List UInt8) : Prop where
  few : cntB s ≤ 42
  fit : ∀ j, j < cntB s → fits s j
  rise : Rises (recs s (cntB s))
  room : usedN (recs s (cntB s)) ≤ 512
  enc : encL (recs s (cntB s)) = s
def RGetEnds (s : List UInt8) (w : World) (e : Ending) (w' : World) : Prop :=
  Below w.heap.size w w' ∧ ((GetOk s ∧ ∃ A cap, e = .returned (.tuple #[.slice A (recs s (cntB s)).length cap, .int .i64 0]) ∧ BodiesAt w' A (recs s (cntB s))) ∨ (¬ GetOk s ∧ e = .returned (.tuple #[.slice none 0 0, .int .i64 6])))
abbrev rgetRet : List Nat := []
set_option maxRecDepth 8000 in
set_option maxHeartbeats 8000000 in
theorem rget_c (s : List UInt8) (w : World) (hs : s.length = 512) :
    Calls Try.prog 12 #[.string (st s)] w (RGetEnds s w) := by
  obtain ⟨i0, hi0, hz0, hz1, hz2⟩ := bodyK_info
  obtain ⟨GOAL, hG⟩ : ∃ G, G = RGetEnds s w := ⟨_, rfl⟩
  rw [← hG]
  have hGo := Lib.hid hG
  clear hG
  have h0 := bn_get s 0 (by omega)
  have h1 := bn_get s 1 (by omega)
  have hl : (s.length : Int) = 512 := by omega
  have b0 := bn_lt s 0
  have b1 := bn_lt s 1
  have j0 : 0 < s.length := by omega
  have j1 : 1 < s.length := by omega
  obtain ⟨n, hn⟩ : ∃ n, n = cntB s := ⟨_, rfl⟩
  have hnz : (bn s 0 : Int) * 256 + bn s 1 = (n : Int) := by unfold cntB at hn; omega
  have wn1 : IntKind.i64.wrap ((bn s 0 : Int) * 256) = (bn s 0 : Int) * 256 := by rw [IntKind.wrap_i64]; omega
  have wn0 : IntKind.i64.wrap (bn s 0 : Int) = (bn s 0 : Int) := by rw [IntKind.wrap_i64]; omega
  have wn2 : IntKind.i64.wrap (bn s 1 : Int) = (bn s 1 : Int) := by rw [IntKind.wrap_i64]; omega
  have wn3 : IntKind.i64.wrap (n : Int) = (n : Int) := by rw [IntKind.wrap_i64]; omega
  have hnh := Lib.hid hn
  clear hn
  go_enter Try.func12, Try.ntmps12
  go_upto_region 5 with fail
  (refine wp_region_rel_at (11) [25, 5] [] (by kernel_rfl) (by kernel_rfl) (by kernel_rfl) ?_; (simp only [List.take_succ_cons, List.take_zero, List.drop_succ_cons, List.drop_zero]))
  iterate 8 (((with_reducible refine wpRel_none (by kernel_rfl) (by kernel_rfl) ?_); intro K hK; go_simp; first | (with_reducible refine hK _ ?_; clear hK K) | (apply Exists.intro; (with_reducible refine ⟨fun _ => ⟨?_, _, rfl⟩, hK _ ?_⟩); (· exact rfl); clear hK K) | (apply Exists.intro; (with_reducible refine ⟨fun _ => ?_, hK _ ?_⟩); (· (with_reducible (fail))); clear hK K)))
  ((with_reducible refine wpRel_fact [] (25) (RowAt (w.heap.size) (#[]) (53) (0)) (by kernel_rfl) rfl rfl (RowAt.steady _ _ _ _) (by first | exact rfl | go_simp) ?_ ?_); (· intro p; rw [pickR_nil]; (simp only [fillR]); go_wp2_with fail; exact row_post p.h.size rfl rfl))
  ((with_reducible refine wpRel_none (by kernel_rfl) (by kernel_rfl) ?_); intro K hK; go_simp; first | (with_reducible refine hK _ ?_; clear hK K) | (apply Exists.intro; (with_reducible refine ⟨fun _ => ⟨?_, _, rfl⟩, hK _ ?_⟩); (· exact rfl); clear hK K) | (apply Exists.intro; (with_reducible refine ⟨fun _ => ?_, hK _ ?_⟩); (· (with_reducible (fail))); clear hK K))
  (with_reducible refine wpRel_fact [25] (5) ((RowAt w.heap.size #[] 53 0)) (by kernel_rfl) rfl rfl ((RowAt.steady _ _ _ _)) (by first | exact rfl | go_simp) (fun p => ?_) ?_)
  · (try simp only [pickR, pickR_nil, fillR, List.contains_cons, List.contains_nil, Nat.reduceBEq, Bool.or_false, Bool.or_true, Bool.true_or, Bool.false_or, if_true, if_false, Bool.false_eq_true])
    rintro u ⟨b, hb, rfl, zb⟩
    go_wp2_with fail
    exact ⟨fun h => (nomatch h), rfl, rfl, Below.refl _ _, b, hb, rfl, zb⟩
  ((with_reducible refine wpRel_nil ?_); intro p; (simp only [fillR]))
  rintro u5 ⟨b5, hb5, rfl, z5⟩ u25 _ _
  go_simp
  have hbp := p.h
  generalize p.w = w1 at *
  clear p wn0 wn1 wn2 b0 b1 hnz h0 h1 j0 j1
  have own5 : Hid (w1.ownsRow w.heap.size 53 2 (.slice (some ⟨b5, 0, none⟩) 0 0) 0 (flat (recs s 0))) := Lib.hid ⟨rfl, .inr ⟨b5, 0, #[], rfl, hb5, z5, Nat.le_refl _, by unfold maxLen; omega, by simp, by simp [flat, recs]⟩⟩
  clear z5 hb5
  by_cases hn42 : 42 < n
  · have hn42' : (42 : Int) < n := by omega
    go_wp2_with fail
    rw [hGo.out]
    exact ⟨hbp, .inr ⟨fun h => by have h1 := h.few; have h2 := hnh.out; omega, rfl⟩⟩
  · have hn42' : ¬ (42 : Int) < n := by omega
    go_wp2_with fail
    go_loopw [5, 6] (fun a5 a6 wr => ∃ i : Nat, a6 = .int .i64 i ∧ i ≤ n ∧ Hid (wr.ownsRow w.heap.size 53 2 a5 i (flat (recs s i))) ∧ Hid (∀ j, j < i → fits s j) ∧ Below w.heap.size w wr) (fun _ a _ => n - (intOf a).toNat)
    case atStart => exact ⟨0, rfl, Nat.zero_le _, own5, Lib.hid (fun j h => absurd h (Nat.not_lt_zero _)), hbp⟩
    case round =>
      clear own5 hbp
      obtain ⟨i, rfl, hi, hown, hfit, hbr⟩ := hrel
      have w3i : IntKind.i64.wrap ((i : Int) + 1) = (i : Int) + 1 := by rw [IntKind.wrap_i64]; omega
      by_cases hin : i < n
      · have hin' : (i : Int) < n := by omega
        have o1 : IntKind.i64.wrap (12 * (i : Int)) = 12 * (i : Int) := by rw [IntKind.wrap_i64]; omega
        have o2 : IntKind.i64.wrap (2 + 12 * (i : Int)) = 2 + 12 * (i : Int) := by rw [IntKind.wrap_i64]; omega
        have o3 : 2 + 12 * (i : Int) ≤ 512 := by omega
        have hnext := Lib.hid (recs_next s i)
        have hrec : Hid (recAt s i = (wide (((s.drop (2 + 12 * i)).take 8).take 8), (s.take (atB (s.drop (2 + 12 * i)) + longB (s.drop (2 + 12 * i)))).drop (atB (s.drop (2 + 12 * i))))) := Lib.hid rfl
        have hfi : Hid (fits s i ↔ atB (s.drop (2 + 12 * i)) + longB (s.drop (2 + 12 * i)) ≤ 512) := Lib.hid Iff.rfl
        go_upto_region 12 with fail
        have hT : List.drop (2 + 12 * i) (List.take 512 s) = s.drop (2 + 12 * i) := by rw [List.take_of_length_le (by omega)]
        rw [hT]
        have hTl : (s.drop (2 + 12 * i)).length = 512 - (2 + 12 * i) := by rw [List.length_drop, hs]
        have t12 : 12 ≤ (s.drop (2 + 12 * i)).length := by omega
        clear hT o1 o2 o3 hTl
        generalize s.drop (2 + 12 * i) = T at *
        have g8 := bn_get T 8 (by omega)
        have g9 := bn_get T 9 (by omega)
        have g10 := bn_get T 10 (by omega)
        have g11 := bn_get T 11 (by omega)
        have l8 := bn_lt T 8
        have l9 := bn_lt T 9
        have l10 := bn_lt T 10
        have l11 := bn_lt T 11
        have k8 : 8 < T.length := by omega
        have k9 : 9 < T.length := by omega
        have k10 : 10 < T.length := by omega
        have k11 : 11 < T.length := by omega
        have k0 : (8 : Int) ≤ T.length := by omega
        have y8 : (8 : Int) < T.length := by omega
        have y9 : (9 : Int) < T.length := by omega
        have y10 : (10 : Int) < T.length := by omega
        have y11 : (11 : Int) < T.length := by omega
        obtain ⟨q, hq⟩ : ∃ q, q = atB T := ⟨_, rfl⟩
        obtain ⟨r, hr⟩ : ∃ r, r = longB T := ⟨_, rfl⟩
        have hqz : (bn T 8 : Int) * 256 + bn T 9 = (q : Int) := by unfold atB at hq; omega
        have hrz : (bn T 10 : Int) * 256 + bn T 11 = (r : Int) := by unfold longB at hr; omega
        have hqm : q < 65536 := by omega
        have hrm : r < 65536 := by omega
        have m1 : IntKind.i64.wrap ((bn T 8 : Int) * 256) = (bn T 8 : Int) * 256 := by rw [IntKind.wrap_i64]; omega
        have m2 : IntKind.i64.wrap ((bn T 10 : Int) * 256) = (bn T 10 : Int) * 256 := by rw [IntKind.wrap_i64]; omega
        have m3 : IntKind.i64.wrap (bn T 8 : Int) = (bn T 8 : Int) := by rw [IntKind.wrap_i64]; omega
        have m4 : IntKind.i64.wrap (bn T 9 : Int) = (bn T 9 : Int) := by rw [IntKind.wrap_i64]; omega
        have m5 : IntKind.i64.wrap (bn T 10 : Int) = (bn T 10 : Int) := by rw [IntKind.wrap_i64]; omega
        have m6 : IntKind.i64.wrap (bn T 11 : Int) = (bn T 11 : Int) := by rw [IntKind.wrap_i64]; omega
        have m7 : IntKind.i64.wrap (q : Int) = (q : Int) := by rw [IntKind.wrap_i64]; omega
        have m8 : IntKind.i64.wrap (r : Int) = (r : Int) := by rw [IntKind.wrap_i64]; omega
        have m9 : IntKind.i64.wrap ((q : Int) + r) = (q : Int) + r := by rw [IntKind.wrap_i64]; omega
        rw [← hq, ← hr] at hrec hfi
        have hqh := Lib.hid hq
        have hrh := Lib.hid hr
        clear hq hr
        (refine wp_region_flow [] (by kernel_rfl) (by kernel_rfl) ?_; (repeat (((with_reducible refine wpFlow_steps ?_); intro K hK; go_simp; first | (with_reducible refine hK _ ?_; clear hK K) | (apply Exists.intro; (with_reducible refine ⟨fun _ => ⟨?_, _, rfl⟩, hK _ ?_⟩); (· exact rfl); clear hK K) | (apply Exists.intro; (with_reducible refine ⟨fun _ => ⟨_, rfl⟩, hK _ ?_⟩); clear hK K) | (apply Exists.intro; (with_reducible refine ⟨fun _ => ?_, hK _ ?_⟩); (· (with_reducible (fail))); clear hK K)))); (refine wpFlow_nil ?_; rintro w1 ⟨q0, hq0⟩; have hb := In.h q0; rw [← hq0] at hb; clear hq0 q0; (first | ((with_reducible obtain ⟨p, hw''⟩ := In.of2 p hb); subst hw'') | (obtain ⟨p, hw''⟩ := In.of hb; subst hw'')); go_simp; intros))
        have hbq := hbr.trans (p.h.mono hbr.size)
        have hownq := Lib.hid (own_below hown.out p.h)
        generalize p.w = w2 at *
        clear p m1 m2 m3 m4 m5 m6 g8 g9 g10 g11 l8 l9 l10 l11 k8 k9 k10 k11 hqz hrz hbr hown
        clear y8 y9 y10 y11 wn3 hn42'
        by_cases hqr : 512 < q + r
        · have hqr' : (512 : Int) < (q : Int) + r := by omega
          go_wp2_with fail
          rw [hGo.out]
          exact ⟨hbq, .inr ⟨fun h => by have h1 := h.fit i (by rw [← hnh.out]; exact hin); rw [hfi.out] at h1; omega, rfl⟩⟩
        · have hqr' : ¬ (512 : Int) < (q : Int) + r := by omega
          have hfit2 : Hid (∀ j, j < i + 1 → fits s j) := Lib.hid fun j hj => by
            by_cases e : j = i
            · rw [e]
              exact hfi.out.2 (by omega)
            · exact hfit.out j (by omega)
          go_upto_region 15 with fail
          obtain ⟨id, hid⟩ : ∃ id, id = wide ((T.take 8).take 8) := ⟨_, rfl⟩
          rw [← hid] at hrec
          have cw : ∀ w, Calls Try.prog 25 #[.string (st (T.take 8))] w fun e w'' => e = .returned (.int .u64 (id : Int)) ∧ Below w.heap.size w w'' := fun w => by
            have := below_of_same (rwide_c (T.take 8) w (by rw [List.length_take]; unfold maxLen; omega))
            rw [hid]
            exact this
          clear hid
          have f1 : 0 ≤ (q : Int) + r := by omega
          have f2 : (q : Int) ≤ (q : Int) + r := by omega
          have f3 : ((q : Int) + r).toNat = q + r := by omega
          have f4 : (q : Int) + r ≤ 512 := by omega
          (refine wp_region_rel_at (12) [69] [] (by kernel_rfl) (by kernel_rfl) (by kernel_rfl) ?_; (simp only [List.take_succ_cons, List.take_zero, List.drop_succ_cons, List.drop_zero]))
          iterate 11 (((with_reducible refine wpRel_none (by kernel_rfl) (by kernel_rfl) ?_); intro K hK; go_simp; first | (with_reducible refine hK _ ?_; clear hK K) | (apply Exists.intro; (with_reducible refine ⟨fun _ => ⟨?_, _, rfl⟩, hK _ ?_⟩); (· exact rfl); clear hK K) | (apply Exists.intro; (with_reducible refine ⟨fun _ => ?_, hK _ ?_⟩); (· (with_reducible (first | exact cw _))); clear hK K)))
          ((with_reducible refine wpRel_fact [] (69) (RowAt (w2.heap.size) (#[.int .u64 (id : Int), .string (st ((s.take (q + r)).drop q))]) (53) (1)) (by kernel_rfl) rfl rfl (RowAt.steady _ _ _ _) (by first | exact rfl | go_simp) ?_ ?_); (· intro p; rw [pickR_nil]; (simp only [fillR]); go_wp2_with fail; exact row_post p.h.size rfl rfl))
          ((with_reducible refine wpRel_nil ?_); intro p; (simp only [fillR]))
          rintro u69 ⟨b69, h69, rfl, z69⟩ -
          have hownp := Lib.hid (own_below hownq.out p.h)
          have hbp2 := hbq.trans (p.h.mono hbq.size)
          have hbs : w.heap.size ≤ p.w.heap.size := hbp2.size
          generalize p.w = w4 at *
          clear p cw f1 f2 f3 f4 hbq hownq
          have z69 := Lib.hid z69
          have d1 : ∀ (j : Nat) (u : Value), [Value.int .u64 (id : Int), .string (st ((s.take (q + r)).drop q))][j]? = some u → w4.cell? ((⟨b69, 0, none⟩ : Addr).add j) = some u := fun j u hu => by
            rw [insAdd, Nat.zero_add, cell_of z69.out j]
            simpa using hu
          have d1 := Lib.hid d1
          have d2 : Hid (∀ u ∈ [Value.int .u64 (id : Int), .string (st ((s.take (q + r)).drop q))], u.oneCell' = true) := Lib.hid fun u hu => by simp only [List.mem_cons, List.not_mem_nil, or_false] at hu; rcases hu with rfl | rfl <;> rfl
          have d3 : Hid (i + 1 ≤ maxLen) := Lib.hid (by unfold maxLen; omega)
          have d4 : Hid ((i + 1) * 24 ≤ 140737488355328) := Lib.hid (by omega)
          go_wp2_with (at_builtin; refine wpList_append_own _ rfl _ _ 34 rfl w.heap.size 53 i0 (.agg #[.int .u64 0, .string ByteArray.empty]) 2 24 Try.underlying34 hi0 hz0 hz1 hz2 rfl (by decide) _ _ _ rfl hownp.out ⟨b69, 0, none⟩ 1 1 [.int .u64 (id : Int), .string (st ((s.take (q + r)).drop q))] rfl rfl d1.out d2.out d3.out d4.out hbs ?_)
          have hownq := hownp.out
          clear hownp d1 d2 d3 d4 z69
          intro v7 w7 hown7 hgrow7 _
          have hb7 : Below w.heap.size w w7 := hbp2.grown hgrow7 hbs fun k hk => (hownq.lt k hk).1
          have hown7 : Hid (w7.ownsRow w.heap.size 53 2 v7 (i + 1) (flat (recs s (i + 1)))) := Lib.hid (by
            rw [hnext.out, flat_snoc, hrec.out]
            exact hown7)
          clear hownq hgrow7 hbp2
          go_wp2_with fail
          exact ⟨⟨i + 1, by simp, hin, hown7, hfit2, hb7⟩, by simp [intOf]; omega⟩
      · have hin' : ¬ (i : Int) < n := by omega
        obtain rfl : i = n := by omega
        obtain ⟨A5, c5, hv5, hB5, _⟩ := BodiesAt.ofOwn hown.out (recs_len s i).symm
        subst hv5
        have hsum : sumL (recs s i) ≤ 512 * i := recs_sum s hs i
        have hrl := recs_len s i
        have cu := used_c A5 c5 (recs s i)
        have cp := fun w' (hB : BodiesAt w' A5 (recs s i)) (hu : usedN (recs s i) ≤ 512) => rput_c A5 c5 (recs s i) w' hB hu (recs_id s i)
        rw [hrl] at cu cp
        have cu1 := fun w' hB => cu w' hB (by omega) (by omega)
        clear cu hsum hown wn3 w3i hn42'
        rw [hrl]
        go_wp2_with fail
        have hbw := hbr
        have hnn := hnh
        have hfitn := hfit
        go_loopw [10] (fun a10 wz => ∃ j : Nat, a10 = .int .i64 j ∧ 1 ≤ j ∧ j ≤ i + 1 ∧ Hid (∀ (k : Nat) (a b : Rec), k + 1 < j → (recs s i)[k]? = some a → (recs s i)[k + 1]? = some b → a.1 < b.1) ∧ Below wr.heap.size wr wz) (fun a _ => i + 1 - (intOf a).toNat)
        case atStart => exact ⟨1, rfl, Nat.le_refl _, by omega, Lib.hid (fun k a b h => by omega), Below.refl _ _⟩
        case round =>
          obtain ⟨j, rfl, hj1, hji1, hadj, hbz⟩ := hrel
          have hbwz := hbw.trans (hbz.mono hbw.size)
          obtain ⟨k, rfl⟩ : ∃ k, j = k + 1 := ⟨j - 1, by omega⟩
          have wk0 : IntKind.i64.wrap (k : Int) = (k : Int) := by rw [IntKind.wrap_i64]; omega
          have wk1 : IntKind.i64.wrap ((k : Int) + 1 - 1) = (k : Int) := by rw [IntKind.wrap_i64]; omega
          have wk2 : IntKind.i64.wrap ((k : Int) + 1 + 1) = (k : Int) + 1 + 1 := by rw [IntKind.wrap_i64]; omega
          by_cases hji : k + 1 < i
          · have hji' : (k : Int) + 1 < i := by omega
            have hki : (k : Int) < i := by omega
            have hk0 : (0 : Int) ≤ (k : Int) + 1 := by omega
            have ga := recs_get (s := s) (show k < i by omega)
            have gb := recs_get (s := s) hji
            obtain ⟨ad, hA, hBa⟩ := hB5 k _ ga
            obtain ⟨ad2, hA2, hBb⟩ := hB5 (k + 1) _ gb
            subst hA
            cases hA2
            generalize recAt s k = a at *
            generalize recAt s (k + 1) = b at *
            obtain ⟨q6, q0, q1⟩ := hBa.keep hbz
            obtain ⟨r6, r0, r1⟩ := hBb.keep hbz
            have ga := Lib.hid ga
            have gb := Lib.hid gb
            clear hB5 hBa hBb cu1 cp
            by_cases hab : b.1 ≤ a.1
            · have hab' : (b.1 : Int) ≤ a.1 := by omega
              go_upto_region 19 with fail
              (refine wp_region_flow [] (by kernel_rfl) (by kernel_rfl) ?_; (repeat (((with_reducible refine wpFlow_steps ?_); intro K hK; go_simp; first | (with_reducible refine hK _ ?_; clear hK K) | (apply Exists.intro; (with_reducible refine ⟨fun _ => ⟨?_, _, rfl⟩, hK _ ?_⟩); (· exact rfl); clear hK K) | (apply Exists.intro; (with_reducible refine ⟨fun _ => ⟨_, rfl⟩, hK _ ?_⟩); clear hK K) | (apply Exists.intro; (with_reducible refine ⟨fun _ => ?_, hK _ ?_⟩); (· (with_reducible (fail))); clear hK K)))); (refine wpFlow_nil ?_; rintro w1 ⟨q0, hq0⟩; have hb := In.h q0; rw [← hq0] at hb; clear hq0 q0; (first | ((with_reducible obtain ⟨p, hw''⟩ := In.of2 p hb); subst hw'') | (obtain ⟨p, hw''⟩ := In.of hb; subst hw'')); go_simp; intros))
              have hbf := hbwz.trans (p.h.mono hbwz.size)
              go_wp2_with fail
              rw [hGo.out]
              exact ⟨hbf, .inr ⟨fun h => by have h1 := h.rise; rw [← hnn.out] at h1; have := h1 k (k + 1) a b (by omega) ga.out gb.out; omega, rfl⟩⟩
            · have hab' : ¬ (b.1 : Int) ≤ a.1 := by omega
              have hadj2 : Hid (∀ (t : Nat) (x y : Rec), t + 1 < k + 1 + 1 → (recs s i)[t]? = some x → (recs s i)[t + 1]? = some y → x.1 < y.1) := Lib.hid fun t x y ht hx hy => by
                by_cases e : t = k
                · subst e
                  rw [ga.out] at hx
                  rw [gb.out] at hy
                  cases hx
                  cases hy
                  omega
                · exact hadj.out t x y (by omega) hx hy
              go_upto_region 19 with fail
              (refine wp_region_flow [] (by kernel_rfl) (by kernel_rfl) ?_; (repeat (((with_reducible refine wpFlow_steps ?_); intro K hK; go_simp; first | (with_reducible refine hK _ ?_; clear hK K) | (apply Exists.intro; (with_reducible refine ⟨fun _ => ⟨?_, _, rfl⟩, hK _ ?_⟩); (· exact rfl); clear hK K) | (apply Exists.intro; (with_reducible refine ⟨fun _ => ⟨_, rfl⟩, hK _ ?_⟩); clear hK K) | (apply Exists.intro; (with_reducible refine ⟨fun _ => ?_, hK _ ?_⟩); (· (with_reducible (fail))); clear hK K)))); (refine wpFlow_nil ?_; rintro w1 ⟨q0, hq0⟩; have hb := In.h q0; rw [← hq0] at hb; clear hq0 q0; (first | ((with_reducible obtain ⟨p, hw''⟩ := In.of2 p hb); subst hw'') | (obtain ⟨p, hw''⟩ := In.of hb; subst hw'')); go_simp; intros))
              have hbf := hbz.trans (p.h.mono hbz.size)
              go_wp2_with fail
              exact ⟨⟨k + 1 + 1, by simp, by omega, by omega, hadj2, hbf⟩, by simp [intOf]; omega⟩
          · have hji' : ¬ (k : Int) + 1 < i := by omega
            have hR : Rises (recs s i) := rises_adj fun t x y hx hy => by
              have := (List.getElem?_eq_some_iff.1 hy).1
              rw [recs_len] at this
              exact hadj.out t x y (by omega) hx hy
            have hBz := hB5.keep hbz
            have cu2 := cu1 _ hBz
            clear cu1
            by_cases hu : usedN (recs s i) ≤ 512
            · have hu' : ¬ (512 : Int) < (usedN (recs s i) : Int) := by omega
              have cp2 := fun (p : In wr) => cp p.w (hBz.keep p.h) hu
              unfold StrEnds at cp2
              by_cases he : encL (recs s i) = s
              · rw [he] at cp2
                have hok : Hid (GetOk s) := Lib.hid ⟨by rw [← hnn.out]; omega, by rw [← hnn.out]; exact hfitn.out, by rw [← hnn.out]; exact hR, by rw [← hnn.out]; exact hu, by rw [← hnn.out]; exact he⟩
                clear cp he hR hu hB5
                go_wp2_with (first | ((with_reducible refine cu2.mono ?_); rintro e w5 ⟨rfl, hb5⟩; (first | ((with_reducible obtain ⟨p, hw''⟩ := In.of2 p hb5); subst hw'') | (obtain ⟨p, hw''⟩ := In.of hb5; subst hw''))) | ((with_reducible refine (cp2 _).mono ?_); rintro e w6 ⟨rfl, hb6⟩; (first | ((with_reducible obtain ⟨p, hw''⟩ := In.of2 p hb6); subst hw'') | (obtain ⟨p, hw''⟩ := In.of hb6; subst hw''))))
                rw [hGo.out]
                refine ⟨p.back hbwz, .inl ⟨hok.out, A5, c5, ?_, ?_⟩⟩
                · rw [← hnn.out, recs_len]
                  rfl
                · rw [← hnn.out]
                  exact hBz.keep p.h
              · have hne : ¬ encL (recs s i) = s := he
                have hno : Hid (¬ GetOk s) := Lib.hid fun h => he (by have h1 := h.enc; rw [← hnn.out] at h1; exact h1)
                clear cp he hR hu hB5 hBz
                generalize encL (recs s i) = D at *
                have hne2 : (D == s) = false := by simpa using hne
                go_wp2_with (first | ((with_reducible refine cu2.mono ?_); rintro e w5 ⟨rfl, hb5⟩; (first | ((with_reducible obtain ⟨p, hw''⟩ := In.of2 p hb5); subst hw'') | (obtain ⟨p, hw''⟩ := In.of hb5; subst hw''))) | ((with_reducible refine (cp2 _).mono ?_); rintro e w6 ⟨rfl, hb6⟩; (first | ((with_reducible obtain ⟨p, hw''⟩ := In.of2 p hb6); subst hw'') | (obtain ⟨p, hw''⟩ := In.of hb6; subst hw''))))
                rw [hGo.out]
                exact ⟨p.back hbwz, .inr ⟨hno.out, rfl⟩⟩
            · have hu' : (512 : Int) < (usedN (recs s i) : Int) := by omega
              have hno : Hid (¬ GetOk s) := Lib.hid fun h => hu (by have h1 := h.room; rw [← hnn.out] at h1; exact h1)
              clear cp hR hu hB5 hBz
              go_wp2_with ((with_reducible refine cu2.mono ?_); rintro e w5 ⟨rfl, hb5⟩; (first | ((with_reducible obtain ⟨p, hw''⟩ := In.of2 p hb5); subst hw'') | (obtain ⟨p, hw''⟩ := In.of hb5; subst hw'')))
              rw [hGo.out]
              exact ⟨p.back hbwz, .inr ⟨hno.out, rfl⟩⟩
end Go.Proofs.Ytgcoepljlkahoaa
