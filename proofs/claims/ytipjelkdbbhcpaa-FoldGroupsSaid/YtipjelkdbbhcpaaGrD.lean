
/-
  The reference's Group: printed by mkrgroup.py.
-/
import Derived.Test.YtipjelkdbbhcpaaGrC
import Derived.Test.YtipjelkdbbhcpaaSwp
import Derived.Deep.DeepCutAuto
import Derived.Deep.CutBlock
set_option linter.unusedSimpArgs false
set_option linter.unusedVariables false
namespace Go.Proofs.Ytipjelkdbbhcpaa
open Go.RowKit Go.Deep

theorem own_caps {w : World} {base g n cap : Nat} {T : TypeId} {size : Nat} {xs : List Value} (hown : w.ownsRow base T size (.slice (some ⟨g, 0, none⟩) n cap) n xs) : n ≤ cap ∧ cap ≤ maxLen := by
  rcases hown.2 with ⟨hv, _⟩ | ⟨gb, cap', cur, hv, _, _, hnc, hcm, _⟩
  · cases hv
  · simp only [Value.slice.injEq] at hv
    obtain ⟨_, _, rfl⟩ := hv
    exact ⟨hnc, hcm⟩
def OwnG (base : Nat) (T : TypeId) (k n : Nat) (xs : List Value) : Fact := fun u w => w.ownsRow base T k u n xs
theorem OwnG.steady (base : Nat) (T : TypeId) (k n : Nat) (xs : List Value) : Steady (OwnG base T k n xs) := ⟨fun u w w' h hb => own_stays h hb⟩
theorem slice_one (S : Option Addr) (n c : Nat) : ∀ u ∈ [Value.slice S n c], u.oneCell' = true := fun u hu => by
  rw [List.mem_singleton.1 hu]
  rfl
/-- cells that are rows of places -/
def RRow (w : World) (pls : List (List Nat)) (cs : List Value) : Prop := cs.length = pls.length ∧ ∀ (t : Nat) (pl : List Nat), pls[t]? = some pl → ∃ R rc, cs[t]? = some (.slice R pl.length rc) ∧ IntsAt w R pl
theorem RRow.keep {w w' : World} {pls : List (List Nat)} {cs : List Value} (h : RRow w pls cs) (hb : Below w.heap.size w w') : RRow w' pls cs := ⟨h.1, fun t pl ht => by
  obtain ⟨R, rc, h1, h2⟩ := h.2 t pl ht
  exact ⟨R, rc, h1, h2.keep hb⟩⟩
theorem RRow.nil (w : World) : RRow w [] [] := ⟨rfl, fun t pl h => by simp at h⟩
theorem RRow.one {w : World} {pls : List (List Nat)} {cs : List Value} (h : RRow w pls cs) : ∀ u ∈ cs, u.oneCell' = true := fun u hu => by
  obtain ⟨t, ht, rfl⟩ := List.mem_iff_getElem.1 hu
  have hl := h.1
  obtain ⟨R, rc, h1, _⟩ := h.2 t pls[t] (by simp)
  rw [List.getElem?_eq_getElem ht] at h1
  rw [Option.some.inj h1]
  rfl
theorem RRow.insert {w : World} {pls : List (List Nat)} {cs : List Value} (h : RRow w pls cs) {n : Nat} (hn : n ≤ pls.length) {S : Option Addr} {sc : Nat} {pl : List Nat} (hS : IntsAt w S pl) : RRow w (pls.take n ++ pl :: pls.drop n) (cs.take n ++ [.slice S pl.length sc] ++ cs.drop n) := by
  have hl := h.1
  have l1 : (pls.take n).length = n := by rw [List.length_take]; omega
  have l2 : (cs.take n).length = n := by rw [List.length_take]; omega
  refine ⟨by simp only [List.length_append, List.length_cons, List.length_nil, List.length_take, List.length_drop]; omega, fun t q hq => ?_⟩
  rw [List.append_assoc]
  by_cases h1 : t < n
  · rw [List.getElem?_append_left (by omega), List.getElem?_take_of_lt h1] at hq
    rw [List.getElem?_append_left (by omega), List.getElem?_take_of_lt h1]
    exact h.2 t q hq
  · rw [List.getElem?_append_right (by omega), l1] at hq
    rw [List.getElem?_append_right (by omega), l2]
    by_cases h2 : t = n
    · subst h2
      rw [Nat.sub_self] at hq ⊢
      simp at hq
      subst hq
      exact ⟨S, sc, rfl, hS⟩
    · obtain ⟨m, hm⟩ : ∃ m, t - n = m + 1 := ⟨t - n - 1, by omega⟩
      rw [hm, List.getElem?_cons_succ, List.getElem?_drop] at hq
      rw [hm]
      simp only [List.cons_append, List.nil_append, List.getElem?_cons_succ, List.getElem?_drop]
      exact h.2 _ q hq
/-- rows of places at their addresses -/
def RowsAt (w : World) (A : Option Addr) (pls : List (List Nat)) : Prop := ∀ (t : Nat) (pl : List Nat), pls[t]? = some pl → ∃ ad R rc, A = some ad ∧ (ad.add t).block < w.heap.size ∧ w.cell? (ad.add t) = some (.slice R pl.length rc) ∧ IntsAt w R pl
theorem RowsAt.keep {w w' : World} {A : Option Addr} {pls : List (List Nat)} (h : RowsAt w A pls) (hb : Below w.heap.size w w') : RowsAt w' A pls := fun t pl ht => by
  obtain ⟨ad, R, rc, h1, h2, h3, h4⟩ := h t pl ht
  exact ⟨ad, R, rc, h1, Nat.lt_of_lt_of_le h2 hb.size, (hb.cell h2).trans h3, h4.keep hb⟩
theorem RowsAt.ofOwn {w : World} {base n : Nat} {v : Value} {pls : List (List Nat)} {cs : List Value} (h : w.ownsRow base 28 1 v n cs) (hr : RRow w pls cs) (hn : n = pls.length) : ∃ A cap, v = .slice A pls.length cap ∧ RowsAt w A pls := by
  subst hn
  rcases h.2 with ⟨hv, hn⟩ | ⟨gb, cap, cur, hv, hbg, hc, hnc, _⟩
  · refine ⟨none, 0, by rw [hv, hn], fun t pl ht => ?_⟩
    rw [List.getElem?_eq_none (by omega)] at ht
    cases ht
  · subst hv
    refine ⟨some ⟨gb, 0, none⟩, cap, rfl, fun t pl ht => ?_⟩
    obtain ⟨R, rc, h1, h2⟩ := hr.2 t pl ht
    have htl := (List.getElem?_eq_some_iff.1 ht).1
    have e : (⟨gb, 0, none⟩ : Addr).add t = ⟨gb, t, none⟩ := by rw [insAdd, Nat.zero_add]
    refine ⟨_, R, rc, rfl, ?_, ?_, h2⟩
    · rw [e]; exact (Array.getElem?_eq_some_iff.1 hc).1
    · rw [e, h.cellAt t (by simpa using htl)]; exact h1
theorem Try.info28 : (Try.prog.info? 28).map (fun i => (i.zero, i.size, i.bytes)) = some (some (.slice none 0 0), 1, 24) := by kernel_rfl
theorem insJ_map {α : Type} (f : Nat → α) (l : List Val) (js : List Nat) (j : Nat) : (insJ l js j).map f = (js.map f).take (cntLt l js (kAt l j)) ++ f j :: (js.map f).drop (cntLt l js (kAt l j)) := by
  unfold insJ
  rw [List.map_append, List.map_cons, List.map_take, List.map_drop]
def GroupEnds (l : List Val) (w : World) (e : Ending) (w' : World) : Prop := ∃ K kc R rc, e = .returned (.tuple #[.slice K (orderJ l l.length).length kc, .slice R (orderJ l l.length).length rc]) ∧ Parts w' K ((orderJ l l.length).map (kAt l)) ∧ RowsAt w' R ((orderJ l l.length).map (plac l l.length)) ∧ Below w.heap.size w w'
/-- the places that are told, one by one -/
theorem foldJ_take {l : List Val} {fs : List Nat} {m f : Nat} (h : fs[m]? = some f) : (fs.take (m + 1)).foldl (insJ l) [] = insJ l ((fs.take m).foldl (insJ l) []) f := by
  obtain ⟨hm, rfl⟩ := List.getElem?_eq_some_iff.1 h
  rw [List.take_succ_eq_append_getElem hm, List.foldl_append]
  rfl
theorem foldJ_len (l : List Val) : ∀ (fs js : List Nat), (fs.foldl (insJ l) js).length = js.length + fs.length
  | [], js => rfl
  | f :: fs, js => by rw [List.foldl_cons, foldJ_len l fs, insJ_len, List.length_cons]; omega
set_option maxRecDepth 8000 in
set_option maxHeartbeats 16000000 in
theorem rgroup_c (A : Option Addr) (cap0 : Nat) (l : List Val) (w : World) (hp : Parts w A l) (hl : l.length ≤ 100) :
    Calls Try.prog 26 #[.slice A l.length cap0] w (GroupEnds l w) := by
  obtain ⟨i0, hi0, hz0, hz1, hz2⟩ := info_parts Try.info27
  obtain ⟨r0, ri0, rz0, rz1, rz2⟩ := info_parts Try.info28
  obtain ⟨n0, ni0, nz0, nz1, nz2⟩ := info_parts Try.infoI3
  obtain ⟨GOAL, hG⟩ : ∃ G, G = GroupEnds l w := ⟨_, rfl⟩
  rw [← hG]
  have hGo := Lib.hid hG
  clear hG
  go_enter Try.func26, Try.ntmps26
  go_upto_region 2 with fail
  obtain ⟨w2, hw2⟩ : ∃ w2, w2 = (w.alloc (.cells #[] 27)).alloc (.cells #[] 28) := ⟨_, rfl⟩
  have hbw2 : Below w.heap.size w w2 := hw2 ▸ (below_alloc w _).alloc (by simp) _
  have ownK : w2.ownsRow w.heap.size 27 6 (.slice (some ⟨w.heap.size, 0, none⟩) 0 0) 0 [] := hw2 ▸ ⟨rfl, .inr ⟨w.heap.size, 0, #[], rfl, Nat.le_refl _, alloc_past _ (alloc_here w _), Nat.le_refl _, by unfold maxLen; omega, by simp, by simp⟩⟩
  have ownR : w2.ownsRow w.heap.size 28 1 (.slice (some ⟨w.heap.size + 1, 0, none⟩) 0 0) 0 [] := by
    have h := alloc_here (w.alloc (.cells #[] 27)) (.cells #[] 28)
    rw [alloc_grows w _ rfl] at h
    rw [hw2]
    exact ⟨rfl, .inr ⟨w.heap.size + 1, 0, #[], rfl, by omega, h, Nat.le_refl _, by unfold maxLen; omega, by simp, by simp⟩⟩
  rw [← hw2]
  have cd := rdedup_c A cap0 l w2 (hp.keep hbw2) hl
  unfold IntsEnds at cd
  clear hw2
  go_upto_region 3 with ((with_reducible refine cd.mono ?_); rintro e w3 ⟨F, fc, rfl, hF, hb3⟩)
  have hbw3 := hbw2.trans (hb3.mono hbw2.size)
  have ownK3 := Lib.hid (own_stays ownK hb3)
  have ownR3 := Lib.hid (own_stays ownR hb3)
  have hfl := firsts_len l l.length
  have hfm : Hid (∀ j ∈ firsts l l.length, j < l.length) := Lib.hid firsts_lt
  have hend : Hid (orderJ l l.length = (firsts l l.length).foldl (insJ l) []) := Lib.hid rfl
  have hF := Lib.hid hF
  clear cd ownK ownR hb3 hbw2
  generalize firsts l l.length = fs at *
  go_wp2_with fail
  go_loopw [4, 5, 7] (fun a4 a5 a7 wr => ∃ (m g gr cap rcap : Nat) (js : List Nat) (xs cs : List Value), a7 = .int .i64 m ∧ m ≤ fs.length ∧ a4 = .slice (some ⟨g, 0, none⟩) js.length cap ∧ a5 = .slice (some ⟨gr, 0, none⟩) js.length rcap ∧ Hid (js.length = m) ∧ Hid (js = (fs.take m).foldl (insJ l) []) ∧ Hid (wr.ownsRow w.heap.size 27 6 (.slice (some ⟨g, 0, none⟩) js.length cap) js.length xs) ∧ Hid (VRow w (js.map (kAt l)) xs) ∧ Hid (wr.ownsRow w.heap.size 28 1 (.slice (some ⟨gr, 0, none⟩) js.length rcap) js.length cs) ∧ Hid (RRow wr (js.map (plac l l.length)) cs) ∧ Below w3.heap.size w3 wr) (fun _ _ a _ => fs.length - (intOf a).toNat)
  case atStart => exact ⟨0, _, _, 0, 0, [], [], [], rfl, Nat.zero_le _, rfl, rfl, Lib.hid rfl, Lib.hid rfl, ownK3, Lib.hid (VRow.nil _), ownR3, Lib.hid (RRow.nil _), Below.refl _ _⟩
  case round =>
    clear ownK3 ownR3
    obtain ⟨m, g, gr, cap, rcap, js, xs, cs, rfl, hm, rfl, rfl, hjm, hjs, hownK, hvr, hownR, hrr, hb3r⟩ := hrel
    have hbr := hbw3.trans (hb3r.mono hbw3.size)
    have w3i : IntKind.i64.wrap ((m : Int) + 1) = (m : Int) + 1 := by rw [wrap_i64]; omega
    by_cases hmf : m < fs.length
    · have hmf' : (m : Int) < fs.length := by omega
      obtain ⟨f, hf⟩ : ∃ f, fs[m]? = some f := ⟨fs[m], by simp⟩
      have hfl' := hfm.out f (List.mem_of_getElem? hf)
      have hfli : (f : Int) < l.length := by omega
      obtain ⟨adF, hFA, hF1, hF2⟩ := (hF.out.keep hb3r) m f hf
      subst hFA
      obtain ⟨ad, kk, kb, kn, kf, ks, kB, klen, kc, hA, hkx, hkat⟩ := hp f _ (kAt_some hfl')
      subst hA
      obtain ⟨y6, y0, y1, y2, y3, y4, y5⟩ := hkat.keep hbr
      have hstep := Lib.hid (foldJ_take (l := l) hf)
      go_upto_region 7 with fail
      obtain ⟨w5, hw5⟩ : ∃ w5, w5 = wr.alloc (.cells #[.int .i64 kk, .bool kb, .int .i64 kn, .float .f64 kf, .string (st ks), .slice kB klen kc] 27) := ⟨_, rfl⟩
      have b5 : Below wr.heap.size wr w5 := hw5 ▸ below_alloc wr _
      have hbox : Box w5 wr.heap.size kk kb kn kf ks kB klen kc := hw5 ▸ Box.new wr kk kb kn kf ks kB klen kc _
      rw [← hw5]
      have hbw5 := hbr.trans (b5.mono hbr.size)
      have hb35 := hb3r.trans (b5.mono hb3r.size)
      have hkx5 := (hkx.keep hbr).keep b5
      have hK5 := Lib.hid (own_stays hownK.out b5)
      have hR5 := Lib.hid (own_stays hownR.out b5)
      have hrr5 := Lib.hid (hrr.out.keep b5)
      have hjl : js.length ≤ 100 := by have := hjm.out; omega
      clear hw5 y6 y0 y1 y2 y3 y4 y5 hF1 hF2 hkat hownK hownR hrr hb3r
      have hbs5 := hbw5.size
      go_upto_block 2 with fail
      go_cut [9] (fun a9 wx => ∃ t : Nat, a9 = .int .i64 t ∧ Hid (t = cntLt l js (kAt l f)) ∧ t ≤ js.length ∧ Below w5.heap.size w5 wx)
      case first =>
        go_wp2_with fail
        go_loopw [9] (fun a9 wz => ∃ t : Nat, a9 = .int .i64 t ∧ t ≤ js.length ∧ Hid (∀ (q : Nat) j, q < t → js[q]? = some j → cmpV (kAt l j) (kAt l f) < 0) ∧ Below w5.heap.size w5 wz) (fun a _ => js.length - (intOf a).toNat)
        case atStart => exact ⟨0, rfl, Nat.zero_le _, Lib.hid (fun q j h => absurd h (Nat.not_lt_zero _)), Below.refl _ _⟩
        case round =>
          obtain ⟨t, rfl, ht, hlo, hbz⟩ := hrel
          have w3t : IntKind.i64.wrap ((t : Int) + 1) = (t : Int) + 1 := by rw [wrap_i64]; omega
          by_cases htj : t < js.length
          · have htj' : (t : Int) < js.length := by omega
            have hget : js[t]? = some js[t] := by simp
            have hKz := own_stays hK5.out hbz
            obtain ⟨AK, cK, hvK, hPK, _, _⟩ := Parts.ofRow (ys := js.map (kAt l)) (by rw [List.length_map]; exact hKz) (hvr.out.keep (hbw5.trans (hbz.mono hbw5.size)))
            rw [List.length_map] at hvK
            cases hvK
            obtain ⟨adA, ak, ab, an, aF, aS, aB, alen, ac, hadA, hax, haat⟩ := hPK t (kAt l js[t]) (by rw [List.getElem?_map, hget]; rfl)
            cases hadA
            rw [show ((⟨g, 0, none⟩ : Addr)).add (t * 6) = ⟨g, t * 6, none⟩ by simp [Addr.add]; intro h; exact h.symm] at haat
            obtain ⟨x6, x0, x1, x2, x3, x4, x5⟩ := haat
            obtain ⟨y6, y0, y1, y2, y3, y4, y5⟩ := hbox.keep hbz
            have cc : ∀ p : In wr, Calls Try.prog 12 #[valV ak ab an aF aS aB alen ac, valV kk kb kn kf ks kB klen kc] p.w fun e w' => e = .returned (.int .i64 (cmpV (kAt l js[t]) (kAt l f))) ∧ Below p.w.heap.size p.w w' := fun p => rcmpv_c _ _ _ _ p.w (hax.keep p.h) ((hkx5.keep hbz).keep p.h)
            generalize hj : js[t] = j at *
            generalize hC : cmpV (kAt l j) (kAt l f) = C at *
            have hCh := Lib.hid hC
            have hgeth := Lib.hid hget
            clear hC hj hget hPK hKz hax
            by_cases hneg : C < 0
            · have hlo2 : Hid (∀ (q : Nat) j, q < t + 1 → js[q]? = some j → cmpV (kAt l j) (kAt l f) < 0) := Lib.hid fun q i hq hi => by
                by_cases e : q = t
                · subst e
                  rw [hgeth.out] at hi
                  cases hi
                  rw [hCh.out]
                  exact hneg
                · exact hlo.out q i (by omega) hi
              go_upto_region 8 with fail
              (refine wp_region_flow [] (by kernel_rfl) (by kernel_rfl) ?_; (repeat (((with_reducible refine wpFlow_steps ?_); intro K hK; go_simp; first | (with_reducible refine hK _ ?_; clear hK K) | (apply Exists.intro; (with_reducible refine ⟨fun _ => ⟨?_, _, rfl⟩, hK _ ?_⟩); (· exact rfl); clear hK K) | (apply Exists.intro; (with_reducible refine ⟨fun _ => ⟨_, rfl⟩, hK _ ?_⟩); clear hK K) | (apply Exists.intro; (with_reducible refine ⟨fun _ => ?_, hK _ ?_⟩); (· (with_reducible (first | exact cc _))); clear hK K)))); (refine wpFlow_nil ?_; rintro w1 ⟨q0, hq0⟩; have hb := In.h q0; rw [← hq0] at hb; clear hq0 q0; (first | ((with_reducible obtain ⟨p, hw''⟩ := In.of2 p hb); subst hw'') | (obtain ⟨p, hw''⟩ := In.of hb; subst hw'')); go_simp; intros))
              have hb2 := hbz.trans (p.h.mono hbz.size)
              go_wp2_with fail
              exact ⟨⟨t + 1, by simp, htj, hlo2, hb2⟩, by simp [intOf]; omega⟩
            · have hcn : Hid (t = cntLt l js (kAt l f)) := Lib.hid (cntLt_eq ht hlo.out fun i hi => by rw [hgeth.out] at hi; cases hi; rw [hCh.out]; exact hneg)
              go_upto_region 8 with fail
              (refine wp_region_flow [] (by kernel_rfl) (by kernel_rfl) ?_; (repeat (((with_reducible refine wpFlow_steps ?_); intro K hK; go_simp; first | (with_reducible refine hK _ ?_; clear hK K) | (apply Exists.intro; (with_reducible refine ⟨fun _ => ⟨?_, _, rfl⟩, hK _ ?_⟩); (· exact rfl); clear hK K) | (apply Exists.intro; (with_reducible refine ⟨fun _ => ⟨_, rfl⟩, hK _ ?_⟩); clear hK K) | (apply Exists.intro; (with_reducible refine ⟨fun _ => ?_, hK _ ?_⟩); (· (with_reducible (first | exact cc _))); clear hK K)))); (refine wpFlow_nil ?_; rintro w1 ⟨q0, hq0⟩; have hb := In.h q0; rw [← hq0] at hb; clear hq0 q0; (first | ((with_reducible obtain ⟨p, hw''⟩ := In.of2 p hb); subst hw'') | (obtain ⟨p, hw''⟩ := In.of hb; subst hw'')); go_simp; intros))
              have hb2 := hbz.trans (p.h.mono hbz.size)
              go_wp2_with fail
              ((with_reducible show Met _ _ _); refine Met.intro ?_; go_step; (repeat' apply Exists.intro); refine ⟨?_, rfl⟩)
              exact ⟨t, rfl, hcn, ht, hb2⟩
          · have htj' : ¬ (t : Int) < js.length := by omega
            obtain rfl : t = js.length := by omega
            have hcn : Hid (js.length = cntLt l js (kAt l f)) := Lib.hid (cntLt_eq ht hlo.out fun i hi => by rw [List.getElem?_eq_none (Nat.le_refl _)] at hi; cases hi)
            go_upto_region 8 with fail
            (refine wp_region_flow [] (by kernel_rfl) (by kernel_rfl) ?_; (repeat (((with_reducible refine wpFlow_steps ?_); intro K hK; go_simp; first | (with_reducible refine hK _ ?_; clear hK K) | (apply Exists.intro; (with_reducible refine ⟨fun _ => ⟨?_, _, rfl⟩, hK _ ?_⟩); (· exact rfl); clear hK K) | (apply Exists.intro; (with_reducible refine ⟨fun _ => ⟨_, rfl⟩, hK _ ?_⟩); clear hK K) | (apply Exists.intro; (with_reducible refine ⟨fun _ => ?_, hK _ ?_⟩); (· (with_reducible (fail))); clear hK K)))); (refine wpFlow_nil ?_; rintro w1 ⟨q0, hq0⟩; have hb := In.h q0; rw [← hq0] at hb; clear hq0 q0; (first | ((with_reducible obtain ⟨p, hw''⟩ := In.of2 p hb); subst hw'') | (obtain ⟨p, hw''⟩ := In.of hb; subst hw'')); go_simp; intros))
            have hb2 := hbz.trans (p.h.mono hbz.size)
            go_wp2_with fail
            ((with_reducible show Met _ _ _); refine Met.intro ?_; go_step; (repeat' apply Exists.intro); refine ⟨?_, rfl⟩)
            exact ⟨js.length, rfl, hcn, ht, hb2⟩
      case rest =>
        obtain ⟨t, rfl, hcn, htj, hb56⟩ := hcut
        have hbwc := hbw5.trans (hb56.mono hbs5)
        have hb3c := hb35.trans (hb56.mono hb35.size)
        have hboxc := hbox.keep hb56
        have hkxc := hkx5.keep hb56
        have hKc := Lib.hid (own_stays hK5.out hb56)
        have hRc := Lib.hid (own_stays hR5.out hb56)
        have hrrc := Lib.hid (hrr5.out.keep hb56)
        have hbsc := hbwc.size
        clear hbox hkx5 hK5 hR5 hrr5 hb56 hb35
        go_upto_region 11 with fail
        obtain ⟨w6, hw6⟩ : ∃ w6, w6 = wc.alloc (.cells #[] 3) := ⟨_, rfl⟩
        have own6 : Hid (w6.ownsRow wc.heap.size 3 1 (.slice (some ⟨wc.heap.size, 0, none⟩) 0 0) (plac l 0 f).length (intC (plac l 0 f))) := Lib.hid (hw6 ▸ ⟨rfl, .inr ⟨wc.heap.size, 0, #[], rfl, Nat.le_refl _, alloc_here _ _, Nat.le_refl _, by unfold maxLen; omega, by simp, by simp [plac]⟩⟩)
        have bel6 : Below wc.heap.size wc w6 := hw6 ▸ below_alloc wc _
        rw [← hw6]
        clear hw6
        go_wp2_with fail
        go_loopw [10, 11] (fun a10 a11 wz => ∃ i : Nat, a11 = .int .i64 i ∧ i ≤ l.length ∧ Hid (wz.ownsRow wc.heap.size 3 1 a10 (plac l i f).length (intC (plac l i f))) ∧ Below wc.heap.size wc wz) (fun _ a _ => l.length - (intOf a).toNat)
        case atStart => exact ⟨0, rfl, Nat.zero_le _, own6, bel6⟩
        case round =>
          clear own6 bel6
          obtain ⟨i, rfl, hi, hown, hbz⟩ := hrel
          have w3j : IntKind.i64.wrap ((i : Int) + 1) = (i : Int) + 1 := by rw [wrap_i64]; omega
          have hbwz := hbwc.trans (hbz.mono hbsc)
          have hpl := plac_len l i f
          by_cases hil : i < l.length
          · have hil' : (i : Int) < l.length := by omega
            obtain ⟨ad2, ak, ab, an, aF, aS, aB, alen, ac, hA2, hax, haat⟩ := hp i _ (kAt_some hil)
            cases hA2
            obtain ⟨x6, x0, x1, x2, x3, x4, x5⟩ := haat.keep hbwz
            obtain ⟨y6, y0, y1, y2, y3, y4, y5⟩ := hboxc.keep hbz
            have cc : ∀ p : In wr, Calls Try.prog 12 #[valV ak ab an aF aS aB alen ac, valV kk kb kn kf ks kB klen kc] p.w fun e w' => e = .returned (.int .i64 (cmpV (kAt l i) (kAt l f))) ∧ Below p.w.heap.size p.w w' := fun p => rcmpv_c _ _ _ _ p.w ((hax.keep hbwz).keep p.h) ((hkxc.keep hbz).keep p.h)
            have hnx := plac_next l i f
            generalize cmpV (kAt l i) (kAt l f) = C at *
            by_cases hC : C = 0
            · have hst : Hid (plac l (i + 1) f = plac l i f ++ [i]) := Lib.hid (by rw [hnx, if_pos hC])
              subst hC
              clear hnx hax haat
              go_upto_region 14 with fail
              (refine wp_region_flow [] (by kernel_rfl) (by kernel_rfl) ?_; (repeat (((with_reducible refine wpFlow_steps ?_); intro K hK; go_simp; first | (with_reducible refine hK _ ?_; clear hK K) | (apply Exists.intro; (with_reducible refine ⟨fun _ => ⟨?_, _, rfl⟩, hK _ ?_⟩); (· exact rfl); clear hK K) | (apply Exists.intro; (with_reducible refine ⟨fun _ => ⟨_, rfl⟩, hK _ ?_⟩); clear hK K) | (apply Exists.intro; (with_reducible refine ⟨fun _ => ?_, hK _ ?_⟩); (· (with_reducible (first | exact cc _))); clear hK K)))); (refine wpFlow_nil ?_; rintro w1 ⟨q0, hq0⟩; have hb := In.h q0; rw [← hq0] at hb; clear hq0 q0; (first | ((with_reducible obtain ⟨p, hw''⟩ := In.of2 p hb); subst hw'') | (obtain ⟨p, hw''⟩ := In.of hb; subst hw'')); go_simp; intros))
              have hb2 := hbz.trans (p.h.mono hbz.size)
              have hown2 := Lib.hid (own_stays hown.out p.h)
              generalize p.w = w7 at *
              clear p cc x6 x0 x1 x2 x3 x4 x5 y6 y0 y1 y2 y3 y4 y5 hown
              have hbs2 := hb2.size
              go_wp2_with (at_builtin; refine wpList_append_own _ rfl _ _ 28 rfl wc.heap.size 3 n0 (.int .i64 0) 1 8 Try.underlying28 ni0 nz0 nz1 nz2 rfl (by decide) _ _ _ rfl (hown2.out.alloc _) ⟨w7.heap.size, 0, none⟩ 1 1 [.int .i64 (i : Int)] rfl rfl (cell_new w7 _ _) (int_one _) (by unfold maxLen; omega) (by omega) (by simp; omega) ?_)
              intro v8 w8 own8 hgrow _
              have hb8 : Below wc.heap.size wc w8 := (hb2.alloc hbs2 _).grown hgrow (by simp; omega) fun k hk => (hown2.out.lt k hk).1
              have own8 := Lib.hid own8
              clear hgrow
              go_wp2_with fail
              exact ⟨⟨i + 1, by simp, hil, Lib.hid (by rw [hst.out, intC_snoc, List.length_append]; exact own8.out), hb8⟩, by simp [intOf]; omega⟩
            · have hst : Hid (plac l (i + 1) f = plac l i f) := Lib.hid (by rw [hnx, if_neg hC, List.append_nil])
              have hC2 : (C == 0) = false := by simpa using hC
              clear hnx hax haat
              go_upto_region 14 with fail
              (refine wp_region_flow [] (by kernel_rfl) (by kernel_rfl) ?_; (repeat (((with_reducible refine wpFlow_steps ?_); intro K hK; go_simp; first | (with_reducible refine hK _ ?_; clear hK K) | (apply Exists.intro; (with_reducible refine ⟨fun _ => ⟨?_, _, rfl⟩, hK _ ?_⟩); (· exact rfl); clear hK K) | (apply Exists.intro; (with_reducible refine ⟨fun _ => ⟨_, rfl⟩, hK _ ?_⟩); clear hK K) | (apply Exists.intro; (with_reducible refine ⟨fun _ => ?_, hK _ ?_⟩); (· (with_reducible (first | exact cc _))); clear hK K)))); (refine wpFlow_nil ?_; rintro w1 ⟨q0, hq0⟩; have hb := In.h q0; rw [← hq0] at hb; clear hq0 q0; (first | ((with_reducible obtain ⟨p, hw''⟩ := In.of2 p hb); subst hw'') | (obtain ⟨p, hw''⟩ := In.of hb; subst hw'')); go_simp; intros))
              have hb2 := hbz.trans (p.h.mono hbz.size)
              have hown2 := Lib.hid (own_stays hown.out p.h)
              go_wp2_with fail
              exact ⟨⟨i + 1, by simp, hil, Lib.hid (by rw [hst.out]; exact hown2.out), hb2⟩, by simp [intOf]; omega⟩
          · have e : i = l.length := by omega
            subst e
            have hil' : ¬ (l.length : Int) < l.length := by omega
            obtain ⟨S, sc, hvS, hS, _⟩ := IntsAt.ofOwn hown.out rfl
            subst hvS
            have hS := Lib.hid hS
            have hKz := own_stays hKc.out hbz
            have hRz := Lib.hid (own_stays hRc.out hbz)
            have hrrz := Lib.hid (hrrc.out.keep hbz)
            have hb3z := hb3c.trans (hbz.mono hb3c.size)
            have hboxz := hboxc.keep hbz
            have hbJs := hbwz.size
            have hownJ := Lib.hid hKz
            have honesJ := Lib.hid (VRow.one hvr.out)
            obtain ⟨x6, x0, x1, x2, x3, x4, x5⟩ := hboxz
            clear hown hKc hRc hrrc hKz hboxc hkxc
            generalize hn : js.length = n at *
            generalize hsn : (plac l l.length f).length = sn at *
            have hsnh := Lib.hid hsn
            clear hsn
            go_upto_region 16 with fail
            go_cut [4] (fun a4 wx => ∃ (g' c' : Nat), a4 = .slice (some ⟨g', 0, none⟩) (n + 1) c' ∧ wx.ownsRow w.heap.size 27 6 (.slice (some ⟨g', 0, none⟩) (n + 1) c') (n + 1) (xs.take (t * 6) ++ (valC kk kb kn kf ks kB klen kc) ++ xs.drop (t * 6)) ∧ Below wr.heap.size wr wx)
            case first =>
              by_cases htlt : t < n
              · have htlt' : (t : Int) < n := by omega
                have htn : t ≤ n := by omega
                have hcI : ¬ cap = t := by have := (own_caps hownJ.out).1; omega
                have hIc : t ≤ cap := by have := (own_caps hownJ.out).1; omega
                have hIc' : (t : Int) ≤ cap := by omega
                have hIn' : (t : Int) ≤ n := by omega
                obtain ⟨hncJ, hcmJ⟩ := own_caps hownJ.out
                have hlowJ := own_fewer hownJ.out htn
                have hcells : Hid (∀ j u, (xs.take (t * 6))[j]? = some u → wr.cell? ⟨g, j, none⟩ = some u) := Lib.hid fun j u hu => by
                  have := hlowJ.cells (g := g) rfl j u hu
                  rwa [insAdd, Nat.zero_add] at this
                have hxl := hownJ.out.1
                have hrest : Hid (∀ j u, (xs.drop (t * 6))[j]? = some u → wr.cell? ⟨g, (t * 6) + j, none⟩ = some u) := Lib.hid fun j u hu => by
                  have hjl := (List.getElem?_eq_some_iff.1 hu).1
                  rw [List.length_drop] at hjl
                  rw [List.getElem?_drop] at hu
                  try rw [Nat.mul_one] at hu
                  exact (hownJ.out.cellAt _ (by omega)).trans hu
                have hgl := (hownJ.out.lt g rfl).2
                have hlowl := Lib.hid hlowJ.1
                have hxlh := Lib.hid hxl
                have hdrl : Hid ((xs.drop (t * 6)).length = (n - t) * 6) := Lib.hid (by rw [List.length_drop, hxl]; rw [Nat.sub_mul])
                unfold maxLen at hcmJ
                clear hlowJ hxl
                (refine wp_region_swq (7) (3) (10) [.slice (some ⟨g, 0, none⟩) n cap, .int .i64 t, .slice (some ⟨g, (t * 6), none⟩) (n - t) (cap - t)] [62, 66, 68] [] (by kernel_rfl) (by kernel_rfl) (by kernel_rfl) (by kernel_rfl) (by kernel_rfl) (by kernel_rfl) (by kernel_rfl) (by kernel_rfl) (fun _ _ _ _ _ h => h) ?_ ?_; (simp only [List.drop_succ_cons, List.drop_zero, List.take_succ_cons, List.take_zero, YieldsD]); rotate_left; intro ops; (simp only [swL, reN, wtL, wtO, List.take_succ_cons, List.take_zero, List.drop_succ_cons, List.drop_zero, List.map_cons, List.map_nil, List.cons_append, List.nil_append, List.append_nil]); rotate_right)
                · refine ⟨rfl, mute_op (.inl ⟨_, rfl⟩), fun w => ?_, rfl, mute_op (.inl ⟨_, rfl⟩), fun w => ?_, rfl, mute_op (.inr ⟨_, _, _, _, _, _, _, rfl, rfl⟩), fun w => ?_, trivial⟩
                  · go_simp
                  · go_simp
                  · go_simp
                ((with_reducible refine wpRel_fact [] (62) (RowAt (wr.heap.size) (#[]) (27) (0)) (by kernel_rfl) rfl rfl (RowAt.steady _ _ _ _) (by first | exact rfl | go_simp) ?_ ?_); (· intro p; rw [pickR_nil]; (simp only [fillR]); go_wp2_with fail; exact row_post p.h.size rfl rfl))
                iterate 3 (((with_reducible refine wpRel_none (by kernel_rfl) (by kernel_rfl) ?_); intro K hK; go_simp; first | (with_reducible refine hK _ ?_; clear hK K) | (apply Exists.intro; (with_reducible refine ⟨fun _ => ⟨?_, _, rfl⟩, hK _ ?_⟩); (· exact rfl); clear hK K) | (apply Exists.intro; (with_reducible refine ⟨fun _ => ?_, hK _ ?_⟩); (· (with_reducible (fail))); clear hK K)))
                (with_reducible refine wpRel_fact [62] (66) ((OwnG wr.heap.size 27 6 t (xs.take (t * 6)))) (by kernel_rfl) rfl rfl ((OwnG.steady _ _ _ _ _)) (by first | exact rfl | go_simp) (fun p => ?_) ?_)
                · (try simp only [pickR, pickR_nil, fillR, List.contains_cons, List.contains_nil, Nat.reduceBEq, Bool.or_false, Bool.or_true, Bool.true_or, Bool.false_or, if_true, if_false, Bool.false_eq_true])
                  rintro u ⟨b62, h62, rfl, z62⟩
                  refine wpList_append_fresh _ rfl _ _ 22 rfl 27 i0 (.agg #[.int .i64 0, .bool false, .int .i64 0, .float .f64 0, .string ByteArray.empty, .slice none 0 0]) 6 72 Try.underlying22 hi0 hz0 hz1 hz2 rfl (by decide) b62 rfl 27 rfl z62 wr.heap.size h62 (some ⟨g, 0, none⟩) t cap (xs.take (t * 6)) rfl (fun h => by cases h) hlowl.out (fun ad had j u hu => by cases had; rw [insAdd, Nat.zero_add]; exact (p.h.cell (p := ⟨g, j, none⟩) hgl).trans (hcells.out j u hu)) (fun u hu => honesJ.out u (List.mem_of_mem_take hu)) (by unfold maxLen; omega) (by omega) ?_
                  intro v' w' hown hb
                  exact ⟨fun h => absurd h (by decide), rfl, rfl, hb, hown⟩
                ((with_reducible refine wpRel_none (by kernel_rfl) (by kernel_rfl) ?_); intro K hK; go_simp; first | (with_reducible refine hK _ ?_; clear hK K) | (apply Exists.intro; (with_reducible refine ⟨fun _ => ⟨?_, _, rfl⟩, hK _ ?_⟩); (· exact rfl); clear hK K) | (apply Exists.intro; (with_reducible refine ⟨fun _ => ?_, hK _ ?_⟩); (· (with_reducible (fail))); clear hK K))
                ((with_reducible refine wpRel_fact [] (68) (RowAt (wr.heap.size) (#[.int .i64 kk, .bool kb, .int .i64 kn, .float .f64 kf, .string (st ks), .slice kB klen kc]) (27) (1)) (by kernel_rfl) rfl rfl (RowAt.steady _ _ _ _) (by first | exact rfl | go_simp) ?_ ?_); (· intro p; rw [pickR_nil]; (simp only [fillR]); go_wp2_with fail; exact row_post p.h.size rfl rfl))
                iterate 3 (((with_reducible refine wpRel_none (by kernel_rfl) (by kernel_rfl) ?_); intro K hK; go_simp; first | (with_reducible refine hK _ ?_; clear hK K) | (apply Exists.intro; (with_reducible refine ⟨fun _ => ⟨?_, _, rfl⟩, hK _ ?_⟩); (· exact rfl); clear hK K) | (apply Exists.intro; (with_reducible refine ⟨fun _ => ?_, hK _ ?_⟩); (· (with_reducible (fail))); clear hK K)))
                ((with_reducible refine wpRel_nil ?_); intro p; (simp only [fillR]))
                rintro u76 ⟨b76, h76, rfl, z76⟩ u66 hown66 u62 ⟨b62, h62, rfl, z62⟩ -
                have hbP : Below wr.heap.size wr p.w := p.h
                have hbS := hbP.size
                generalize p.w = wp at *
                clear p z62
                unfold OwnG at hown66
                have z76 := Lib.hid z76
                obtain ⟨A66, c66, hv66, _, _⟩ := own_form hown66
                subst hv66
                have d1 : Hid (∀ (j : Nat) (u : Value), (valC kk kb kn kf ks kB klen kc)[j]? = some u → wp.cell? ((⟨b76, 0, none⟩ : Addr).add j) = some u) := Lib.hid fun j u hu => by
                  rw [insAdd, Nat.zero_add, cell_of z76.out j]
                  simpa using hu
                have d3 : Hid (t + 1 ≤ maxLen) := Lib.hid (by unfold maxLen; omega)
                have d4 : Hid ((t + 1) * 72 ≤ 140737488355328) := Lib.hid (by omega)
                have hown66h := Lib.hid hown66
                clear hown66
                go_wp2_with (at_builtin; refine wpList_append_own _ rfl _ _ 22 rfl wr.heap.size 27 i0 (.agg #[.int .i64 0, .bool false, .int .i64 0, .float .f64 0, .string ByteArray.empty, .slice none 0 0]) 6 72 Try.underlying22 hi0 hz0 hz1 hz2 rfl (by decide) _ _ _ rfl hown66h.out ⟨b76, 0, none⟩ 1 1 (valC kk kb kn kf ks kB klen kc) rfl rfl d1.out (valC_one _ _ _ _ _ _ _ _) d3.out d4.out hbS ?_)
                have hown66 := hown66h.out
                clear hown66h d1 d3 d4
                intro v7 w7 hown7 hgrow7 _
                have hb7 : Below wr.heap.size wr w7 := hbP.grown hgrow7 hbS fun k hk => (hown66.lt k hk).1
                have hbS7 := hb7.size
                obtain ⟨A7, c7, hv7, _, _⟩ := own_form hown7
                subst hv7
                clear hown66 hgrow7 hbP z76
                have e0 : Hid ((xs.drop (t * 6)).length = (n - t) * 6) := hdrl
                have e1 : Hid (∀ (j : Nat) (u : Value), (xs.drop (t * 6))[j]? = some u → w7.cell? ((⟨g, (t * 6), none⟩ : Addr).add j) = some u) := Lib.hid fun j u hu => by
                  rw [insAdd]
                  exact (hb7.cell (p := ⟨g, (t * 6) + j, none⟩) hgl).trans (hrest.out j u hu)
                have e2 : Hid (∀ u ∈ xs.drop (t * 6), u.oneCell' = true) := Lib.hid fun u hu => honesJ.out u (List.mem_of_mem_drop hu)
                have e3 : Hid (t + 1 + (n - t) ≤ maxLen) := Lib.hid (by unfold maxLen; omega)
                have e4 : Hid ((t + 1 + (n - t)) * 72 ≤ 140737488355328) := Lib.hid (by omega)
                have hown7h := Lib.hid hown7
                clear hown7
                go_wp2_with (at_builtin; refine wpList_append_own _ rfl _ _ 22 rfl wr.heap.size 27 i0 (.agg #[.int .i64 0, .bool false, .int .i64 0, .float .f64 0, .string ByteArray.empty, .slice none 0 0]) 6 72 Try.underlying22 hi0 hz0 hz1 hz2 rfl (by decide) _ _ _ rfl hown7h.out ⟨g, (t * 6), none⟩ (n - t) _ (xs.drop (t * 6)) rfl e0.out e1.out e2.out e3.out e4.out hbS7 ?_)
                have hown7 := hown7h.out
                clear hown7h e0 e1 e2 e3 e4
                intro v8 w8 hown8 hgrow8 _
                have hb8 : Below wr.heap.size wr w8 := hb7.grown hgrow8 hbS7 fun k hk => (hown7.lt k hk).1
                have hown8 : w8.ownsRow wr.heap.size 27 6 v8 (n + 1) (xs.take (t * 6) ++ (valC kk kb kn kf ks kB klen kc) ++ xs.drop (t * 6)) := by
                  rw [show n + 1 = t + 1 + (n - t) by omega]
                  first | exact hown8 | simpa using hown8
                obtain ⟨g8, c8, hv8, _, _, _, _⟩ := own_some hown8 (by omega)
                subst hv8
                have hown8 := Lib.hid hown8
                clear hgrow8 hown7 hb7
                go_wp2_with fail
                ((with_reducible show Met _ _ _); refine Met.intro ?_; go_step; (repeat' apply Exists.intro); refine ⟨?_, rfl⟩)
                exact ⟨g8, c8, rfl, hown8.out.mono hbJs, hb8⟩
              · have htn0 : t = n := by omega
                subst htn0
                have htn : t ≤ t := Nat.le_refl _
                by_cases hcc : t = cap
                · subst hcc
                  obtain ⟨hncJ, hcmJ⟩ := own_caps hownJ.out
                  have hlowJ := own_fewer hownJ.out htn
                  have hcells : Hid (∀ j u, (xs.take (t * 6))[j]? = some u → wr.cell? ⟨g, j, none⟩ = some u) := Lib.hid fun j u hu => by
                    have := hlowJ.cells (g := g) rfl j u hu
                    rwa [insAdd, Nat.zero_add] at this
                  have hxl := hownJ.out.1
                  have hrest : Hid (∀ j u, (xs.drop (t * 6))[j]? = some u → wr.cell? ⟨g, 0 + j, none⟩ = some u) := Lib.hid fun j u hu => by
                    have hjl := (List.getElem?_eq_some_iff.1 hu).1
                    rw [List.length_drop] at hjl
                    rw [List.getElem?_drop] at hu
                    exfalso; omega
                  have hgl := (hownJ.out.lt g rfl).2
                  have hlowl := Lib.hid hlowJ.1
                  have hxlh := Lib.hid hxl
                  have hdrl : Hid ((xs.drop (t * 6)).length = 0 * 6) := Lib.hid (by rw [List.length_drop, hxl]; omega)
                  unfold maxLen at hcmJ
                  clear hlowJ hxl
                  (refine wp_region_swq (7) (3) (10) [.slice (some ⟨g, 0, none⟩) t t, .int .i64 t, .slice (some ⟨g, 0, none⟩) 0 0] [62, 66, 68] [] (by kernel_rfl) (by kernel_rfl) (by kernel_rfl) (by kernel_rfl) (by kernel_rfl) (by kernel_rfl) (by kernel_rfl) (by kernel_rfl) (fun _ _ _ _ _ h => h) ?_ ?_; (simp only [List.drop_succ_cons, List.drop_zero, List.take_succ_cons, List.take_zero, YieldsD]); rotate_left; intro ops; (simp only [swL, reN, wtL, wtO, List.take_succ_cons, List.take_zero, List.drop_succ_cons, List.drop_zero, List.map_cons, List.map_nil, List.cons_append, List.nil_append, List.append_nil]); rotate_right)
                  · refine ⟨rfl, mute_op (.inl ⟨_, rfl⟩), fun w => ?_, rfl, mute_op (.inl ⟨_, rfl⟩), fun w => ?_, rfl, mute_op (.inr ⟨_, _, _, _, _, _, _, rfl, rfl⟩), fun w => ?_, trivial⟩
                    · go_simp
                    · go_simp
                    · go_simp
                  ((with_reducible refine wpRel_fact [] (62) (RowAt (wr.heap.size) (#[]) (27) (0)) (by kernel_rfl) rfl rfl (RowAt.steady _ _ _ _) (by first | exact rfl | go_simp) ?_ ?_); (· intro p; rw [pickR_nil]; (simp only [fillR]); go_wp2_with fail; exact row_post p.h.size rfl rfl))
                  iterate 3 (((with_reducible refine wpRel_none (by kernel_rfl) (by kernel_rfl) ?_); intro K hK; go_simp; first | (with_reducible refine hK _ ?_; clear hK K) | (apply Exists.intro; (with_reducible refine ⟨fun _ => ⟨?_, _, rfl⟩, hK _ ?_⟩); (· exact rfl); clear hK K) | (apply Exists.intro; (with_reducible refine ⟨fun _ => ?_, hK _ ?_⟩); (· (with_reducible (fail))); clear hK K)))
                  (with_reducible refine wpRel_fact [62] (66) ((OwnG wr.heap.size 27 6 t (xs.take (t * 6)))) (by kernel_rfl) rfl rfl ((OwnG.steady _ _ _ _ _)) (by first | exact rfl | go_simp) (fun p => ?_) ?_)
                  · (try simp only [pickR, pickR_nil, fillR, List.contains_cons, List.contains_nil, Nat.reduceBEq, Bool.or_false, Bool.or_true, Bool.true_or, Bool.false_or, if_true, if_false, Bool.false_eq_true])
                    rintro u ⟨b62, h62, rfl, z62⟩
                    refine wpList_append_fresh _ rfl _ _ 22 rfl 27 i0 (.agg #[.int .i64 0, .bool false, .int .i64 0, .float .f64 0, .string ByteArray.empty, .slice none 0 0]) 6 72 Try.underlying22 hi0 hz0 hz1 hz2 rfl (by decide) b62 rfl 27 rfl z62 wr.heap.size h62 (some ⟨g, 0, none⟩) t t (xs.take (t * 6)) rfl (fun h => by cases h) hlowl.out (fun ad had j u hu => by cases had; rw [insAdd, Nat.zero_add]; exact (p.h.cell (p := ⟨g, j, none⟩) hgl).trans (hcells.out j u hu)) (fun u hu => honesJ.out u (List.mem_of_mem_take hu)) (by unfold maxLen; omega) (by omega) ?_
                    intro v' w' hown hb
                    exact ⟨fun h => absurd h (by decide), rfl, rfl, hb, hown⟩
                  ((with_reducible refine wpRel_none (by kernel_rfl) (by kernel_rfl) ?_); intro K hK; go_simp; first | (with_reducible refine hK _ ?_; clear hK K) | (apply Exists.intro; (with_reducible refine ⟨fun _ => ⟨?_, _, rfl⟩, hK _ ?_⟩); (· exact rfl); clear hK K) | (apply Exists.intro; (with_reducible refine ⟨fun _ => ?_, hK _ ?_⟩); (· (with_reducible (fail))); clear hK K))
                  ((with_reducible refine wpRel_fact [] (68) (RowAt (wr.heap.size) (#[.int .i64 kk, .bool kb, .int .i64 kn, .float .f64 kf, .string (st ks), .slice kB klen kc]) (27) (1)) (by kernel_rfl) rfl rfl (RowAt.steady _ _ _ _) (by first | exact rfl | go_simp) ?_ ?_); (· intro p; rw [pickR_nil]; (simp only [fillR]); go_wp2_with fail; exact row_post p.h.size rfl rfl))
                  iterate 3 (((with_reducible refine wpRel_none (by kernel_rfl) (by kernel_rfl) ?_); intro K hK; go_simp; first | (with_reducible refine hK _ ?_; clear hK K) | (apply Exists.intro; (with_reducible refine ⟨fun _ => ⟨?_, _, rfl⟩, hK _ ?_⟩); (· exact rfl); clear hK K) | (apply Exists.intro; (with_reducible refine ⟨fun _ => ?_, hK _ ?_⟩); (· (with_reducible (fail))); clear hK K)))
                  ((with_reducible refine wpRel_nil ?_); intro p; (simp only [fillR]))
                  rintro u76 ⟨b76, h76, rfl, z76⟩ u66 hown66 u62 ⟨b62, h62, rfl, z62⟩ -
                  have hbP : Below wr.heap.size wr p.w := p.h
                  have hbS := hbP.size
                  generalize p.w = wp at *
                  clear p z62
                  unfold OwnG at hown66
                  have z76 := Lib.hid z76
                  obtain ⟨A66, c66, hv66, _, _⟩ := own_form hown66
                  subst hv66
                  have d1 : Hid (∀ (j : Nat) (u : Value), (valC kk kb kn kf ks kB klen kc)[j]? = some u → wp.cell? ((⟨b76, 0, none⟩ : Addr).add j) = some u) := Lib.hid fun j u hu => by
                    rw [insAdd, Nat.zero_add, cell_of z76.out j]
                    simpa using hu
                  have d3 : Hid (t + 1 ≤ maxLen) := Lib.hid (by unfold maxLen; omega)
                  have d4 : Hid ((t + 1) * 72 ≤ 140737488355328) := Lib.hid (by omega)
                  have hown66h := Lib.hid hown66
                  clear hown66
                  go_wp2_with (at_builtin; refine wpList_append_own _ rfl _ _ 22 rfl wr.heap.size 27 i0 (.agg #[.int .i64 0, .bool false, .int .i64 0, .float .f64 0, .string ByteArray.empty, .slice none 0 0]) 6 72 Try.underlying22 hi0 hz0 hz1 hz2 rfl (by decide) _ _ _ rfl hown66h.out ⟨b76, 0, none⟩ 1 1 (valC kk kb kn kf ks kB klen kc) rfl rfl d1.out (valC_one _ _ _ _ _ _ _ _) d3.out d4.out hbS ?_)
                  have hown66 := hown66h.out
                  clear hown66h d1 d3 d4
                  intro v7 w7 hown7 hgrow7 _
                  have hb7 : Below wr.heap.size wr w7 := hbP.grown hgrow7 hbS fun k hk => (hown66.lt k hk).1
                  have hbS7 := hb7.size
                  obtain ⟨A7, c7, hv7, _, _⟩ := own_form hown7
                  subst hv7
                  clear hown66 hgrow7 hbP z76
                  have e0 : Hid (([] : List Value).length = 0 * 6) := Lib.hid (by simp)
                  have e1 : Hid (∀ (j : Nat) (u : Value), ([] : List Value)[j]? = some u → w7.cell? ((⟨g, 0, none⟩ : Addr).add j) = some u) := Lib.hid fun j u hu => by simp at hu
                  have e2 : Hid (∀ u ∈ ([] : List Value), u.oneCell' = true) := Lib.hid fun u hu => by cases hu
                  have e3 : Hid (t + 1 + 0 ≤ maxLen) := Lib.hid (by unfold maxLen; omega)
                  have e4 : Hid ((t + 1 + 0) * 72 ≤ 140737488355328) := Lib.hid (by omega)
                  have hown7h := Lib.hid hown7
                  clear hown7
                  go_wp2_with (at_builtin; refine wpList_append_own _ rfl _ _ 22 rfl wr.heap.size 27 i0 (.agg #[.int .i64 0, .bool false, .int .i64 0, .float .f64 0, .string ByteArray.empty, .slice none 0 0]) 6 72 Try.underlying22 hi0 hz0 hz1 hz2 rfl (by decide) _ _ _ rfl hown7h.out ⟨g, 0, none⟩ 0 _ [] rfl e0.out e1.out e2.out e3.out e4.out hbS7 ?_)
                  have hown7 := hown7h.out
                  clear hown7h e0 e1 e2 e3 e4
                  intro v8 w8 hown8 hgrow8 _
                  have hb8 : Below wr.heap.size wr w8 := hb7.grown hgrow8 hbS7 fun k hk => (hown7.lt k hk).1
                  have hown8 : w8.ownsRow wr.heap.size 27 6 v8 (t + 1) (xs.take (t * 6) ++ (valC kk kb kn kf ks kB klen kc) ++ xs.drop (t * 6)) := by
                    rw [List.drop_eq_nil_of_le (by have := hxlh.out; omega)]
                    simpa using hown8
                  obtain ⟨g8, c8, hv8, _, _, _, _⟩ := own_some hown8 (by omega)
                  subst hv8
                  have hown8 := Lib.hid hown8
                  clear hgrow8 hown7 hb7
                  go_wp2_with fail
                  ((with_reducible show Met _ _ _); refine Met.intro ?_; go_step; (repeat' apply Exists.intro); refine ⟨?_, rfl⟩)
                  exact ⟨g8, c8, rfl, hown8.out.mono hbJs, hb8⟩
                · have hcI : ¬ cap = t := fun e => hcc e.symm
                  have hIc : t ≤ cap := (own_caps hownJ.out).1
                  have hIc' : (t : Int) ≤ cap := by omega
                  obtain ⟨hncJ, hcmJ⟩ := own_caps hownJ.out
                  have hlowJ := own_fewer hownJ.out htn
                  have hcells : Hid (∀ j u, (xs.take (t * 6))[j]? = some u → wr.cell? ⟨g, j, none⟩ = some u) := Lib.hid fun j u hu => by
                    have := hlowJ.cells (g := g) rfl j u hu
                    rwa [insAdd, Nat.zero_add] at this
                  have hxl := hownJ.out.1
                  have hrest : Hid (∀ j u, (xs.drop (t * 6))[j]? = some u → wr.cell? ⟨g, (t * 6) + j, none⟩ = some u) := Lib.hid fun j u hu => by
                    have hjl := (List.getElem?_eq_some_iff.1 hu).1
                    rw [List.length_drop] at hjl
                    rw [List.getElem?_drop] at hu
                    try rw [Nat.mul_one] at hu
                    exact (hownJ.out.cellAt _ (by omega)).trans hu
                  have hgl := (hownJ.out.lt g rfl).2
                  have hlowl := Lib.hid hlowJ.1
                  have hxlh := Lib.hid hxl
                  have hdrl : Hid ((xs.drop (t * 6)).length = 0 * 6) := Lib.hid (by rw [List.length_drop, hxl]; omega)
                  unfold maxLen at hcmJ
                  clear hlowJ hxl
                  (refine wp_region_swq (7) (3) (10) [.slice (some ⟨g, 0, none⟩) t cap, .int .i64 t, .slice (some ⟨g, (t * 6), none⟩) 0 (cap - t)] [62, 66, 68] [] (by kernel_rfl) (by kernel_rfl) (by kernel_rfl) (by kernel_rfl) (by kernel_rfl) (by kernel_rfl) (by kernel_rfl) (by kernel_rfl) (fun _ _ _ _ _ h => h) ?_ ?_; (simp only [List.drop_succ_cons, List.drop_zero, List.take_succ_cons, List.take_zero, YieldsD]); rotate_left; intro ops; (simp only [swL, reN, wtL, wtO, List.take_succ_cons, List.take_zero, List.drop_succ_cons, List.drop_zero, List.map_cons, List.map_nil, List.cons_append, List.nil_append, List.append_nil]); rotate_right)
                  · refine ⟨rfl, mute_op (.inl ⟨_, rfl⟩), fun w => ?_, rfl, mute_op (.inl ⟨_, rfl⟩), fun w => ?_, rfl, mute_op (.inr ⟨_, _, _, _, _, _, _, rfl, rfl⟩), fun w => ?_, trivial⟩
                    · go_simp
                    · go_simp
                    · go_simp
                  ((with_reducible refine wpRel_fact [] (62) (RowAt (wr.heap.size) (#[]) (27) (0)) (by kernel_rfl) rfl rfl (RowAt.steady _ _ _ _) (by first | exact rfl | go_simp) ?_ ?_); (· intro p; rw [pickR_nil]; (simp only [fillR]); go_wp2_with fail; exact row_post p.h.size rfl rfl))
                  iterate 3 (((with_reducible refine wpRel_none (by kernel_rfl) (by kernel_rfl) ?_); intro K hK; go_simp; first | (with_reducible refine hK _ ?_; clear hK K) | (apply Exists.intro; (with_reducible refine ⟨fun _ => ⟨?_, _, rfl⟩, hK _ ?_⟩); (· exact rfl); clear hK K) | (apply Exists.intro; (with_reducible refine ⟨fun _ => ?_, hK _ ?_⟩); (· (with_reducible (fail))); clear hK K)))
                  (with_reducible refine wpRel_fact [62] (66) ((OwnG wr.heap.size 27 6 t (xs.take (t * 6)))) (by kernel_rfl) rfl rfl ((OwnG.steady _ _ _ _ _)) (by first | exact rfl | go_simp) (fun p => ?_) ?_)
                  · (try simp only [pickR, pickR_nil, fillR, List.contains_cons, List.contains_nil, Nat.reduceBEq, Bool.or_false, Bool.or_true, Bool.true_or, Bool.false_or, if_true, if_false, Bool.false_eq_true])
                    rintro u ⟨b62, h62, rfl, z62⟩
                    refine wpList_append_fresh _ rfl _ _ 22 rfl 27 i0 (.agg #[.int .i64 0, .bool false, .int .i64 0, .float .f64 0, .string ByteArray.empty, .slice none 0 0]) 6 72 Try.underlying22 hi0 hz0 hz1 hz2 rfl (by decide) b62 rfl 27 rfl z62 wr.heap.size h62 (some ⟨g, 0, none⟩) t cap (xs.take (t * 6)) rfl (fun h => by cases h) hlowl.out (fun ad had j u hu => by cases had; rw [insAdd, Nat.zero_add]; exact (p.h.cell (p := ⟨g, j, none⟩) hgl).trans (hcells.out j u hu)) (fun u hu => honesJ.out u (List.mem_of_mem_take hu)) (by unfold maxLen; omega) (by omega) ?_
                    intro v' w' hown hb
                    exact ⟨fun h => absurd h (by decide), rfl, rfl, hb, hown⟩
                  ((with_reducible refine wpRel_none (by kernel_rfl) (by kernel_rfl) ?_); intro K hK; go_simp; first | (with_reducible refine hK _ ?_; clear hK K) | (apply Exists.intro; (with_reducible refine ⟨fun _ => ⟨?_, _, rfl⟩, hK _ ?_⟩); (· exact rfl); clear hK K) | (apply Exists.intro; (with_reducible refine ⟨fun _ => ?_, hK _ ?_⟩); (· (with_reducible (fail))); clear hK K))
                  ((with_reducible refine wpRel_fact [] (68) (RowAt (wr.heap.size) (#[.int .i64 kk, .bool kb, .int .i64 kn, .float .f64 kf, .string (st ks), .slice kB klen kc]) (27) (1)) (by kernel_rfl) rfl rfl (RowAt.steady _ _ _ _) (by first | exact rfl | go_simp) ?_ ?_); (· intro p; rw [pickR_nil]; (simp only [fillR]); go_wp2_with fail; exact row_post p.h.size rfl rfl))
                  iterate 3 (((with_reducible refine wpRel_none (by kernel_rfl) (by kernel_rfl) ?_); intro K hK; go_simp; first | (with_reducible refine hK _ ?_; clear hK K) | (apply Exists.intro; (with_reducible refine ⟨fun _ => ⟨?_, _, rfl⟩, hK _ ?_⟩); (· exact rfl); clear hK K) | (apply Exists.intro; (with_reducible refine ⟨fun _ => ?_, hK _ ?_⟩); (· (with_reducible (fail))); clear hK K)))
                  ((with_reducible refine wpRel_nil ?_); intro p; (simp only [fillR]))
                  rintro u76 ⟨b76, h76, rfl, z76⟩ u66 hown66 u62 ⟨b62, h62, rfl, z62⟩ -
                  have hbP : Below wr.heap.size wr p.w := p.h
                  have hbS := hbP.size
                  generalize p.w = wp at *
                  clear p z62
                  unfold OwnG at hown66
                  have z76 := Lib.hid z76
                  obtain ⟨A66, c66, hv66, _, _⟩ := own_form hown66
                  subst hv66
                  have d1 : Hid (∀ (j : Nat) (u : Value), (valC kk kb kn kf ks kB klen kc)[j]? = some u → wp.cell? ((⟨b76, 0, none⟩ : Addr).add j) = some u) := Lib.hid fun j u hu => by
                    rw [insAdd, Nat.zero_add, cell_of z76.out j]
                    simpa using hu
                  have d3 : Hid (t + 1 ≤ maxLen) := Lib.hid (by unfold maxLen; omega)
                  have d4 : Hid ((t + 1) * 72 ≤ 140737488355328) := Lib.hid (by omega)
                  have hown66h := Lib.hid hown66
                  clear hown66
                  go_wp2_with (at_builtin; refine wpList_append_own _ rfl _ _ 22 rfl wr.heap.size 27 i0 (.agg #[.int .i64 0, .bool false, .int .i64 0, .float .f64 0, .string ByteArray.empty, .slice none 0 0]) 6 72 Try.underlying22 hi0 hz0 hz1 hz2 rfl (by decide) _ _ _ rfl hown66h.out ⟨b76, 0, none⟩ 1 1 (valC kk kb kn kf ks kB klen kc) rfl rfl d1.out (valC_one _ _ _ _ _ _ _ _) d3.out d4.out hbS ?_)
                  have hown66 := hown66h.out
                  clear hown66h d1 d3 d4
                  intro v7 w7 hown7 hgrow7 _
                  have hb7 : Below wr.heap.size wr w7 := hbP.grown hgrow7 hbS fun k hk => (hown66.lt k hk).1
                  have hbS7 := hb7.size
                  obtain ⟨A7, c7, hv7, _, _⟩ := own_form hown7
                  subst hv7
                  clear hown66 hgrow7 hbP z76
                  have e0 : Hid (([] : List Value).length = 0 * 6) := Lib.hid (by simp)
                  have e1 : Hid (∀ (j : Nat) (u : Value), ([] : List Value)[j]? = some u → w7.cell? ((⟨g, (t * 6), none⟩ : Addr).add j) = some u) := Lib.hid fun j u hu => by simp at hu
                  have e2 : Hid (∀ u ∈ ([] : List Value), u.oneCell' = true) := Lib.hid fun u hu => by cases hu
                  have e3 : Hid (t + 1 + 0 ≤ maxLen) := Lib.hid (by unfold maxLen; omega)
                  have e4 : Hid ((t + 1 + 0) * 72 ≤ 140737488355328) := Lib.hid (by omega)
                  have hown7h := Lib.hid hown7
                  clear hown7
                  go_wp2_with (at_builtin; refine wpList_append_own _ rfl _ _ 22 rfl wr.heap.size 27 i0 (.agg #[.int .i64 0, .bool false, .int .i64 0, .float .f64 0, .string ByteArray.empty, .slice none 0 0]) 6 72 Try.underlying22 hi0 hz0 hz1 hz2 rfl (by decide) _ _ _ rfl hown7h.out ⟨g, (t * 6), none⟩ 0 _ [] rfl e0.out e1.out e2.out e3.out e4.out hbS7 ?_)
                  have hown7 := hown7h.out
                  clear hown7h e0 e1 e2 e3 e4
                  intro v8 w8 hown8 hgrow8 _
                  have hb8 : Below wr.heap.size wr w8 := hb7.grown hgrow8 hbS7 fun k hk => (hown7.lt k hk).1
                  have hown8 : w8.ownsRow wr.heap.size 27 6 v8 (t + 1) (xs.take (t * 6) ++ (valC kk kb kn kf ks kB klen kc) ++ xs.drop (t * 6)) := by
                    rw [List.drop_eq_nil_of_le (by have := hxlh.out; omega)]
                    simpa using hown8
                  obtain ⟨g8, c8, hv8, _, _, _, _⟩ := own_some hown8 (by omega)
                  subst hv8
                  have hown8 := Lib.hid hown8
                  clear hgrow8 hown7 hb7
                  go_wp2_with fail
                  ((with_reducible show Met _ _ _); refine Met.intro ?_; go_step; (repeat' apply Exists.intro); refine ⟨?_, rfl⟩)
                  exact ⟨g8, c8, rfl, hown8.out.mono hbJs, hb8⟩
            case rest =>
              obtain ⟨g2, c2, rfl, hownK2, hbJ2⟩ := hcut
              have hbwr := hbwc.trans (hbz.mono hbsc)
              have hbwJ := hbwr.trans (hbJ2.mono hbJs)
              have hownJ := Lib.hid (own_stays hRz.out hbJ2)
              have hrrJ := Lib.hid (hrrz.out.keep hbJ2)
              have honesJ := Lib.hid (RRow.one hrrz.out)
              have hSJ := Lib.hid (hS.out.keep hbJ2)
              have hb3J := hb3z.trans (hbJ2.mono hb3z.size)
              have hbJs := hbwJ.size
              have hownK2 := Lib.hid hownK2
              clear x6 x0 x1 x2 x3 x4 x5 hRz hrrz hS hb3z hbJ2
              go_upto_region 17 with fail
              have hlenh : Hid ((insJ l js f).length = n + 1) := Lib.hid (by rw [insJ_len, hn])
              have hjm2 : Hid ((insJ l js f).length = m + 1) := Lib.hid (by rw [insJ_len, hn, ← hjm.out])
              have hstep2 : Hid (insJ l js f = (fs.take (m + 1)).foldl (insJ l) []) := Lib.hid (by rw [hstep.out, ← hjs.out])
              have hvr2 : Hid (VRow w ((insJ l js f).map (kAt l)) (xs.take (t * 6) ++ (valC kk kb kn kf ks kB klen kc) ++ xs.drop (t * 6))) := Lib.hid (by
                rw [insJ_map, ← hcn.out]
                have h := hvr.out.insert (VRow.single hkx) t (by rw [List.length_map, hn]; exact htj)
                simpa using h)
              have hfin : Hid (∀ (w8 : World) (g8 c8 : Nat), w8.ownsRow w.heap.size 28 1 (.slice (some ⟨g8, 0, none⟩) (n + 1) c8) (n + 1) (cs.take (t * 1) ++ [.slice S sn sc] ++ cs.drop (t * 1)) → Below wc.heap.size wc w8 →
                  w8.ownsRow w.heap.size 27 6 (.slice (some ⟨g2, 0, none⟩) (insJ l js f).length c2) (insJ l js f).length (xs.take (t * 6) ++ (valC kk kb kn kf ks kB klen kc) ++ xs.drop (t * 6)) ∧ VRow w ((insJ l js f).map (kAt l)) (xs.take (t * 6) ++ (valC kk kb kn kf ks kB klen kc) ++ xs.drop (t * 6)) ∧
                  w8.ownsRow w.heap.size 28 1 (.slice (some ⟨g8, 0, none⟩) (insJ l js f).length c8) (insJ l js f).length (cs.take (t * 1) ++ [.slice S sn sc] ++ cs.drop (t * 1)) ∧ RRow w8 ((insJ l js f).map (plac l l.length)) (cs.take (t * 1) ++ [.slice S sn sc] ++ cs.drop (t * 1)) ∧ Below w3.heap.size w3 w8) := Lib.hid fun w8 g8 c8 ho hb => by
                rw [hlenh.out]
                refine ⟨own_stays hownK2.out hb, hvr2.out, ho, ?_, hb3J.trans (hb.mono hb3J.size)⟩
                rw [insJ_map, ← hcn.out, Nat.mul_one, ← hsnh.out]
                exact (hrrJ.out.keep hb).insert (by rw [List.length_map, hn]; exact htj) (hSJ.out.keep hb)
              by_cases htlt : t < n
              · have htlt' : (t : Int) < n := by omega
                have htn : t ≤ n := by omega
                have hcI : ¬ rcap = t := by have := (own_caps hownJ.out).1; omega
                have hIc : t ≤ rcap := by have := (own_caps hownJ.out).1; omega
                have hIc' : (t : Int) ≤ rcap := by omega
                have hIn' : (t : Int) ≤ n := by omega
                obtain ⟨hncJ, hcmJ⟩ := own_caps hownJ.out
                have hlowJ := own_fewer hownJ.out htn
                have hcells : Hid (∀ j u, (cs.take (t * 1))[j]? = some u → wc.cell? ⟨gr, j, none⟩ = some u) := Lib.hid fun j u hu => by
                  have := hlowJ.cells (g := gr) rfl j u hu
                  rwa [insAdd, Nat.zero_add] at this
                have hxl := hownJ.out.1
                have hrest : Hid (∀ j u, (cs.drop (t * 1))[j]? = some u → wc.cell? ⟨gr, t + j, none⟩ = some u) := Lib.hid fun j u hu => by
                  have hjl := (List.getElem?_eq_some_iff.1 hu).1
                  rw [List.length_drop] at hjl
                  rw [List.getElem?_drop] at hu
                  try rw [Nat.mul_one] at hu
                  exact (hownJ.out.cellAt _ (by omega)).trans hu
                have hgl := (hownJ.out.lt gr rfl).2
                have hlowl := Lib.hid hlowJ.1
                have hxlh := Lib.hid hxl
                have hdrl : Hid ((cs.drop (t * 1)).length = (n - t) * 1) := Lib.hid (by rw [List.length_drop, hxl]; rw [Nat.sub_mul])
                unfold maxLen at hcmJ
                clear hlowJ hxl
                (refine wp_region_swq (7) (3) (10) [.slice (some ⟨gr, 0, none⟩) n rcap, .int .i64 t, .slice (some ⟨gr, t, none⟩) (n - t) (rcap - t)] [74, 78, 80] [] (by kernel_rfl) (by kernel_rfl) (by kernel_rfl) (by kernel_rfl) (by kernel_rfl) (by kernel_rfl) (by kernel_rfl) (by kernel_rfl) (fun _ _ _ _ _ h => h) ?_ ?_; (simp only [List.drop_succ_cons, List.drop_zero, List.take_succ_cons, List.take_zero, YieldsD]); rotate_left; intro ops; (simp only [swL, reN, wtL, wtO, List.take_succ_cons, List.take_zero, List.drop_succ_cons, List.drop_zero, List.map_cons, List.map_nil, List.cons_append, List.nil_append, List.append_nil]); rotate_right)
                · refine ⟨rfl, mute_op (.inl ⟨_, rfl⟩), fun w => ?_, rfl, mute_op (.inl ⟨_, rfl⟩), fun w => ?_, rfl, mute_op (.inr ⟨_, _, _, _, _, _, _, rfl, rfl⟩), fun w => ?_, trivial⟩
                  · go_simp
                  · go_simp
                  · go_simp
                ((with_reducible refine wpRel_fact [] (74) (RowAt (wc.heap.size) (#[]) (28) (0)) (by kernel_rfl) rfl rfl (RowAt.steady _ _ _ _) (by first | exact rfl | go_simp) ?_ ?_); (· intro p; rw [pickR_nil]; (simp only [fillR]); go_wp2_with fail; exact row_post p.h.size rfl rfl))
                iterate 3 (((with_reducible refine wpRel_none (by kernel_rfl) (by kernel_rfl) ?_); intro K hK; go_simp; first | (with_reducible refine hK _ ?_; clear hK K) | (apply Exists.intro; (with_reducible refine ⟨fun _ => ⟨?_, _, rfl⟩, hK _ ?_⟩); (· exact rfl); clear hK K) | (apply Exists.intro; (with_reducible refine ⟨fun _ => ?_, hK _ ?_⟩); (· (with_reducible (fail))); clear hK K)))
                (with_reducible refine wpRel_fact [74] (78) ((OwnG wc.heap.size 28 1 t (cs.take (t * 1)))) (by kernel_rfl) rfl rfl ((OwnG.steady _ _ _ _ _)) (by first | exact rfl | go_simp) (fun p => ?_) ?_)
                · (try simp only [pickR, pickR_nil, fillR, List.contains_cons, List.contains_nil, Nat.reduceBEq, Bool.or_false, Bool.or_true, Bool.true_or, Bool.false_or, if_true, if_false, Bool.false_eq_true])
                  rintro u ⟨b62, h62, rfl, z62⟩
                  refine wpList_append_fresh _ rfl _ _ 45 rfl 28 r0 (.slice none 0 0) 1 24 Try.underlying45 ri0 rz0 rz1 rz2 rfl (by decide) b62 rfl 28 rfl z62 wc.heap.size h62 (some ⟨gr, 0, none⟩) t rcap (cs.take (t * 1)) rfl (fun h => by cases h) hlowl.out (fun ad had j u hu => by cases had; rw [insAdd, Nat.zero_add]; exact (p.h.cell (p := ⟨gr, j, none⟩) hgl).trans (hcells.out j u hu)) (fun u hu => honesJ.out u (List.mem_of_mem_take hu)) (by unfold maxLen; omega) (by omega) ?_
                  intro v' w' hown hb
                  exact ⟨fun h => absurd h (by decide), rfl, rfl, hb, hown⟩
                ((with_reducible refine wpRel_none (by kernel_rfl) (by kernel_rfl) ?_); intro K hK; go_simp; first | (with_reducible refine hK _ ?_; clear hK K) | (apply Exists.intro; (with_reducible refine ⟨fun _ => ⟨?_, _, rfl⟩, hK _ ?_⟩); (· exact rfl); clear hK K) | (apply Exists.intro; (with_reducible refine ⟨fun _ => ?_, hK _ ?_⟩); (· (with_reducible (fail))); clear hK K))
                ((with_reducible refine wpRel_fact [] (80) (RowAt (wc.heap.size) (#[.slice S sn sc]) (28) (1)) (by kernel_rfl) rfl rfl (RowAt.steady _ _ _ _) (by first | exact rfl | go_simp) ?_ ?_); (· intro p; rw [pickR_nil]; (simp only [fillR]); go_wp2_with fail; exact row_post p.h.size rfl rfl))
                iterate 3 (((with_reducible refine wpRel_none (by kernel_rfl) (by kernel_rfl) ?_); intro K hK; go_simp; first | (with_reducible refine hK _ ?_; clear hK K) | (apply Exists.intro; (with_reducible refine ⟨fun _ => ⟨?_, _, rfl⟩, hK _ ?_⟩); (· exact rfl); clear hK K) | (apply Exists.intro; (with_reducible refine ⟨fun _ => ?_, hK _ ?_⟩); (· (with_reducible (fail))); clear hK K)))
                ((with_reducible refine wpRel_nil ?_); intro p; (simp only [fillR]))
                rintro u76 ⟨b76, h76, rfl, z76⟩ u66 hown66 u62 ⟨b62, h62, rfl, z62⟩ -
                have hbP : Below wc.heap.size wc p.w := p.h
                have hbS := hbP.size
                generalize p.w = wp at *
                clear p z62
                unfold OwnG at hown66
                have z76 := Lib.hid z76
                obtain ⟨A66, c66, hv66, _, _⟩ := own_form hown66
                subst hv66
                have d1 : Hid (∀ (j : Nat) (u : Value), ([.slice S sn sc])[j]? = some u → wp.cell? ((⟨b76, 0, none⟩ : Addr).add j) = some u) := Lib.hid fun j u hu => by
                  rw [insAdd, Nat.zero_add, cell_of z76.out j]
                  simpa using hu
                have d3 : Hid (t + 1 ≤ maxLen) := Lib.hid (by unfold maxLen; omega)
                have d4 : Hid ((t + 1) * 24 ≤ 140737488355328) := Lib.hid (by omega)
                have hown66h := Lib.hid hown66
                clear hown66
                go_wp2_with (at_builtin; refine wpList_append_own _ rfl _ _ 45 rfl wc.heap.size 28 r0 (.slice none 0 0) 1 24 Try.underlying45 ri0 rz0 rz1 rz2 rfl (by decide) _ _ _ rfl hown66h.out ⟨b76, 0, none⟩ 1 1 ([.slice S sn sc]) rfl rfl d1.out (slice_one _ _ _) d3.out d4.out hbS ?_)
                have hown66 := hown66h.out
                clear hown66h d1 d3 d4
                intro v7 w7 hown7 hgrow7 _
                have hb7 : Below wc.heap.size wc w7 := hbP.grown hgrow7 hbS fun k hk => (hown66.lt k hk).1
                have hbS7 := hb7.size
                obtain ⟨A7, c7, hv7, _, _⟩ := own_form hown7
                subst hv7
                clear hown66 hgrow7 hbP z76
                have e0 : Hid ((cs.drop (t * 1)).length = (n - t) * 1) := hdrl
                have e1 : Hid (∀ (j : Nat) (u : Value), (cs.drop (t * 1))[j]? = some u → w7.cell? ((⟨gr, t, none⟩ : Addr).add j) = some u) := Lib.hid fun j u hu => by
                  rw [insAdd]
                  exact (hb7.cell (p := ⟨gr, t + j, none⟩) hgl).trans (hrest.out j u hu)
                have e2 : Hid (∀ u ∈ cs.drop (t * 1), u.oneCell' = true) := Lib.hid fun u hu => honesJ.out u (List.mem_of_mem_drop hu)
                have e3 : Hid (t + 1 + (n - t) ≤ maxLen) := Lib.hid (by unfold maxLen; omega)
                have e4 : Hid ((t + 1 + (n - t)) * 24 ≤ 140737488355328) := Lib.hid (by omega)
                have hown7h := Lib.hid hown7
                clear hown7
                go_wp2_with (at_builtin; refine wpList_append_own _ rfl _ _ 45 rfl wc.heap.size 28 r0 (.slice none 0 0) 1 24 Try.underlying45 ri0 rz0 rz1 rz2 rfl (by decide) _ _ _ rfl hown7h.out ⟨gr, t, none⟩ (n - t) _ (cs.drop (t * 1)) rfl e0.out e1.out e2.out e3.out e4.out hbS7 ?_)
                have hown7 := hown7h.out
                clear hown7h e0 e1 e2 e3 e4
                intro v8 w8 hown8 hgrow8 _
                have hb8 : Below wc.heap.size wc w8 := hb7.grown hgrow8 hbS7 fun k hk => (hown7.lt k hk).1
                have hown8 : w8.ownsRow wc.heap.size 28 1 v8 (n + 1) (cs.take (t * 1) ++ ([.slice S sn sc]) ++ cs.drop (t * 1)) := by
                  rw [show n + 1 = t + 1 + (n - t) by omega]
                  first | exact hown8 | simpa using hown8
                obtain ⟨g8, c8, hv8, _, _, _, _⟩ := own_some hown8 (by omega)
                subst hv8
                have hown8 := Lib.hid hown8
                clear hgrow8 hown7 hb7
                go_wp2_with fail
                have hF8 := hfin.out w8 g8 c8 (hown8.out.mono hbJs) hb8
                exact ⟨⟨m + 1, g2, g8, c2, c8, insJ l js f, _, _, by simp, hmf, by rw [hlenh.out], by rw [hlenh.out], hjm2, hstep2, Lib.hid hF8.1, Lib.hid hF8.2.1, Lib.hid hF8.2.2.1, Lib.hid hF8.2.2.2.1, hF8.2.2.2.2⟩, by simp [intOf]; omega⟩
              · have htn0 : t = n := by omega
                subst htn0
                have htn : t ≤ t := Nat.le_refl _
                by_cases hcc : t = rcap
                · subst hcc
                  obtain ⟨hncJ, hcmJ⟩ := own_caps hownJ.out
                  have hlowJ := own_fewer hownJ.out htn
                  have hcells : Hid (∀ j u, (cs.take (t * 1))[j]? = some u → wc.cell? ⟨gr, j, none⟩ = some u) := Lib.hid fun j u hu => by
                    have := hlowJ.cells (g := gr) rfl j u hu
                    rwa [insAdd, Nat.zero_add] at this
                  have hxl := hownJ.out.1
                  have hrest : Hid (∀ j u, (cs.drop (t * 1))[j]? = some u → wc.cell? ⟨gr, 0 + j, none⟩ = some u) := Lib.hid fun j u hu => by
                    have hjl := (List.getElem?_eq_some_iff.1 hu).1
                    rw [List.length_drop] at hjl
                    rw [List.getElem?_drop] at hu
                    exfalso; omega
                  have hgl := (hownJ.out.lt gr rfl).2
                  have hlowl := Lib.hid hlowJ.1
                  have hxlh := Lib.hid hxl
                  have hdrl : Hid ((cs.drop (t * 1)).length = 0 * 1) := Lib.hid (by rw [List.length_drop, hxl]; omega)
                  unfold maxLen at hcmJ
                  clear hlowJ hxl
                  (refine wp_region_swq (7) (3) (10) [.slice (some ⟨gr, 0, none⟩) t t, .int .i64 t, .slice (some ⟨gr, 0, none⟩) 0 0] [74, 78, 80] [] (by kernel_rfl) (by kernel_rfl) (by kernel_rfl) (by kernel_rfl) (by kernel_rfl) (by kernel_rfl) (by kernel_rfl) (by kernel_rfl) (fun _ _ _ _ _ h => h) ?_ ?_; (simp only [List.drop_succ_cons, List.drop_zero, List.take_succ_cons, List.take_zero, YieldsD]); rotate_left; intro ops; (simp only [swL, reN, wtL, wtO, List.take_succ_cons, List.take_zero, List.drop_succ_cons, List.drop_zero, List.map_cons, List.map_nil, List.cons_append, List.nil_append, List.append_nil]); rotate_right)
                  · refine ⟨rfl, mute_op (.inl ⟨_, rfl⟩), fun w => ?_, rfl, mute_op (.inl ⟨_, rfl⟩), fun w => ?_, rfl, mute_op (.inr ⟨_, _, _, _, _, _, _, rfl, rfl⟩), fun w => ?_, trivial⟩
                    · go_simp
                    · go_simp
                    · go_simp
                  ((with_reducible refine wpRel_fact [] (74) (RowAt (wc.heap.size) (#[]) (28) (0)) (by kernel_rfl) rfl rfl (RowAt.steady _ _ _ _) (by first | exact rfl | go_simp) ?_ ?_); (· intro p; rw [pickR_nil]; (simp only [fillR]); go_wp2_with fail; exact row_post p.h.size rfl rfl))
                  iterate 3 (((with_reducible refine wpRel_none (by kernel_rfl) (by kernel_rfl) ?_); intro K hK; go_simp; first | (with_reducible refine hK _ ?_; clear hK K) | (apply Exists.intro; (with_reducible refine ⟨fun _ => ⟨?_, _, rfl⟩, hK _ ?_⟩); (· exact rfl); clear hK K) | (apply Exists.intro; (with_reducible refine ⟨fun _ => ?_, hK _ ?_⟩); (· (with_reducible (fail))); clear hK K)))
                  (with_reducible refine wpRel_fact [74] (78) ((OwnG wc.heap.size 28 1 t (cs.take (t * 1)))) (by kernel_rfl) rfl rfl ((OwnG.steady _ _ _ _ _)) (by first | exact rfl | go_simp) (fun p => ?_) ?_)
                  · (try simp only [pickR, pickR_nil, fillR, List.contains_cons, List.contains_nil, Nat.reduceBEq, Bool.or_false, Bool.or_true, Bool.true_or, Bool.false_or, if_true, if_false, Bool.false_eq_true])
                    rintro u ⟨b62, h62, rfl, z62⟩
                    refine wpList_append_fresh _ rfl _ _ 45 rfl 28 r0 (.slice none 0 0) 1 24 Try.underlying45 ri0 rz0 rz1 rz2 rfl (by decide) b62 rfl 28 rfl z62 wc.heap.size h62 (some ⟨gr, 0, none⟩) t t (cs.take (t * 1)) rfl (fun h => by cases h) hlowl.out (fun ad had j u hu => by cases had; rw [insAdd, Nat.zero_add]; exact (p.h.cell (p := ⟨gr, j, none⟩) hgl).trans (hcells.out j u hu)) (fun u hu => honesJ.out u (List.mem_of_mem_take hu)) (by unfold maxLen; omega) (by omega) ?_
                    intro v' w' hown hb
                    exact ⟨fun h => absurd h (by decide), rfl, rfl, hb, hown⟩
                  ((with_reducible refine wpRel_none (by kernel_rfl) (by kernel_rfl) ?_); intro K hK; go_simp; first | (with_reducible refine hK _ ?_; clear hK K) | (apply Exists.intro; (with_reducible refine ⟨fun _ => ⟨?_, _, rfl⟩, hK _ ?_⟩); (· exact rfl); clear hK K) | (apply Exists.intro; (with_reducible refine ⟨fun _ => ?_, hK _ ?_⟩); (· (with_reducible (fail))); clear hK K))
                  ((with_reducible refine wpRel_fact [] (80) (RowAt (wc.heap.size) (#[.slice S sn sc]) (28) (1)) (by kernel_rfl) rfl rfl (RowAt.steady _ _ _ _) (by first | exact rfl | go_simp) ?_ ?_); (· intro p; rw [pickR_nil]; (simp only [fillR]); go_wp2_with fail; exact row_post p.h.size rfl rfl))
                  iterate 3 (((with_reducible refine wpRel_none (by kernel_rfl) (by kernel_rfl) ?_); intro K hK; go_simp; first | (with_reducible refine hK _ ?_; clear hK K) | (apply Exists.intro; (with_reducible refine ⟨fun _ => ⟨?_, _, rfl⟩, hK _ ?_⟩); (· exact rfl); clear hK K) | (apply Exists.intro; (with_reducible refine ⟨fun _ => ?_, hK _ ?_⟩); (· (with_reducible (fail))); clear hK K)))
                  ((with_reducible refine wpRel_nil ?_); intro p; (simp only [fillR]))
                  rintro u76 ⟨b76, h76, rfl, z76⟩ u66 hown66 u62 ⟨b62, h62, rfl, z62⟩ -
                  have hbP : Below wc.heap.size wc p.w := p.h
                  have hbS := hbP.size
                  generalize p.w = wp at *
                  clear p z62
                  unfold OwnG at hown66
                  have z76 := Lib.hid z76
                  obtain ⟨A66, c66, hv66, _, _⟩ := own_form hown66
                  subst hv66
                  have d1 : Hid (∀ (j : Nat) (u : Value), ([.slice S sn sc])[j]? = some u → wp.cell? ((⟨b76, 0, none⟩ : Addr).add j) = some u) := Lib.hid fun j u hu => by
                    rw [insAdd, Nat.zero_add, cell_of z76.out j]
                    simpa using hu
                  have d3 : Hid (t + 1 ≤ maxLen) := Lib.hid (by unfold maxLen; omega)
                  have d4 : Hid ((t + 1) * 24 ≤ 140737488355328) := Lib.hid (by omega)
                  have hown66h := Lib.hid hown66
                  clear hown66
                  go_wp2_with (at_builtin; refine wpList_append_own _ rfl _ _ 45 rfl wc.heap.size 28 r0 (.slice none 0 0) 1 24 Try.underlying45 ri0 rz0 rz1 rz2 rfl (by decide) _ _ _ rfl hown66h.out ⟨b76, 0, none⟩ 1 1 ([.slice S sn sc]) rfl rfl d1.out (slice_one _ _ _) d3.out d4.out hbS ?_)
                  have hown66 := hown66h.out
                  clear hown66h d1 d3 d4
                  intro v7 w7 hown7 hgrow7 _
                  have hb7 : Below wc.heap.size wc w7 := hbP.grown hgrow7 hbS fun k hk => (hown66.lt k hk).1
                  have hbS7 := hb7.size
                  obtain ⟨A7, c7, hv7, _, _⟩ := own_form hown7
                  subst hv7
                  clear hown66 hgrow7 hbP z76
                  have e0 : Hid (([] : List Value).length = 0 * 1) := Lib.hid (by simp)
                  have e1 : Hid (∀ (j : Nat) (u : Value), ([] : List Value)[j]? = some u → w7.cell? ((⟨gr, 0, none⟩ : Addr).add j) = some u) := Lib.hid fun j u hu => by simp at hu
                  have e2 : Hid (∀ u ∈ ([] : List Value), u.oneCell' = true) := Lib.hid fun u hu => by cases hu
                  have e3 : Hid (t + 1 + 0 ≤ maxLen) := Lib.hid (by unfold maxLen; omega)
                  have e4 : Hid ((t + 1 + 0) * 24 ≤ 140737488355328) := Lib.hid (by omega)
                  have hown7h := Lib.hid hown7
                  clear hown7
                  go_wp2_with (at_builtin; refine wpList_append_own _ rfl _ _ 45 rfl wc.heap.size 28 r0 (.slice none 0 0) 1 24 Try.underlying45 ri0 rz0 rz1 rz2 rfl (by decide) _ _ _ rfl hown7h.out ⟨gr, 0, none⟩ 0 _ [] rfl e0.out e1.out e2.out e3.out e4.out hbS7 ?_)
                  have hown7 := hown7h.out
                  clear hown7h e0 e1 e2 e3 e4
                  intro v8 w8 hown8 hgrow8 _
                  have hb8 : Below wc.heap.size wc w8 := hb7.grown hgrow8 hbS7 fun k hk => (hown7.lt k hk).1
                  have hown8 : w8.ownsRow wc.heap.size 28 1 v8 (t + 1) (cs.take (t * 1) ++ ([.slice S sn sc]) ++ cs.drop (t * 1)) := by
                    rw [List.drop_eq_nil_of_le (by have := hxlh.out; omega)]
                    simpa using hown8
                  obtain ⟨g8, c8, hv8, _, _, _, _⟩ := own_some hown8 (by omega)
                  subst hv8
                  have hown8 := Lib.hid hown8
                  clear hgrow8 hown7 hb7
                  go_wp2_with fail
                  have hF8 := hfin.out w8 g8 c8 (hown8.out.mono hbJs) hb8
                  exact ⟨⟨m + 1, g2, g8, c2, c8, insJ l js f, _, _, by simp, hmf, by rw [hlenh.out], by rw [hlenh.out], hjm2, hstep2, Lib.hid hF8.1, Lib.hid hF8.2.1, Lib.hid hF8.2.2.1, Lib.hid hF8.2.2.2.1, hF8.2.2.2.2⟩, by simp [intOf]; omega⟩
                · have hcI : ¬ rcap = t := fun e => hcc e.symm
                  have hIc : t ≤ rcap := (own_caps hownJ.out).1
                  have hIc' : (t : Int) ≤ rcap := by omega
                  obtain ⟨hncJ, hcmJ⟩ := own_caps hownJ.out
                  have hlowJ := own_fewer hownJ.out htn
                  have hcells : Hid (∀ j u, (cs.take (t * 1))[j]? = some u → wc.cell? ⟨gr, j, none⟩ = some u) := Lib.hid fun j u hu => by
                    have := hlowJ.cells (g := gr) rfl j u hu
                    rwa [insAdd, Nat.zero_add] at this
                  have hxl := hownJ.out.1
                  have hrest : Hid (∀ j u, (cs.drop (t * 1))[j]? = some u → wc.cell? ⟨gr, t + j, none⟩ = some u) := Lib.hid fun j u hu => by
                    have hjl := (List.getElem?_eq_some_iff.1 hu).1
                    rw [List.length_drop] at hjl
                    rw [List.getElem?_drop] at hu
                    try rw [Nat.mul_one] at hu
                    exact (hownJ.out.cellAt _ (by omega)).trans hu
                  have hgl := (hownJ.out.lt gr rfl).2
                  have hlowl := Lib.hid hlowJ.1
                  have hxlh := Lib.hid hxl
                  have hdrl : Hid ((cs.drop (t * 1)).length = 0 * 1) := Lib.hid (by rw [List.length_drop, hxl]; omega)
                  unfold maxLen at hcmJ
                  clear hlowJ hxl
                  (refine wp_region_swq (7) (3) (10) [.slice (some ⟨gr, 0, none⟩) t rcap, .int .i64 t, .slice (some ⟨gr, t, none⟩) 0 (rcap - t)] [74, 78, 80] [] (by kernel_rfl) (by kernel_rfl) (by kernel_rfl) (by kernel_rfl) (by kernel_rfl) (by kernel_rfl) (by kernel_rfl) (by kernel_rfl) (fun _ _ _ _ _ h => h) ?_ ?_; (simp only [List.drop_succ_cons, List.drop_zero, List.take_succ_cons, List.take_zero, YieldsD]); rotate_left; intro ops; (simp only [swL, reN, wtL, wtO, List.take_succ_cons, List.take_zero, List.drop_succ_cons, List.drop_zero, List.map_cons, List.map_nil, List.cons_append, List.nil_append, List.append_nil]); rotate_right)
                  · refine ⟨rfl, mute_op (.inl ⟨_, rfl⟩), fun w => ?_, rfl, mute_op (.inl ⟨_, rfl⟩), fun w => ?_, rfl, mute_op (.inr ⟨_, _, _, _, _, _, _, rfl, rfl⟩), fun w => ?_, trivial⟩
                    · go_simp
                    · go_simp
                    · go_simp
                  ((with_reducible refine wpRel_fact [] (74) (RowAt (wc.heap.size) (#[]) (28) (0)) (by kernel_rfl) rfl rfl (RowAt.steady _ _ _ _) (by first | exact rfl | go_simp) ?_ ?_); (· intro p; rw [pickR_nil]; (simp only [fillR]); go_wp2_with fail; exact row_post p.h.size rfl rfl))
                  iterate 3 (((with_reducible refine wpRel_none (by kernel_rfl) (by kernel_rfl) ?_); intro K hK; go_simp; first | (with_reducible refine hK _ ?_; clear hK K) | (apply Exists.intro; (with_reducible refine ⟨fun _ => ⟨?_, _, rfl⟩, hK _ ?_⟩); (· exact rfl); clear hK K) | (apply Exists.intro; (with_reducible refine ⟨fun _ => ?_, hK _ ?_⟩); (· (with_reducible (fail))); clear hK K)))
                  (with_reducible refine wpRel_fact [74] (78) ((OwnG wc.heap.size 28 1 t (cs.take (t * 1)))) (by kernel_rfl) rfl rfl ((OwnG.steady _ _ _ _ _)) (by first | exact rfl | go_simp) (fun p => ?_) ?_)
                  · (try simp only [pickR, pickR_nil, fillR, List.contains_cons, List.contains_nil, Nat.reduceBEq, Bool.or_false, Bool.or_true, Bool.true_or, Bool.false_or, if_true, if_false, Bool.false_eq_true])
                    rintro u ⟨b62, h62, rfl, z62⟩
                    refine wpList_append_fresh _ rfl _ _ 45 rfl 28 r0 (.slice none 0 0) 1 24 Try.underlying45 ri0 rz0 rz1 rz2 rfl (by decide) b62 rfl 28 rfl z62 wc.heap.size h62 (some ⟨gr, 0, none⟩) t rcap (cs.take (t * 1)) rfl (fun h => by cases h) hlowl.out (fun ad had j u hu => by cases had; rw [insAdd, Nat.zero_add]; exact (p.h.cell (p := ⟨gr, j, none⟩) hgl).trans (hcells.out j u hu)) (fun u hu => honesJ.out u (List.mem_of_mem_take hu)) (by unfold maxLen; omega) (by omega) ?_
                    intro v' w' hown hb
                    exact ⟨fun h => absurd h (by decide), rfl, rfl, hb, hown⟩
                  ((with_reducible refine wpRel_none (by kernel_rfl) (by kernel_rfl) ?_); intro K hK; go_simp; first | (with_reducible refine hK _ ?_; clear hK K) | (apply Exists.intro; (with_reducible refine ⟨fun _ => ⟨?_, _, rfl⟩, hK _ ?_⟩); (· exact rfl); clear hK K) | (apply Exists.intro; (with_reducible refine ⟨fun _ => ?_, hK _ ?_⟩); (· (with_reducible (fail))); clear hK K))
                  ((with_reducible refine wpRel_fact [] (80) (RowAt (wc.heap.size) (#[.slice S sn sc]) (28) (1)) (by kernel_rfl) rfl rfl (RowAt.steady _ _ _ _) (by first | exact rfl | go_simp) ?_ ?_); (· intro p; rw [pickR_nil]; (simp only [fillR]); go_wp2_with fail; exact row_post p.h.size rfl rfl))
                  iterate 3 (((with_reducible refine wpRel_none (by kernel_rfl) (by kernel_rfl) ?_); intro K hK; go_simp; first | (with_reducible refine hK _ ?_; clear hK K) | (apply Exists.intro; (with_reducible refine ⟨fun _ => ⟨?_, _, rfl⟩, hK _ ?_⟩); (· exact rfl); clear hK K) | (apply Exists.intro; (with_reducible refine ⟨fun _ => ?_, hK _ ?_⟩); (· (with_reducible (fail))); clear hK K)))
                  ((with_reducible refine wpRel_nil ?_); intro p; (simp only [fillR]))
                  rintro u76 ⟨b76, h76, rfl, z76⟩ u66 hown66 u62 ⟨b62, h62, rfl, z62⟩ -
                  have hbP : Below wc.heap.size wc p.w := p.h
                  have hbS := hbP.size
                  generalize p.w = wp at *
                  clear p z62
                  unfold OwnG at hown66
                  have z76 := Lib.hid z76
                  obtain ⟨A66, c66, hv66, _, _⟩ := own_form hown66
                  subst hv66
                  have d1 : Hid (∀ (j : Nat) (u : Value), ([.slice S sn sc])[j]? = some u → wp.cell? ((⟨b76, 0, none⟩ : Addr).add j) = some u) := Lib.hid fun j u hu => by
                    rw [insAdd, Nat.zero_add, cell_of z76.out j]
                    simpa using hu
                  have d3 : Hid (t + 1 ≤ maxLen) := Lib.hid (by unfold maxLen; omega)
                  have d4 : Hid ((t + 1) * 24 ≤ 140737488355328) := Lib.hid (by omega)
                  have hown66h := Lib.hid hown66
                  clear hown66
                  go_wp2_with (at_builtin; refine wpList_append_own _ rfl _ _ 45 rfl wc.heap.size 28 r0 (.slice none 0 0) 1 24 Try.underlying45 ri0 rz0 rz1 rz2 rfl (by decide) _ _ _ rfl hown66h.out ⟨b76, 0, none⟩ 1 1 ([.slice S sn sc]) rfl rfl d1.out (slice_one _ _ _) d3.out d4.out hbS ?_)
                  have hown66 := hown66h.out
                  clear hown66h d1 d3 d4
                  intro v7 w7 hown7 hgrow7 _
                  have hb7 : Below wc.heap.size wc w7 := hbP.grown hgrow7 hbS fun k hk => (hown66.lt k hk).1
                  have hbS7 := hb7.size
                  obtain ⟨A7, c7, hv7, _, _⟩ := own_form hown7
                  subst hv7
                  clear hown66 hgrow7 hbP z76
                  have e0 : Hid (([] : List Value).length = 0 * 1) := Lib.hid (by simp)
                  have e1 : Hid (∀ (j : Nat) (u : Value), ([] : List Value)[j]? = some u → w7.cell? ((⟨gr, t, none⟩ : Addr).add j) = some u) := Lib.hid fun j u hu => by simp at hu
                  have e2 : Hid (∀ u ∈ ([] : List Value), u.oneCell' = true) := Lib.hid fun u hu => by cases hu
                  have e3 : Hid (t + 1 + 0 ≤ maxLen) := Lib.hid (by unfold maxLen; omega)
                  have e4 : Hid ((t + 1 + 0) * 24 ≤ 140737488355328) := Lib.hid (by omega)
                  have hown7h := Lib.hid hown7
                  clear hown7
                  go_wp2_with (at_builtin; refine wpList_append_own _ rfl _ _ 45 rfl wc.heap.size 28 r0 (.slice none 0 0) 1 24 Try.underlying45 ri0 rz0 rz1 rz2 rfl (by decide) _ _ _ rfl hown7h.out ⟨gr, t, none⟩ 0 _ [] rfl e0.out e1.out e2.out e3.out e4.out hbS7 ?_)
                  have hown7 := hown7h.out
                  clear hown7h e0 e1 e2 e3 e4
                  intro v8 w8 hown8 hgrow8 _
                  have hb8 : Below wc.heap.size wc w8 := hb7.grown hgrow8 hbS7 fun k hk => (hown7.lt k hk).1
                  have hown8 : w8.ownsRow wc.heap.size 28 1 v8 (t + 1) (cs.take (t * 1) ++ ([.slice S sn sc]) ++ cs.drop (t * 1)) := by
                    rw [List.drop_eq_nil_of_le (by have := hxlh.out; omega)]
                    simpa using hown8
                  obtain ⟨g8, c8, hv8, _, _, _, _⟩ := own_some hown8 (by omega)
                  subst hv8
                  have hown8 := Lib.hid hown8
                  clear hgrow8 hown7 hb7
                  go_wp2_with fail
                  have hF8 := hfin.out w8 g8 c8 (hown8.out.mono hbJs) hb8
                  exact ⟨⟨m + 1, g2, g8, c2, c8, insJ l js f, _, _, by simp, hmf, by rw [hlenh.out], by rw [hlenh.out], hjm2, hstep2, Lib.hid hF8.1, Lib.hid hF8.2.1, Lib.hid hF8.2.2.1, Lib.hid hF8.2.2.2.1, hF8.2.2.2.2⟩, by simp [intOf]; omega⟩
    · have e : m = fs.length := by omega
      subst e
      have hmf' : ¬ (fs.length : Int) < fs.length := by omega
      have hjo : js = orderJ l l.length := by rw [hjs.out, List.take_length, hend.out]
      subst hjo
      obtain ⟨K, kc, hvK, hPK, _, _⟩ := Parts.ofRow (ys := (orderJ l l.length).map (kAt l)) (by rw [List.length_map]; exact hownK.out) (hvr.out.keep hbr)
      obtain ⟨R, rc, hvR, hPR⟩ := RowsAt.ofOwn hownR.out hrr.out (by rw [List.length_map])
      rw [List.length_map] at hvK hvR
      cases hvK
      cases hvR
      clear hownK hvr hownR hrr hp
      go_wp2_with fail
      rw [hGo.out]
      exact ⟨_, _, _, _, rfl, hPK, hPR, hbr⟩
end Go.Proofs.Ytipjelkdbbhcpaa
