
/-
  val.Map: printed by mkmap.py.
-/
import Derived.Test.YtkbacjlnfmibaaaMpP
import Derived.Test.YtkbacjlnfmibaaaVrw
import Derived.Test.YtkbacjlnfmibaaaInsVal
import Derived.Test.YtkbacjlnfmibaaaRel
import Derived.Test.YtkbacjlnfmibaaaAwk
import Derived.Test.YtkbacjlnfmibaaaWgh
set_option linter.unusedSimpArgs false
set_option linter.unusedVariables false
namespace Go.Proofs.Ytkbacjlnfmibaaa
open Go.RowKit Go.Deep

def pairAt (l : List Val) (p : Nat) : Val × Val := (l.getD (2 * p) default, l.getD (2 * p + 1) default)
theorem pairAt_eq {l : List Val} {i p : Nat} {k v : Val} (hi : i = 2 * p) (hk : l[i]? = some k) (hv : l[i + 1]? = some v) : pairAt l p = (k, v) := by
  subst hi
  unfold pairAt
  rw [List.getD_eq_getElem?_getD, List.getD_eq_getElem?_getD, hk, hv]
  rfl
abbrev zero6 : Array Value := #[.int .i64 0, .bool false, .int .i64 0, .float .f64 0, .string (st []), .slice none 0 0]
abbrev map6 (v : Value) : Array Value := #[.int .i64 6, .bool false, .int .i64 0, .float .f64 0, .string (st []), v]
/-- the map between two rounds: its variable, its row -/
inductive MapSt (w0 wr : World) (ps : List (Val × Val)) : Prop
  | mk (v : Value) (n : Nat) (xs : List Value) (row : wr.ownsRow (w0.heap.size + 2) 25 6 v n xs) (vr : VRow w0 (flatP ps) xs) (blk : wr.heap[w0.heap.size + 1]? = some (.cells (map6 v) 25)) (res : wr.heap[w0.heap.size]? = some (.cells zero6 25))
def MapEnds (ps : List (Val × Val)) (w : World) (e : Ending) (w' : World) : Prop := ∃ u, e = .returned u ∧ Has w' u (.mk 6 false 0 0 [] (flatP ps)) ∧ Below w.heap.size w w'
theorem set6_at5 {w : World} {b : Nat} {x0 x1 x2 x3 x4 x5 u : Value} {T : TypeId} (h : w.heap[b]? = some (.cells #[x0, x1, x2, x3, x4, x5] T)) : (w.setCell ⟨b, 5, none⟩ u).heap[b]? = some (.cells #[x0, x1, x2, x3, x4, u] T) := by
  obtain ⟨hb, h⟩ := Array.getElem?_eq_some_iff.1 h
  simp [World.setCell, hb, h, Array.modify, Array.modifyM]
theorem set6_all {w : World} {b : Nat} {x0 x1 x2 x3 x4 x5 u0 u1 u2 u3 u4 u5 : Value} {T : TypeId} (h : w.heap[b]? = some (.cells #[x0, x1, x2, x3, x4, x5] T)) :
    ((((((w.setCell ⟨b, 0, none⟩ u0).setCell ⟨b, 1, none⟩ u1).setCell ⟨b, 2, none⟩ u2).setCell ⟨b, 3, none⟩ u3).setCell ⟨b, 4, none⟩ u4).setCell ⟨b, 5, none⟩ u5).heap[b]? = some (.cells #[u0, u1, u2, u3, u4, u5] T) := by
  obtain ⟨hb, h⟩ := Array.getElem?_eq_some_iff.1 h
  simp [World.setCell, hb, h, Array.modify, Array.modifyM]
theorem own_aside {w : World} {base g j : Nat} {e : TypeId} {size : Nat} {v u : Value} {n : Nat} {xs : List Value} (h : w.ownsRow base e size v n xs) (hg : g < base) : (w.setCell ⟨g, j, none⟩ u).ownsRow base e size v n xs := by
  refine ⟨h.1, ?_⟩
  rcases h.2 with h | ⟨gb, cap, cur, hv, hbg, hc, hr⟩
  · exact .inl h
  · exact .inr ⟨gb, cap, cur, hv, hbg, (Below.heap_setCell _ _ _ _ (by show gb ≠ g; omega)).trans hc, hr⟩
theorem frozen_at {w w' : World} {b : Nat} (h : w'.heap[b]? = w.heap[b]?) (hf : ∀ j, w.frozen? ⟨b, j, none⟩ = false) : ∀ j, w'.frozen? ⟨b, j, none⟩ = false := fun j => by
  rw [← hf j]
  simp only [World.frozen?, h]
set_option maxRecDepth 8000 in
set_option maxHeartbeats 8000000 in
theorem map_c (A0 : Option Addr) (cap0 : Nat) (l : List Val) (w : World) (hp : Parts w A0 l) (hl : l.length ≤ 100) : Calls Try.prog 38 #[.slice A0 l.length cap0] w (MapEnds (mapQ (pairAt l) (l.length / 2)) w) := by
  obtain ⟨GOAL, hG⟩ : ∃ G, G = MapEnds (mapQ (pairAt l) (l.length / 2)) w := ⟨_, rfl⟩
  rw [← hG]
  have hGo := Lib.hid hG
  clear hG
  go_enter Try.func38, Try.ntmps38
  go_upto_region 2 with fail
  obtain ⟨w2, hw2⟩ : ∃ w2, w2 = (w.alloc (.cells #[.int .i64 0, .bool false, .int .i64 0, .float .f64 0, .string ⟨#[]⟩, .slice none 0 0] 25)).alloc (.cells #[.int .i64 6, .bool false, .int .i64 0, .float .f64 0, .string ⟨#[]⟩, .slice none 0 0] 25) := ⟨_, rfl⟩
  have s2 : w2.heap.size = w.heap.size + 2 := by rw [hw2]; simp
  have b2 : Below w.heap.size w w2 := hw2 ▸ (below_alloc w _).alloc (by simp) _
  have z1 : w2.heap[w.heap.size]? = some (.cells zero6 25) := hw2 ▸ alloc_past _ (alloc_here w _)
  have z2 : w2.heap[w.heap.size + 1]? = some (.cells (map6 (.slice none 0 0)) 25) := by
    have h := alloc_here (w.alloc (.cells zero6 25)) (.cells (map6 (.slice none 0 0)) 25)
    rw [alloc_grows w _ rfl] at h
    rw [hw2]
    exact h
  rw [← hw2]
  have hst : MapSt w w2 (mapQ (pairAt l) 0) := ⟨.slice none 0 0, 0, [], World.ownsRow_nil _ _ _ _, VRow.nil w, z2, z1⟩
  clear hw2 z1 z2
  have hlP : ∀ (i : Nat) (x : Val), l[i]? = some x → i < l.length := fun i x h => (List.getElem?_eq_some_iff.1 h).1
  go_wp2_with fail
  go_loopw [4] (fun a4 wr => ∃ i : Nat, a4 = .int .i64 i ∧ i ≤ l.length ∧ Hid (∃ p0, i = 2 * p0 ∧ MapSt w wr (mapQ (pairAt l) p0)) ∧ Below w.heap.size w wr ∧ w.heap.size + 2 ≤ wr.heap.size) (fun a _ => l.length - (intOf a).toNat)
  case atStart => exact ⟨0, rfl, Nat.zero_le _, ⟨0, rfl, hst⟩, b2, by omega⟩
  case round =>
    clear hst b2 s2
    obtain ⟨i, rfl, hi, hst, hbr, hszr⟩ := hrel
    have w1 : IntKind.i64.wrap ((i : Int) + 1) = (i : Int) + 1 := by rw [wrap_i64]; omega
    by_cases hil : i + 1 < l.length
    · have hil' : (i : Int) + 1 < l.length := by omega
      have hil0 : i < l.length := by omega
      have hil1 : (i : Int) < l.length := by omega
      have hil2 : (0 : Int) ≤ (i : Int) + 1 := by omega
      obtain ⟨p0, hip, hst⟩ := hst.out
      obtain ⟨v, n, xs, hown, hvr, hblk, hres⟩ := hst
      have hpl := mapQ_len (pairAt l) p0
      obtain ⟨ps, hps⟩ : ∃ ps, ps = mapQ (pairAt l) p0 := ⟨_, rfl⟩
      rw [← hps] at hvr hpl
      have hnl : n = 2 * ps.length := by have h1 := hown.1; have h2 := hvr.1; rw [flatP_len] at h2; omega
      have hik : l[i]? = some l[i] := by simp
      have hiv : l[i + 1]? = some l[i + 1] := by simp
      have hpa := pairAt_eq hip hik hiv
      have hmap : mapQ (pairAt l) (p0 + 1) = insQ ps l[i] l[i + 1] := by rw [mapQ, hpa, hps]
      obtain ⟨ad, kk, kb, kn, kf, ks, kB, klen, kc, rfl, hkx, hkat⟩ := hp i _ hik
      obtain ⟨ad', vk, vb, vn, vf, vs, vB, vlen, vc, had, hvx, hvat⟩ := hp (i + 1) _ hiv
      cases had
      generalize l[i] = key at *
      generalize l[i + 1] = val at *
      have hkL := hkat.lt
      have hvL := hvat.lt
      have hkeyO := hkat.keep hbr
      have hvalO := hvat.keep hbr
      have hkxO := hkx.keep hbr
      clear hp hkat hvat hik hiv hpa hlP
      have hn200 : n ≤ 200 := by omega
      have hE := Lib.hid hnl
      have hip' := Lib.hid hip
      clear hnl hip
      go_wp2_with fail
      go_loopw [5] (fun a5 wI => ∃ IT : Nat, a5 = .int .i64 IT ∧ IT ≤ n ∧ Hid (∃ q, IT = 2 * q ∧ q ≤ ps.length ∧ ∀ (t : Nat) (x : Val × Val), t < q → ps[t]? = some x → cmpV x.1 key < 0) ∧ Below wr.heap.size wr wI) (fun a _ => n - (intOf a).toNat)
      case atStart => exact ⟨0, rfl, Nat.zero_le _, ⟨0, rfl, Nat.zero_le _, fun t x h => absurd h (Nat.not_lt_zero _)⟩, Below.refl _ _⟩
      case round =>
        obtain ⟨IT, rfl, hIT, hq, hbI⟩ := hrel
        obtain ⟨q, hITq, hqp, hlow⟩ := hq.out
        have hownI := own_stays hown hbI
        have hblkI := (hbI.block _ (Array.getElem?_eq_some_iff.1 hblk).1).trans hblk
        have hresI := (hbI.block _ (Array.getElem?_eq_some_iff.1 hres).1).trans hres
        have hbwI : Below w.heap.size w wr := hbr.trans (hbI.mono hbr.size)
        obtain ⟨A, cap, hvA, hP, hnc, hcm⟩ := Parts.ofRow (ys := flatP ps) (by rw [flatP_len, ← hE.out]; exact hownI) (hvr.keep hbwI)
        rw [flatP_len, ← hE.out] at hvA hnc
        subst hvA
        have g5 : wr.cell? ⟨w.heap.size + 1, 5, none⟩ = some (.slice A n cap) := cell_of hblkI 5
        have gl : w.heap.size + 1 < wr.heap.size := (Array.getElem?_eq_some_iff.1 hblkI).1
        obtain ⟨y6, y0, y1, y2, y3, y4, y5⟩ := hkeyO.keep hbI
        obtain ⟨z6, z0, z1, z2, z3, z4, z5⟩ := hvalO.keep hbI
        have hkxI := hkxO.keep hbI
        by_cases hITn : IT < n
        · have hITn' : (IT : Int) < n := by omega
          have hqlt : q < ps.length := by have := hE.out; omega
          obtain ⟨pq, hgq⟩ : ∃ pq, ps[q]? = some pq := ⟨ps[q], by simp⟩
          obtain ⟨adA, ak, ab, an, aF, aS, aB, alen, ac, rfl, hax, haat⟩ := hP IT _ (by rw [hITq]; exact (flatP_get hgq).1)
          obtain ⟨x6, x0, x1, x2, x3, x4, x5⟩ := haat
          have cc : ∀ p : In wr, Calls Try.prog 19 #[valV ak ab an aF aS aB alen ac, valV kk kb kn kf ks kB klen kc] p.w fun e w' => e = .returned (.int .i64 (cmpV pq.1 key)) ∧ Below p.w.heap.size p.w w' := fun p => cmpv_c _ _ _ _ p.w (hax.keep p.h) (hkxI.keep p.h)
          obtain ⟨C, hC⟩ : ∃ C, cmpV pq.1 key = C := ⟨_, rfl⟩
          rw [hC] at cc
          have hCh := Lib.hid hC
          clear hC
          by_cases hneg : C < 0
          · have hst2 : Hid (∃ q', IT + 2 = 2 * q' ∧ q' ≤ ps.length ∧ ∀ (t : Nat) (x : Val × Val), t < q' → ps[t]? = some x → cmpV x.1 key < 0) := Lib.hid ⟨q + 1, by omega, hqlt, fun t x ht hx => by
              by_cases e : t = q
              · subst e
                rw [hgq] at hx
                cases hx
                rw [hCh.out]
                exact hneg
              · exact hlow t x (by omega) hx⟩
            have hIT2 : IT + 2 ≤ n := by have := hE.out; omega
            have w3 : IntKind.i64.wrap ((IT : Int) + 2) = (IT : Int) + 2 := by rw [wrap_i64]; omega
            clear hITq hqlt hlow hq hgq hax hP hownI hblkI hresI
            go_upto_region 6 with fail
            (refine wp_region_flow [] (by kernel_rfl) (by kernel_rfl) ?_; (repeat (((with_reducible refine wpFlow_steps ?_); intro K hK; go_simp; first | (with_reducible refine hK _ ?_; clear hK K) | (apply Exists.intro; (with_reducible refine ⟨fun _ => ⟨?_, _, rfl⟩, hK _ ?_⟩); (· exact rfl); clear hK K) | (apply Exists.intro; (with_reducible refine ⟨fun _ => ⟨_, rfl⟩, hK _ ?_⟩); clear hK K) | (apply Exists.intro; (with_reducible refine ⟨fun _ => ?_, hK _ ?_⟩); (· (with_reducible (first | exact cc _))); clear hK K)))); (refine wpFlow_nil ?_; rintro w1 ⟨q0, hq0⟩; have hb := In.h q0; rw [← hq0] at hb; clear hq0 q0; (first | ((with_reducible obtain ⟨p, hw''⟩ := In.of2 p hb); subst hw'') | (obtain ⟨p, hw''⟩ := In.of hb; subst hw'')); go_simp; intros))
            have hb5 := hbI.trans (p.h.mono hbI.size)
            clear cc hkxI
            go_wp2_with fail
            exact ⟨⟨IT + 2, by simp, hIT2, hst2, hb5⟩, by simp [intOf]; omega⟩
          · have hITp : IT + 1 < n := by have := hE.out; omega
            obtain ⟨adA', ok, ob, on, oF, oS, oB, olen, oc, had2, hox, hoat⟩ := hP (IT + 1) _ (by rw [hITq]; exact (flatP_get hgq).2)
            cases had2
            obtain ⟨gA, capA, hAv, hgA1, hgA2, _, _⟩ := own_some hownI (by omega)
            simp only [Value.slice.injEq, Option.some.injEq] at hAv
            obtain ⟨hAv, -, -⟩ := hAv
            have hAvh := Lib.hid hAv
            clear hAv
            have hITh := Lib.hid hITq
            have hlowh := Lib.hid hlow
            have hgqh := Lib.hid hgq
            clear hITq hlow hq hgq hP
            go_upto_region 6 with fail
            (refine wp_region_flow [] (by kernel_rfl) (by kernel_rfl) ?_; (repeat (((with_reducible refine wpFlow_steps ?_); intro K hK; go_simp; first | (with_reducible refine hK _ ?_; clear hK K) | (apply Exists.intro; (with_reducible refine ⟨fun _ => ⟨?_, _, rfl⟩, hK _ ?_⟩); (· exact rfl); clear hK K) | (apply Exists.intro; (with_reducible refine ⟨fun _ => ⟨_, rfl⟩, hK _ ?_⟩); clear hK K) | (apply Exists.intro; (with_reducible refine ⟨fun _ => ?_, hK _ ?_⟩); (· (with_reducible (first | exact cc _))); clear hK K)))); (refine wpFlow_nil ?_; rintro w1 ⟨q0, hq0⟩; have hb := In.h q0; rw [← hq0] at hb; clear hq0 q0; (first | ((with_reducible obtain ⟨p, hw''⟩ := In.of2 p hb); subst hw'') | (obtain ⟨p, hw''⟩ := In.of hb; subst hw'')); go_simp; intros))
            have cc2 : ∀ p2 : In p.w, Calls Try.prog 19 #[valV ak ab an aF aS aB alen ac, valV kk kb kn kf ks kB klen kc] p2.w fun e w' => e = .returned (.int .i64 C) ∧ Below p2.w.heap.size p2.w w' := fun p2 => by
              rw [← hCh.out]
              exact cmpv_c _ _ _ _ p2.w ((hax.keep p.h).keep p2.h) ((hkxI.keep p.h).keep p2.h)
            by_cases hz : C = 0
            · have hzr : (C == 0) = true := by simp [hz]
              have hzh := Lib.hid hz
              clear hz
              go_upto_region 8 with fail
              skip
              (refine wp_region_flow [] (by kernel_rfl) (by kernel_rfl) ?_; (repeat (((with_reducible refine wpFlow_steps ?_); intro K hK; go_simp; first | (with_reducible refine hK _ ?_; clear hK K) | (apply Exists.intro; (with_reducible refine ⟨fun _ => ⟨?_, _, rfl⟩, hK _ ?_⟩); (· exact rfl); clear hK K) | (apply Exists.intro; (with_reducible refine ⟨fun _ => ⟨_, rfl⟩, hK _ ?_⟩); clear hK K) | (apply Exists.intro; (with_reducible refine ⟨fun _ => ?_, hK _ ?_⟩); (· (with_reducible (first | exact cc2 _))); clear hK K)))); (refine wpFlow_nil ?_; rintro w1 ⟨q0, hq0⟩; have hb := In.h q0; rw [← hq0] at hb; clear hq0 q0; (first | ((with_reducible obtain ⟨p, hw''⟩ := In.of2 p hb); subst hw'') | (obtain ⟨p, hw''⟩ := In.of hb; subst hw'')); go_simp; intros))
              have hbJ : Below wr.heap.size wr p.w := p.h
              have hownJ := own_stays hownI hbJ
              have hblkJ := (hbJ.block _ (Array.getElem?_eq_some_iff.1 hblkI).1).trans hblkI
              have hresJ := (hbJ.block _ (Array.getElem?_eq_some_iff.1 hresI).1).trans hresI
              have hbwJ : Below w.heap.size w p.w := hbwI.trans (hbJ.mono hbwI.size)
              have hvalJ := (hvalO.keep hbI).keep hbJ
              have hoJ := hoat.keep hbJ
              have hgAh := hAvh.out
              subst hgAh
              rw [show ((⟨gA, 0, none⟩ : Addr)).add ((IT + 1) * 6) = ⟨gA, (IT + 1) * 6, none⟩ by simp [Addr.add]] at hoJ
              generalize p.w = wJ at *
              clear cc cc2 y6 y0 y1 y2 y3 y4 y5 z6 z0 z1 z2 z3 z4 z5 x6 x0 x1 x2 x3 x4 x5 g5 gl hkxI hax hox hoat
              obtain ⟨z6, z0, z1, z2, z3, z4, z5⟩ := hvalJ
              obtain ⟨y6, y0, y1, y2, y3, y4, y5⟩ := hoJ
              have fz : ∀ j, wJ.frozen? ⟨gA, j, none⟩ = false := fun j => own_unfrozen hownJ j
              have g5 : wJ.cell? ⟨w.heap.size + 1, 5, none⟩ = some (.slice (some ⟨gA, 0, none⟩) n cap) := cell_of hblkJ 5
              have gl : w.heap.size + 1 < wJ.heap.size := (Array.getElem?_eq_some_iff.1 hblkJ).1
              have w3 : IntKind.i64.wrap ((i : Int) + 2) = (i : Int) + 2 := by rw [wrap_i64]; omega
              have w4 : IntKind.i64.wrap ((IT : Int) + 1) = (IT : Int) + 1 := by rw [wrap_i64]; omega
              have hITp' : (IT : Int) + 1 < n := by omega
              have hITp2 : (0 : Int) ≤ (IT : Int) + 1 := by omega
              have hF : Hid (∀ p : In wJ, (∃ p1, i + 2 = 2 * p1 ∧ MapSt w (p.w.setCells gA ((IT + 1) * 6) (valC vk vb vn vf vs vB vlen vc)) (mapQ (pairAt l) p1)) ∧ Below w.heap.size w (p.w.setCells gA ((IT + 1) * 6) (valC vk vb vn vf vs vB vlen vc)) ∧ w.heap.size + 2 ≤ (p.w.setCells gA ((IT + 1) * 6) (valC vk vb vn vf vs vB vlen vc)).heap.size) := Lib.hid fun p => by
                have hownP := own_stays hownJ p.h
                have hbS := hbwJ.size
                have hblkP := (p.h.block _ gl).trans hblkJ
                have hresP := (p.h.block _ (by omega)).trans hresJ
                have hbwP := hbwJ.trans (p.h.mono hbwJ.size)
                have hpS := p.h.size
                have hxl := hownP.1
                obtain ⟨ow, gw⟩ := own_puts (valC vk vb vn vf vs vB vlen vc) ((IT + 1) * 6) hownP (by rw [hxl]; show _ + 6 ≤ _; omega)
                have hmap2 : mapQ (pairAt l) (p0 + 1) = ps.set q (pq.1, val) := by
                  rw [hmap]
                  exact insQ_old hgqh.out hlowh.out (by rw [hCh.out]; exact hzh.out)
                have hvr2 := hvr.put (i := IT + 1) (by rw [flatP_len]; have h1 := hE.out; omega) hvx
                rw [show IT + 1 = 2 * q + 1 by rw [hITh.out], flatP_set val hgqh.out, ← hITh.out] at hvr2
                have hbz := gw.size
                refine ⟨⟨p0 + 1, by have := hip'.out; omega, _, n, _, ow, by rw [hmap2]; exact hvr2, ?_, ?_⟩, hbwP.grown gw hbwP.size fun k hk => by cases hk; omega, by omega⟩
                · exact (gw.block _ (by omega) (by simp; omega)).trans hblkP
                · exact (gw.block _ (by omega) (by simp; omega)).trans hresP
              have hrh := Lib.hid hvr
              clear hownJ hblkJ hresJ hbwJ hbJ hownI hblkI hresI hown hblk hres hmap hps hvr hkeyO hvalO hkxO hbI hbr
              go_upto_region 9 with fail
              (refine wp_region_rel_at (10) [] [] (by kernel_rfl) (by kernel_rfl) (by kernel_rfl) ?_; (simp only [List.take_succ_cons, List.take_zero, List.drop_succ_cons, List.drop_zero]))
              iterate 10 (((with_reducible refine wpRel_none (by kernel_rfl) (by kernel_rfl) ?_); intro K hK; go_simp; first | (with_reducible refine hK _ ?_; clear hK K) | (apply Exists.intro; (with_reducible refine ⟨fun _ => ⟨?_, _, rfl⟩, hK _ ?_⟩); (· exact rfl); clear hK K) | (apply Exists.intro; (with_reducible refine ⟨fun _ => ?_, hK _ ?_⟩); (· (with_reducible (fail))); clear hK K)))
              ((with_reducible refine wpRel_nil ?_); intro p; (simp only [fillR]))
              intro _
              go_simp
              go_wp2_with fail
              exact ⟨⟨i + 2, by simp, by omega, (hF.out p).1, (hF.out p).2.1, (hF.out p).2.2⟩, by simp [intOf]; omega⟩
            · have hzr : (C == 0) = false := by simp [hz]
              go_upto_region 8 with fail
              skip
              (refine wp_region_flow [] (by kernel_rfl) (by kernel_rfl) ?_; (repeat (((with_reducible refine wpFlow_steps ?_); intro K hK; go_simp; first | (with_reducible refine hK _ ?_; clear hK K) | (apply Exists.intro; (with_reducible refine ⟨fun _ => ⟨?_, _, rfl⟩, hK _ ?_⟩); (· exact rfl); clear hK K) | (apply Exists.intro; (with_reducible refine ⟨fun _ => ⟨_, rfl⟩, hK _ ?_⟩); clear hK K) | (apply Exists.intro; (with_reducible refine ⟨fun _ => ?_, hK _ ?_⟩); (· (with_reducible (first | exact cc2 _))); clear hK K)))); (refine wpFlow_nil ?_; rintro w1 ⟨q0, hq0⟩; have hb := In.h q0; rw [← hq0] at hb; clear hq0 q0; (first | ((with_reducible obtain ⟨p, hw''⟩ := In.of2 p hb); subst hw'') | (obtain ⟨p, hw''⟩ := In.of hb; subst hw'')); go_simp; intros))
              have hMAP : mapQ (pairAt l) (p0 + 1) = ps.take q ++ (key, val) :: ps.drop q := by
                rw [hmap]
                exact insQ_new hgqh.out hlowh.out (by rw [hCh.out]; exact hneg) (by rw [hCh.out]; exact hz)
              clear cc cc2 x6 x0 x1 x2 x3 x4 x5
              have hbJ : Below wr.heap.size wr p.w := p.h
              have hownJ := own_stays hownI hbJ
              have hblkJ := (hbJ.block _ (Array.getElem?_eq_some_iff.1 hblkI).1).trans hblkI
              have hresJ := (hbJ.block _ (Array.getElem?_eq_some_iff.1 hresI).1).trans hresI
              have hbwJ : Below w.heap.size w p.w := hbwI.trans (hbJ.mono hbwI.size)
              have hkeyJ := (hkeyO.keep hbI).keep hbJ
              have hvalJ := (hvalO.keep hbI).keep hbJ
              generalize p.w = wJ at *
              clear y6 y0 y1 y2 y3 y4 y5 z6 z0 z1 z2 z3 z4 z5 g5 gl hkxI
              obtain ⟨y6, y0, y1, y2, y3, y4, y5⟩ := hkeyJ
              obtain ⟨z6, z0, z1, z2, z3, z4, z5⟩ := hvalJ
              have g5 : wJ.cell? ⟨w.heap.size + 1, 5, none⟩ = some (.slice (some adA) n cap) := cell_of hblkJ 5
              have gl : w.heap.size + 1 < wJ.heap.size := (Array.getElem?_eq_some_iff.1 hblkJ).1
              have hVR : VRow w (flatP (ps.take q ++ (key, val) :: ps.drop q)) (xs.take (IT * 6) ++ (valC kk kb kn kf ks kB klen kc ++ valC vk vb vn vf vs vB vlen vc) ++ xs.drop (IT * 6)) := by
                have hle : IT ≤ (flatP ps).length := by rw [flatP_len, hITh.out]; omega
                have h := hvr.insert ((VRow.single hkx).snoc hvx) IT hle
                rw [hITh.out, flatP_take ps q hqp, flatP_drop ps q hqp, ← hITh.out] at h
                have e : flatP (ps.take q) ++ ([key] ++ [val]) ++ flatP (ps.drop q) = flatP (ps.take q ++ (key, val) :: ps.drop q) := by rw [flatP_append, List.append_assoc]; rfl
                rw [← e]
                exact h
              have hownh := Lib.hid hownJ
              have hblkh := Lib.hid hblkJ
              have hresh := Lib.hid hresJ
              have hVRh := Lib.hid hVR
              have hMAPh := Lib.hid hMAP
              have hvrh := Lib.hid hvr
              clear hownJ hblkJ hresJ hVR hMAP hownI hblkI hresI hown hblk hres hmap hps hvr hkeyO hvalO hkxO hbI hbr hbJ
              go_upto_region 10 with fail
              (refine wp_region_rel_at (13) [74] [74] (by kernel_rfl) (by kernel_rfl) (by kernel_rfl) ?_; (simp only [List.take_succ_cons, List.take_zero, List.drop_succ_cons, List.drop_zero]))
              iterate 12 (((with_reducible refine wpRel_none (by kernel_rfl) (by kernel_rfl) ?_); intro K hK; go_simp; first | (with_reducible refine hK _ ?_; clear hK K) | (apply Exists.intro; (with_reducible refine ⟨fun _ => ⟨?_, _, rfl⟩, hK _ ?_⟩); (· exact rfl); clear hK K) | (apply Exists.intro; (with_reducible refine ⟨fun _ => ?_, hK _ ?_⟩); (· (with_reducible (fail))); clear hK K)))
              ((with_reducible refine wpRel_fact [] (74) (RowAt (wJ.heap.size) (#[.int .i64 kk, .bool kb, .int .i64 kn, .float .f64 kf, .string (st ks), .slice kB klen kc, .int .i64 vk, .bool vb, .int .i64 vn, .float .f64 vf, .string (st vs), .slice vB vlen vc]) (25) (2)) (by kernel_rfl) rfl rfl (RowAt.steady _ _ _ _) (by first | exact rfl | go_simp) ?_ ?_); (· intro p; rw [pickR_nil]; (simp only [fillR]); go_wp2_with fail; exact row_post p.h.size rfl rfl))
              ((with_reducible refine wpRel_nil ?_); intro p; (simp only [fillR]))
              rintro u74 ⟨b74, h74, rfl, z74⟩ -
              have ho1 := own_stays hownh.out p.h
              have hb1' := (p.h.block _ (Array.getElem?_eq_some_iff.1 hblkh.out).1).trans hblkh.out
              have hr1 := (p.h.block _ (Array.getElem?_eq_some_iff.1 hresh.out).1).trans hresh.out
              have hbP : Below w.heap.size w p.w := hbwJ.trans (p.h.mono hbwJ.size)
              have hpz : wJ.heap.size ≤ p.w.heap.size := p.h.size
              have hbS := hbwJ.size
              have hownlt := hownh.out.lt
              generalize p.w = wp at *
              have ci := insertVal_c (w.heap.size + 2) _ n IT 2 b74 25 xs (valC kk kb kn kf ks kB klen kc ++ valC vk vb vn vf vs vB vlen vc) wp ho1 (by omega) hIT (by omega) (by omega) (by omega) rfl (fun e => by have := (hownlt b74 e).2; omega) z74 (fun u hu => by rcases List.mem_append.1 hu with h | h <;> exact valC_one _ _ _ _ _ _ _ _ u h) hvrh.out.one
              have cg5 : wp.cell? ⟨w.heap.size + 1, 5, none⟩ = some (.slice (some adA) n cap) := cell_of hb1' 5
              have hfz : ∀ j, wp.frozen? ⟨w.heap.size + 1, j, none⟩ = false := fun j => frozen_of hb1' j
              have hblkL := (Array.getElem?_eq_some_iff.1 hb1').1
              have hresL := (Array.getElem?_eq_some_iff.1 hr1).1
              have hown1b : ∀ b, b < w.heap.size + 2 → some b ≠ (Value.slice (some adA) n cap).ownBlock := fun b hb e => own_block ho1 hb e.symm
              have hF : Hid (∀ (v' : Value) (wx : World), wx.ownsRow (w.heap.size + 2) 25 6 v' (n + 2) (xs.take (IT * 6) ++ (valC kk kb kn kf ks kB klen kc ++ valC vk vb vn vf vs vB vlen vc) ++ xs.drop (IT * 6)) → wp.grownBy wx (Value.slice (some adA) n cap).ownBlock → (∃ p1, i + 2 = 2 * p1 ∧ MapSt w (wx.setCell ⟨w.heap.size + 1, 5, none⟩ v') (mapQ (pairAt l) p1)) ∧ Below w.heap.size w (wx.setCell ⟨w.heap.size + 1, 5, none⟩ v') ∧ w.heap.size + 2 ≤ (wx.setCell ⟨w.heap.size + 1, 5, none⟩ v').heap.size) := Lib.hid fun v' wx ho hg => by
                have hsz := hg.size
                refine ⟨⟨p0 + 1, by have := hip'.out; omega, v', n + 2, _, own_aside ho (by omega), by rw [hMAPh.out]; exact hVRh.out, ?_, ?_⟩, ((hbP.trans (grown_below hg ho1 (by omega) (by omega))).setCell (p := ⟨w.heap.size + 1, 5, none⟩) (Nat.le_succ _) _), by simp [World.setCell]; omega⟩
                · exact set6_at5 ((hg.block _ hblkL (hown1b _ (by omega))).trans hb1')
                · rw [Below.heap_setCell _ _ _ _ (Nat.ne_of_lt (Nat.lt_succ_self _))]
                  exact (hg.block _ hresL (hown1b _ (by omega))).trans hr1
              have hnb := Lib.hid (hown1b (w.heap.size + 1) (by omega))
              have w3 : IntKind.i64.wrap ((i : Int) + 2) = (i : Int) + 2 := by rw [wrap_i64]; omega
              clear ho1 hb1' hr1 hbP hownlt hown1b z74 h74
              go_wp2_with ((with_reducible refine ci.mono ?_); rintro e w6 ⟨v', rfl, hown6, hgrow6⟩; obtain ⟨A6, cap6, hv6, _, _⟩ := own_form hown6; subst hv6; have hblk6 := hgrow6.block (w.heap.size + 1) hblkL hnb.out; have c6 : w6.cell? ⟨w.heap.size + 1, 5, none⟩ = some (.slice (some adA) n cap) := ((by simp only [World.cell?, hblk6] : w6.cell? ⟨w.heap.size + 1, 5, none⟩ = wp.cell? ⟨w.heap.size + 1, 5, none⟩).trans cg5); have l6 : w.heap.size + 1 < w6.heap.size := Nat.lt_of_lt_of_le hblkL hgrow6.size; have q6 := frozen_at hblk6 hfz; have hF6 := Lib.hid (hF.out _ w6 hown6 hgrow6); clear hF hown6 hgrow6 hblk6)
              exact ⟨⟨i + 2, by simp, by omega, hF6.out.1, hF6.out.2.1, hF6.out.2.2⟩, by simp [intOf]; omega⟩
        · have hITn' : ¬ (IT : Int) < n := by omega
          have hITh := Lib.hid hITq
          have hlowh := Lib.hid hlow
          clear hITq hlow hq hP
          go_upto_region 6 with fail
          (refine wp_region_flow [] (by kernel_rfl) (by kernel_rfl) ?_; (repeat (((with_reducible refine wpFlow_steps ?_); intro K hK; go_simp; first | (with_reducible refine hK _ ?_; clear hK K) | (apply Exists.intro; (with_reducible refine ⟨fun _ => ⟨?_, _, rfl⟩, hK _ ?_⟩); (· exact rfl); clear hK K) | (apply Exists.intro; (with_reducible refine ⟨fun _ => ⟨_, rfl⟩, hK _ ?_⟩); clear hK K) | (apply Exists.intro; (with_reducible refine ⟨fun _ => ?_, hK _ ?_⟩); (· (with_reducible (fail))); clear hK K)))); (refine wpFlow_nil ?_; rintro w1 ⟨q0, hq0⟩; have hb := In.h q0; rw [← hq0] at hb; clear hq0 q0; (first | ((with_reducible obtain ⟨p, hw''⟩ := In.of2 p hb); subst hw'') | (obtain ⟨p, hw''⟩ := In.of hb; subst hw'')); go_simp; intros))
          skip
          go_upto_region 8 with fail
          (refine wp_region_flow [] (by kernel_rfl) (by kernel_rfl) ?_; (repeat (((with_reducible refine wpFlow_steps ?_); intro K hK; go_simp; first | (with_reducible refine hK _ ?_; clear hK K) | (apply Exists.intro; (with_reducible refine ⟨fun _ => ⟨?_, _, rfl⟩, hK _ ?_⟩); (· exact rfl); clear hK K) | (apply Exists.intro; (with_reducible refine ⟨fun _ => ⟨_, rfl⟩, hK _ ?_⟩); clear hK K) | (apply Exists.intro; (with_reducible refine ⟨fun _ => ?_, hK _ ?_⟩); (· (with_reducible (fail))); clear hK K)))); (refine wpFlow_nil ?_; rintro w1 ⟨q0, hq0⟩; have hb := In.h q0; rw [← hq0] at hb; clear hq0 q0; (first | ((with_reducible obtain ⟨p, hw''⟩ := In.of2 p hb); subst hw'') | (obtain ⟨p, hw''⟩ := In.of hb; subst hw'')); go_simp; intros))
          have hMAP : mapQ (pairAt l) (p0 + 1) = ps.take q ++ (key, val) :: ps.drop q := by
            have e : q = ps.length := by have h1 := hE.out; have h2 := hITh.out; omega
            rw [hmap, insQ_end fun t x ht hx => hlowh.out t x (by omega) hx, e, List.take_length, List.drop_length]
          have hbJ : Below wr.heap.size wr p.w := p.h
          have hownJ := own_stays hownI hbJ
          have hblkJ := (hbJ.block _ (Array.getElem?_eq_some_iff.1 hblkI).1).trans hblkI
          have hresJ := (hbJ.block _ (Array.getElem?_eq_some_iff.1 hresI).1).trans hresI
          have hbwJ : Below w.heap.size w p.w := hbwI.trans (hbJ.mono hbwI.size)
          have hkeyJ := (hkeyO.keep hbI).keep hbJ
          have hvalJ := (hvalO.keep hbI).keep hbJ
          generalize p.w = wJ at *
          clear y6 y0 y1 y2 y3 y4 y5 z6 z0 z1 z2 z3 z4 z5 g5 gl hkxI
          obtain ⟨y6, y0, y1, y2, y3, y4, y5⟩ := hkeyJ
          obtain ⟨z6, z0, z1, z2, z3, z4, z5⟩ := hvalJ
          have g5 : wJ.cell? ⟨w.heap.size + 1, 5, none⟩ = some (.slice A n cap) := cell_of hblkJ 5
          have gl : w.heap.size + 1 < wJ.heap.size := (Array.getElem?_eq_some_iff.1 hblkJ).1
          have hVR : VRow w (flatP (ps.take q ++ (key, val) :: ps.drop q)) (xs.take (IT * 6) ++ (valC kk kb kn kf ks kB klen kc ++ valC vk vb vn vf vs vB vlen vc) ++ xs.drop (IT * 6)) := by
            have hle : IT ≤ (flatP ps).length := by rw [flatP_len, hITh.out]; omega
            have h := hvr.insert ((VRow.single hkx).snoc hvx) IT hle
            rw [hITh.out, flatP_take ps q hqp, flatP_drop ps q hqp, ← hITh.out] at h
            have e : flatP (ps.take q) ++ ([key] ++ [val]) ++ flatP (ps.drop q) = flatP (ps.take q ++ (key, val) :: ps.drop q) := by rw [flatP_append, List.append_assoc]; rfl
            rw [← e]
            exact h
          have hownh := Lib.hid hownJ
          have hblkh := Lib.hid hblkJ
          have hresh := Lib.hid hresJ
          have hVRh := Lib.hid hVR
          have hMAPh := Lib.hid hMAP
          have hvrh := Lib.hid hvr
          clear hownJ hblkJ hresJ hVR hMAP hownI hblkI hresI hown hblk hres hmap hps hvr hkeyO hvalO hkxO hbI hbr hbJ
          go_upto_region 10 with fail
          (refine wp_region_rel_at (13) [74] [74] (by kernel_rfl) (by kernel_rfl) (by kernel_rfl) ?_; (simp only [List.take_succ_cons, List.take_zero, List.drop_succ_cons, List.drop_zero]))
          iterate 12 (((with_reducible refine wpRel_none (by kernel_rfl) (by kernel_rfl) ?_); intro K hK; go_simp; first | (with_reducible refine hK _ ?_; clear hK K) | (apply Exists.intro; (with_reducible refine ⟨fun _ => ⟨?_, _, rfl⟩, hK _ ?_⟩); (· exact rfl); clear hK K) | (apply Exists.intro; (with_reducible refine ⟨fun _ => ?_, hK _ ?_⟩); (· (with_reducible (fail))); clear hK K)))
          ((with_reducible refine wpRel_fact [] (74) (RowAt (wJ.heap.size) (#[.int .i64 kk, .bool kb, .int .i64 kn, .float .f64 kf, .string (st ks), .slice kB klen kc, .int .i64 vk, .bool vb, .int .i64 vn, .float .f64 vf, .string (st vs), .slice vB vlen vc]) (25) (2)) (by kernel_rfl) rfl rfl (RowAt.steady _ _ _ _) (by first | exact rfl | go_simp) ?_ ?_); (· intro p; rw [pickR_nil]; (simp only [fillR]); go_wp2_with fail; exact row_post p.h.size rfl rfl))
          ((with_reducible refine wpRel_nil ?_); intro p; (simp only [fillR]))
          rintro u74 ⟨b74, h74, rfl, z74⟩ -
          have ho1 := own_stays hownh.out p.h
          have hb1' := (p.h.block _ (Array.getElem?_eq_some_iff.1 hblkh.out).1).trans hblkh.out
          have hr1 := (p.h.block _ (Array.getElem?_eq_some_iff.1 hresh.out).1).trans hresh.out
          have hbP : Below w.heap.size w p.w := hbwJ.trans (p.h.mono hbwJ.size)
          have hpz : wJ.heap.size ≤ p.w.heap.size := p.h.size
          have hbS := hbwJ.size
          have hownlt := hownh.out.lt
          generalize p.w = wp at *
          have ci := insertVal_c (w.heap.size + 2) _ n IT 2 b74 25 xs (valC kk kb kn kf ks kB klen kc ++ valC vk vb vn vf vs vB vlen vc) wp ho1 (by omega) hIT (by omega) (by omega) (by omega) rfl (fun e => by have := (hownlt b74 e).2; omega) z74 (fun u hu => by rcases List.mem_append.1 hu with h | h <;> exact valC_one _ _ _ _ _ _ _ _ u h) hvrh.out.one
          have cg5 : wp.cell? ⟨w.heap.size + 1, 5, none⟩ = some (.slice A n cap) := cell_of hb1' 5
          have hfz : ∀ j, wp.frozen? ⟨w.heap.size + 1, j, none⟩ = false := fun j => frozen_of hb1' j
          have hblkL := (Array.getElem?_eq_some_iff.1 hb1').1
          have hresL := (Array.getElem?_eq_some_iff.1 hr1).1
          have hown1b : ∀ b, b < w.heap.size + 2 → some b ≠ (Value.slice A n cap).ownBlock := fun b hb e => own_block ho1 hb e.symm
          have hF : Hid (∀ (v' : Value) (wx : World), wx.ownsRow (w.heap.size + 2) 25 6 v' (n + 2) (xs.take (IT * 6) ++ (valC kk kb kn kf ks kB klen kc ++ valC vk vb vn vf vs vB vlen vc) ++ xs.drop (IT * 6)) → wp.grownBy wx (Value.slice A n cap).ownBlock → (∃ p1, i + 2 = 2 * p1 ∧ MapSt w (wx.setCell ⟨w.heap.size + 1, 5, none⟩ v') (mapQ (pairAt l) p1)) ∧ Below w.heap.size w (wx.setCell ⟨w.heap.size + 1, 5, none⟩ v') ∧ w.heap.size + 2 ≤ (wx.setCell ⟨w.heap.size + 1, 5, none⟩ v').heap.size) := Lib.hid fun v' wx ho hg => by
            have hsz := hg.size
            refine ⟨⟨p0 + 1, by have := hip'.out; omega, v', n + 2, _, own_aside ho (by omega), by rw [hMAPh.out]; exact hVRh.out, ?_, ?_⟩, ((hbP.trans (grown_below hg ho1 (by omega) (by omega))).setCell (p := ⟨w.heap.size + 1, 5, none⟩) (Nat.le_succ _) _), by simp [World.setCell]; omega⟩
            · exact set6_at5 ((hg.block _ hblkL (hown1b _ (by omega))).trans hb1')
            · rw [Below.heap_setCell _ _ _ _ (Nat.ne_of_lt (Nat.lt_succ_self _))]
              exact (hg.block _ hresL (hown1b _ (by omega))).trans hr1
          have hnb := Lib.hid (hown1b (w.heap.size + 1) (by omega))
          have w3 : IntKind.i64.wrap ((i : Int) + 2) = (i : Int) + 2 := by rw [wrap_i64]; omega
          clear ho1 hb1' hr1 hbP hownlt hown1b z74 h74
          go_wp2_with ((with_reducible refine ci.mono ?_); rintro e w6 ⟨v', rfl, hown6, hgrow6⟩; obtain ⟨A6, cap6, hv6, _, _⟩ := own_form hown6; subst hv6; have hblk6 := hgrow6.block (w.heap.size + 1) hblkL hnb.out; have c6 : w6.cell? ⟨w.heap.size + 1, 5, none⟩ = some (.slice A n cap) := ((by simp only [World.cell?, hblk6] : w6.cell? ⟨w.heap.size + 1, 5, none⟩ = wp.cell? ⟨w.heap.size + 1, 5, none⟩).trans cg5); have l6 : w.heap.size + 1 < w6.heap.size := Nat.lt_of_lt_of_le hblkL hgrow6.size; have q6 := frozen_at hblk6 hfz; have hF6 := Lib.hid (hF.out _ w6 hown6 hgrow6); clear hF hown6 hgrow6 hblk6)
          exact ⟨⟨i + 2, by simp, by omega, hF6.out.1, hF6.out.2.1, hF6.out.2.2⟩, by simp [intOf]; omega⟩
    · have hil' : ¬ (i : Int) + 1 < l.length := by omega
      obtain ⟨p0, hip, v, n, xs, hown, hvr, hblk, hres⟩ := hst.out
      have hpe : p0 = l.length / 2 := by omega
      subst hpe
      have hbF : Below w.heap.size w wr := hbr
      obtain ⟨A, cap, rfl, hnc, hcm⟩ := own_form hown
      have g := fun j => cell_of hblk j
      have q := fun j => frozen_of hres j
      have r := fun j => cell_of hres j
      have gl : w.heap.size + 1 < wr.heap.size := (Array.getElem?_eq_some_iff.1 hblk).1
      have hown' := Lib.hid hown
      have hvr' := Lib.hid hvr
      have hresh := Lib.hid hres
      clear hown hvr hblk hres hst hip hp
      go_wp2_with fail
      obtain ⟨wf, hwf⟩ : ∃ wf, wf = (((((wr.setCell ⟨w.heap.size, 0, none⟩ (.int .i64 6)).setCell ⟨w.heap.size, 1, none⟩ (.bool false)).setCell ⟨w.heap.size, 2, none⟩ (.int .i64 0)).setCell ⟨w.heap.size, 3, none⟩ (.float .f64 0)).setCell ⟨w.heap.size, 4, none⟩ (.string (st []))).setCell ⟨w.heap.size, 5, none⟩ (.slice A n cap) := ⟨_, rfl⟩
      rw [← hwf]
      have zf : wf.heap[w.heap.size]? = some (.cells (map6 (.slice A n cap)) 25) := hwf ▸ set6_all hresh.out
      have of := hwf ▸ own_aside (own_aside (own_aside (own_aside (own_aside (own_aside hown'.out (by omega)) (by omega)) (by omega)) (by omega)) (by omega)) (by omega)
      have bf : Below w.heap.size w wf := hwf ▸ (((((hbF.setCell (p := ⟨w.heap.size, 0, none⟩) (Nat.le_refl _) _).setCell (p := ⟨w.heap.size, 1, none⟩) (Nat.le_refl _) _).setCell (p := ⟨w.heap.size, 2, none⟩) (Nat.le_refl _) _).setCell (p := ⟨w.heap.size, 3, none⟩) (Nat.le_refl _) _).setCell (p := ⟨w.heap.size, 4, none⟩) (Nat.le_refl _) _).setCell (p := ⟨w.heap.size, 5, none⟩) (Nat.le_refl _) _
      have hn2 : n = (flatP (mapQ (pairAt l) (l.length / 2))).length := by have h1 := of.1; have h2 := hvr'.out.1; omega
      have hHas : Has wf (valV 6 false 0 0 [] A n cap) (.mk 6 false 0 0 [] (flatP (mapQ (pairAt l) (l.length / 2)))) := by
        subst hn2
        obtain ⟨A', cap', e, hP, _⟩ := Parts.ofRow of (hvr'.out.keep bf)
        cases e
        have hln : (flatP (mapQ (pairAt l) (l.length / 2))).length ≤ 1000 := by have := mapQ_len (pairAt l) (l.length / 2); rw [flatP_len]; omega
        exact Has.ofParts hP ⟨by omega, by omega⟩ ⟨by omega, by omega⟩ ⟨by omega⟩ (by simp) (by omega) hnc hcm
      have cf := fun j => cell_of zf j
      have lf := (Array.getElem?_eq_some_iff.1 zf).1
      clear hwf zf of hn2 g q r gl
      exact bodyPost_ret (v := valV 6 false 0 0 [] A n cap) (by simp only [results, Try.results38]; go_simp) rfl (by rw [hGo.out]; exact ⟨_, rfl, hHas, bf⟩)
end Go.Proofs.Ytkbacjlnfmibaaa
