
/-
  The reference's Map: printed by mkrmap.py.
-/
import Derived.Test.YtkbacjlnfmibaaaMpA
import Derived.Test.YtkbacjlnfmibaaaApp
import Derived.Test.YtkbacjlnfmibaaaSwp
set_option linter.unusedSimpArgs false
set_option linter.unusedVariables false
namespace Go.Proofs.Ytkbacjlnfmibaaa
open Go.RowKit Go.Deep

def OwnF (base : Nat) (n : Nat) (xs : List Value) : Fact := fun u w => w.ownsRow base 25 6 u n xs
theorem OwnF.steady (base : Nat) (n : Nat) (xs : List Value) : Steady (OwnF base n xs) := ⟨fun u w w' h hb => own_stays h hb⟩
/-- the map between two rounds -/
inductive RMapSt (w0 wr : World) (v : Value) (n : Nat) (ps : List (Val × Val)) : Prop
  | mk (xs : List Value) (row : wr.ownsRow (w0.heap.size + 1) 25 6 v n xs) (vr : VRow w0 (flatP ps) xs) (res : wr.heap[w0.heap.size]? = some (.cells zero6 25))
theorem value_info : ∃ i, Try.prog.info? 25 = some i ∧ i.zero = some (.agg #[.int .i64 0, .bool false, .int .i64 0, .float .f64 0, .string ByteArray.empty, .slice none 0 0]) ∧ i.size = 6 ∧ i.bytes = 72 := insVal_info
set_option maxRecDepth 8000 in
set_option maxHeartbeats 8000000 in
theorem rmap_c (A0 : Option Addr) (cap0 : Nat) (l : List Val) (w : World) (hp : Parts w A0 l) (hl : l.length ≤ 100) : Calls Try.prog 39 #[.slice A0 l.length cap0] w (MapEnds (mapQ (pairAt l) (l.length / 2)) w) := by
  obtain ⟨i0, hi0, hz0, hz1, hz2⟩ := value_info
  obtain ⟨GOAL, hG⟩ : ∃ G, G = MapEnds (mapQ (pairAt l) (l.length / 2)) w := ⟨_, rfl⟩
  rw [← hG]
  have hGo := Lib.hid hG
  clear hG
  go_enter Try.func39, Try.ntmps39
  go_upto_region 2 with fail
  obtain ⟨w2, hw2⟩ : ∃ w2, w2 = (w.alloc (.cells #[.int .i64 0, .bool false, .int .i64 0, .float .f64 0, .string ⟨#[]⟩, .slice none 0 0] 25)).alloc (.cells #[] 25) := ⟨_, rfl⟩
  have b2 : Below w.heap.size w w2 := hw2 ▸ (below_alloc w _).alloc (by simp) _
  have z1 : w2.heap[w.heap.size]? = some (.cells zero6 25) := hw2 ▸ alloc_past _ (alloc_here w _)
  have z2 : w2.ownsRow (w.heap.size + 1) 25 6 (.slice (some ⟨w.heap.size + 1, 0, none⟩) 0 0) 0 [] := by
    have h := owns_empty6 (w.alloc (.cells zero6 25)) 25 (w.heap.size + 1) (by simp)
    rw [alloc_grows w _ rfl] at h
    rw [hw2]
    exact h
  rw [← hw2]
  have hst : RMapSt w w2 (.slice (some ⟨w.heap.size + 1, 0, none⟩) 0 0) 0 (mapQ (pairAt l) 0) := ⟨[], z2, VRow.nil w, z1⟩
  clear hw2 z1 z2
  go_wp2_with fail
  go_loopw [3, 4] (fun a3 a4 wr => ∃ i n g cap : Nat, a3 = .slice (some ⟨g, 0, none⟩) n cap ∧ a4 = .int .i64 i ∧ i ≤ l.length ∧ Hid (∃ p0, i = 2 * p0 ∧ RMapSt w wr (.slice (some ⟨g, 0, none⟩) n cap) n (mapQ (pairAt l) p0)) ∧ Below w.heap.size w wr) (fun _ a _ => l.length - (intOf a).toNat)
  case atStart => exact ⟨0, 0, w.heap.size + 1, 0, rfl, rfl, Nat.zero_le _, ⟨0, rfl, hst⟩, b2⟩
  case round =>
    clear hst b2
    obtain ⟨i, n, g, cap, rfl, rfl, hi, hst, hbr⟩ := hrel
    have w1 : IntKind.i64.wrap ((i : Int) + 1) = (i : Int) + 1 := by rw [wrap_i64]; omega
    by_cases hil : i + 1 < l.length
    · have hil' : (i : Int) + 1 < l.length := by omega
      have hil0 : i < l.length := by omega
      have hil1 : (i : Int) < l.length := by omega
      have hil2 : (0 : Int) ≤ (i : Int) + 1 := by omega
      obtain ⟨p0, hip, xs, hown, hvr, hres⟩ := hst.out
      have hpl := mapQ_len (pairAt l) p0
      obtain ⟨ps, hps⟩ : ∃ ps, ps = mapQ (pairAt l) p0 := ⟨_, rfl⟩
      rw [← hps] at hvr hpl
      have hnl : n = 2 * ps.length := by have h1 := hown.1; have h2 := hvr.1; rw [flatP_len] at h2; omega
      have hik : l[i]? = some l[i] := by simp
      have hiv : l[i + 1]? = some l[i + 1] := by simp
      have hpa := pairAt_eq hip hik hiv
      have hmap : mapQ (pairAt l) (p0 + 1) = insQ ps l[i] l[i + 1] := by rw [mapQ, hpa, hps]
      obtain ⟨ad, kk, kb, kn, kf, ks, kB, klen, kc, rfl, hkx, hkat⟩ := hp i _ hik
      obtain ⟨ad', vk, vb, vn, vf, vs, vB, vlen, vc, had, hvx, hvat⟩ := hp (i + 1) _ hiv
      cases had
      generalize l[i] = key at *
      generalize l[i + 1] = val at *
      have hkL := hkat.lt
      have hvL := hvat.lt
      have hkeyO := hkat.keep hbr
      have hvalO := hvat.keep hbr
      have hkxO := hkx.keep hbr
      clear hp hkat hvat hik hiv hpa hst
      have hn200 : n ≤ 200 := by omega
      have hE := Lib.hid hnl
      have hip' := Lib.hid hip
      clear hnl hip
      obtain ⟨_, capE, hvA, hncap, hcm⟩ := own_form hown
      simp only [Value.slice.injEq, true_and] at hvA
      obtain ⟨-, rfl⟩ := hvA
      go_wp2_with fail
      go_loopw [5, 6] (fun a5 a6 wI => ∃ (IT : Nat) (sm : Bool), a5 = .int .i64 IT ∧ a6 = .bool sm ∧ IT ≤ n ∧ Hid (∃ q, (if sm then IT = 2 * q + 2 else IT = 2 * q) ∧ q + (if sm then 1 else 0) ≤ ps.length ∧ (∀ (t : Nat) (x : Val × Val), t < q → ps[t]? = some x → cmpV x.1 key < 0) ∧ (sm = true → ∃ x, ps[q]? = some x ∧ cmpV x.1 key = 0)) ∧ Below wr.heap.size wr wI) (fun a _ _ => n - (intOf a).toNat)
      case atStart => exact ⟨0, false, rfl, rfl, Nat.zero_le _, ⟨0, rfl, Nat.zero_le _, fun t x h => absurd h (Nat.not_lt_zero _), fun h => by cases h⟩, Below.refl _ _⟩
      case round =>
        obtain ⟨IT, sm, rfl, rfl, hIT, hq, hbI⟩ := hrel
        obtain ⟨q, hITq, hqp, hlow, hsm⟩ := hq.out
        have hownI := own_stays hown hbI
        have hresI := (hbI.block _ (Array.getElem?_eq_some_iff.1 hres).1).trans hres
        have hbwI : Below w.heap.size w wr := hbr.trans (hbI.mono hbr.size)
        have hlowh := Lib.hid hlow
        have hsmh := Lib.hid hsm
        have hITn200 : (IT : Int) ≤ 200 := by omega
        cases sm with
        | true =>
          obtain ⟨IT1, rfl⟩ : ∃ IT1, IT = IT1 + 1 := ⟨IT - 1, (by have h : IT = 2 * q + 2 := (by simpa using hITq); omega)⟩
          have hITh := Lib.hid (show IT1 = 2 * q + 1 from (by have h : IT1 + 1 = 2 * q + 2 := (by simpa using hITq); omega))
          have hqp' : q + 1 ≤ ps.length := by simpa using hqp
          clear hITq hqp hlow hsm hq
          have hI0 : IT1 < n := by omega
          have hI0' : (IT1 : Int) < n := by omega
          have w4 : IntKind.i64.wrap ((IT1 : Int) + 1 - 1) = IT1 := by rw [wrap_i64]; omega
          have w5 : IntKind.i64.wrap (IT1 : Int) = IT1 := by rw [wrap_i64]; omega
          have hmap2 : mapQ (pairAt l) (p0 + 1) = ps.set q ((ps.getD q default).1, val) := by
            obtain ⟨x, hx, h0⟩ := hsmh.out rfl
            rw [hmap, insQ_old hx hlowh.out h0, List.getD_eq_getElem?_getD, hx]
            rfl
          have hgq : ps[q]? = some (ps.getD q default) := by
            rw [List.getD_eq_getElem?_getD, List.getElem?_eq_getElem (by omega)]
            rfl
          generalize ps.getD q default = pq at *
          by_cases hITn : IT1 + 1 < n
          · have hITn' : (IT1 : Int) + 1 < n := by omega
            go_upto_region 6 with fail
            (refine wp_region_flow [] (by kernel_rfl) (by kernel_rfl) ?_; (repeat (((with_reducible refine wpFlow_steps ?_); intro K hK; go_simp; first | (with_reducible refine hK _ ?_; clear hK K) | (apply Exists.intro; (with_reducible refine ⟨fun _ => ⟨?_, _, rfl⟩, hK _ ?_⟩); (· exact rfl); clear hK K) | (apply Exists.intro; (with_reducible refine ⟨fun _ => ⟨_, rfl⟩, hK _ ?_⟩); clear hK K) | (apply Exists.intro; (with_reducible refine ⟨fun _ => ?_, hK _ ?_⟩); (· (with_reducible (fail))); clear hK K)))); (refine wpFlow_nil ?_; rintro w1 ⟨q0, hq0⟩; have hb := In.h q0; rw [← hq0] at hb; clear hq0 q0; (first | ((with_reducible obtain ⟨p, hw''⟩ := In.of2 p hb); subst hw'') | (obtain ⟨p, hw''⟩ := In.of hb; subst hw'')); go_simp; intros))
            have hownJ := own_stays hownI p.h
            have hresJ := (p.h.block _ (Array.getElem?_eq_some_iff.1 hresI).1).trans hresI
            have hbwJ : Below w.heap.size w p.w := hbwI.trans (p.h.mono hbwI.size)
            have hvalJ := (hvalO.keep hbI).keep p.h
            generalize p.w = wJ at *
            have hgl := (hownJ.lt g rfl).2
            have hcellsh : Hid (∀ j u, xs[j]? = some u → wJ.cell? ⟨g, j, none⟩ = some u) := Lib.hid fun j u hu => by
              have := hownJ.cells (g := g) rfl j u hu
              rwa [insAdd, Nat.zero_add] at this
            have hones := Lib.hid (VRow.one hvr)
            have hxlh := Lib.hid hownJ.1
            have hresh := Lib.hid hresJ
            have hmaph := Lib.hid hmap2
            have hgqh := Lib.hid hgq
            have hvrh := Lib.hid hvr
            have hvxh := Lib.hid hvx
            clear hownJ hresJ hmap2 hmap hownI hresI hown hres hps hvr hkeyO hvalO hkxO hbI hbr hgq
            go_upto_region 10 with fail
            go_wp2_with (at_builtin; refine wpList_append_fresh _ rfl _ _ 23 rfl 25 i0 (.agg #[.int .i64 0, .bool false, .int .i64 0, .float .f64 0, .string ByteArray.empty, .slice none 0 0]) 6 72 Try.underlying23 hi0 hz0 hz1 hz2 rfl (by decide) wJ.heap.size rfl 25 rfl (alloc_here _ _) wJ.heap.size (Nat.le_refl _) (some ⟨g, 0, none⟩) n cap xs rfl (fun h => by cases h) hxlh.out (fun ad had j u hu => by cases had; rw [insAdd, Nat.zero_add]; exact ((below_alloc wJ _).cell (p := ⟨g, j, none⟩) hgl).trans (hcellsh.out j u hu)) hones.out (by unfold maxLen; omega) (by omega) ?_)
            intro v9 w9 hown9 hb9
            have hb9w : Below wJ.heap.size wJ w9 := (below_alloc wJ _).trans (hb9.mono (Nat.le_succ _))
            have hr9 := (hb9w.block _ (Array.getElem?_eq_some_iff.1 hresh.out).1).trans hresh.out
            have hbw9 : Below w.heap.size w w9 := hbwJ.trans (hb9w.mono hbwJ.size)
            obtain ⟨g9, c9, hv9, hg91, hg92, hnc9, _⟩ := own_some hown9 (by omega)
            subst hv9
            obtain ⟨A9, cap9, hvA9, hP9, _, _⟩ := Parts.ofRow (ys := flatP ps) (by rw [flatP_len, ← hE.out]; exact hown9) (hvrh.out.keep hbw9)
            simp only [Value.slice.injEq] at hvA9
            obtain ⟨hvA9, -, -⟩ := hvA9
            subst hvA9
            obtain ⟨ad9, ok, ob, on, oF, oS, oB, olen, oc, had9, _, hoat⟩ := hP9 IT1 _ (by rw [hITh.out]; exact (flatP_get hgqh.out).2)
            cases had9
            rw [show ((⟨g9, 0, none⟩ : Addr)).add (IT1 * 6) = ⟨g9, IT1 * 6, none⟩ by simp [Addr.add]; intro h; exact h.symm] at hoat
            obtain ⟨x6, x0, x1, x2, x3, x4, x5⟩ := hoat
            obtain ⟨z6, z0, z1, z2, z3, z4, z5⟩ := hvalJ.keep hb9w
            have fz : ∀ j, w9.frozen? ⟨g9, j, none⟩ = false := fun j => own_unfrozen hown9 j
            have w3 : IntKind.i64.wrap ((i : Int) + 2) = (i : Int) + 2 := by rw [wrap_i64]; omega
            have hF : Hid ((∃ p1, i + 2 = 2 * p1 ∧ RMapSt w (w9.setCells g9 (IT1 * 6) (valC vk vb vn vf vs vB vlen vc)) (.slice (some ⟨g9, 0, none⟩) n c9) n (mapQ (pairAt l) p1)) ∧ Below w.heap.size w (w9.setCells g9 (IT1 * 6) (valC vk vb vn vf vs vB vlen vc))) := by
              have hxl := hown9.1
              obtain ⟨ow, gw⟩ := own_puts (valC vk vb vn vf vs vB vlen vc) (IT1 * 6) hown9 (by rw [hxl]; show _ + 6 ≤ _; omega)
              have hvr2 := hvrh.out.put (i := IT1) (by rw [flatP_len]; have h1 := hE.out; omega) hvxh.out
              rw [show IT1 = 2 * q + 1 from hITh.out, flatP_set val hgqh.out, ← hITh.out] at hvr2
              have hbS := hbwJ.size
              have hbS9 := hbw9.size
              have hrl := (Array.getElem?_eq_some_iff.1 hresh.out).1
              refine Lib.hid ⟨⟨p0 + 1, by have := hip'.out; omega, _, World.ownsRow.mono ow (by omega), by rw [hmaph.out]; exact hvr2, ?_⟩, hbw9.grown gw hbw9.size fun k hk => by cases hk; omega⟩
              exact (gw.block _ (by omega) (by simp; omega)).trans hr9
            clear hown9 hP9 hr9 hb9 hb9w hbw9
            go_wp2_with fail
            exact ⟨⟨i + 2, n, g9, c9, rfl, by simp, by omega, hF.out⟩, by simp [intOf]; omega⟩
          · have hITn' : ¬ (IT1 : Int) + 1 < n := by omega
            go_upto_region 6 with fail
            (refine wp_region_flow [] (by kernel_rfl) (by kernel_rfl) ?_; (repeat (((with_reducible refine wpFlow_steps ?_); intro K hK; go_simp; first | (with_reducible refine hK _ ?_; clear hK K) | (apply Exists.intro; (with_reducible refine ⟨fun _ => ⟨?_, _, rfl⟩, hK _ ?_⟩); (· exact rfl); clear hK K) | (apply Exists.intro; (with_reducible refine ⟨fun _ => ⟨_, rfl⟩, hK _ ?_⟩); clear hK K) | (apply Exists.intro; (with_reducible refine ⟨fun _ => ?_, hK _ ?_⟩); (· (with_reducible (fail))); clear hK K)))); (refine wpFlow_nil ?_; rintro w1 ⟨q0, hq0⟩; have hb := In.h q0; rw [← hq0] at hb; clear hq0 q0; (first | ((with_reducible obtain ⟨p, hw''⟩ := In.of2 p hb); subst hw'') | (obtain ⟨p, hw''⟩ := In.of hb; subst hw'')); go_simp; intros))
            have hownJ := own_stays hownI p.h
            have hresJ := (p.h.block _ (Array.getElem?_eq_some_iff.1 hresI).1).trans hresI
            have hbwJ : Below w.heap.size w p.w := hbwI.trans (p.h.mono hbwI.size)
            have hvalJ := (hvalO.keep hbI).keep p.h
            generalize p.w = wJ at *
            have hgl := (hownJ.lt g rfl).2
            have hcellsh : Hid (∀ j u, xs[j]? = some u → wJ.cell? ⟨g, j, none⟩ = some u) := Lib.hid fun j u hu => by
              have := hownJ.cells (g := g) rfl j u hu
              rwa [insAdd, Nat.zero_add] at this
            have hones := Lib.hid (VRow.one hvr)
            have hxlh := Lib.hid hownJ.1
            have hresh := Lib.hid hresJ
            have hmaph := Lib.hid hmap2
            have hgqh := Lib.hid hgq
            have hvrh := Lib.hid hvr
            have hvxh := Lib.hid hvx
            clear hownJ hresJ hmap2 hmap hownI hresI hown hres hps hvr hkeyO hvalO hkxO hbI hbr hgq
            go_upto_region 10 with fail
            go_wp2_with (at_builtin; refine wpList_append_fresh _ rfl _ _ 23 rfl 25 i0 (.agg #[.int .i64 0, .bool false, .int .i64 0, .float .f64 0, .string ByteArray.empty, .slice none 0 0]) 6 72 Try.underlying23 hi0 hz0 hz1 hz2 rfl (by decide) wJ.heap.size rfl 25 rfl (alloc_here _ _) wJ.heap.size (Nat.le_refl _) (some ⟨g, 0, none⟩) n cap xs rfl (fun h => by cases h) hxlh.out (fun ad had j u hu => by cases had; rw [insAdd, Nat.zero_add]; exact ((below_alloc wJ _).cell (p := ⟨g, j, none⟩) hgl).trans (hcellsh.out j u hu)) hones.out (by unfold maxLen; omega) (by omega) ?_)
            intro v9 w9 hown9 hb9
            have hb9w : Below wJ.heap.size wJ w9 := (below_alloc wJ _).trans (hb9.mono (Nat.le_succ _))
            have hr9 := (hb9w.block _ (Array.getElem?_eq_some_iff.1 hresh.out).1).trans hresh.out
            have hbw9 : Below w.heap.size w w9 := hbwJ.trans (hb9w.mono hbwJ.size)
            obtain ⟨g9, c9, hv9, hg91, hg92, hnc9, _⟩ := own_some hown9 (by omega)
            subst hv9
            obtain ⟨A9, cap9, hvA9, hP9, _, _⟩ := Parts.ofRow (ys := flatP ps) (by rw [flatP_len, ← hE.out]; exact hown9) (hvrh.out.keep hbw9)
            simp only [Value.slice.injEq] at hvA9
            obtain ⟨hvA9, -, -⟩ := hvA9
            subst hvA9
            obtain ⟨ad9, ok, ob, on, oF, oS, oB, olen, oc, had9, _, hoat⟩ := hP9 IT1 _ (by rw [hITh.out]; exact (flatP_get hgqh.out).2)
            cases had9
            rw [show ((⟨g9, 0, none⟩ : Addr)).add (IT1 * 6) = ⟨g9, IT1 * 6, none⟩ by simp [Addr.add]; intro h; exact h.symm] at hoat
            obtain ⟨x6, x0, x1, x2, x3, x4, x5⟩ := hoat
            obtain ⟨z6, z0, z1, z2, z3, z4, z5⟩ := hvalJ.keep hb9w
            have fz : ∀ j, w9.frozen? ⟨g9, j, none⟩ = false := fun j => own_unfrozen hown9 j
            have w3 : IntKind.i64.wrap ((i : Int) + 2) = (i : Int) + 2 := by rw [wrap_i64]; omega
            have hF : Hid ((∃ p1, i + 2 = 2 * p1 ∧ RMapSt w (w9.setCells g9 (IT1 * 6) (valC vk vb vn vf vs vB vlen vc)) (.slice (some ⟨g9, 0, none⟩) n c9) n (mapQ (pairAt l) p1)) ∧ Below w.heap.size w (w9.setCells g9 (IT1 * 6) (valC vk vb vn vf vs vB vlen vc))) := by
              have hxl := hown9.1
              obtain ⟨ow, gw⟩ := own_puts (valC vk vb vn vf vs vB vlen vc) (IT1 * 6) hown9 (by rw [hxl]; show _ + 6 ≤ _; omega)
              have hvr2 := hvrh.out.put (i := IT1) (by rw [flatP_len]; have h1 := hE.out; omega) hvxh.out
              rw [show IT1 = 2 * q + 1 from hITh.out, flatP_set val hgqh.out, ← hITh.out] at hvr2
              have hbS := hbwJ.size
              have hbS9 := hbw9.size
              have hrl := (Array.getElem?_eq_some_iff.1 hresh.out).1
              refine Lib.hid ⟨⟨p0 + 1, by have := hip'.out; omega, _, World.ownsRow.mono ow (by omega), by rw [hmaph.out]; exact hvr2, ?_⟩, hbw9.grown gw hbw9.size fun k hk => by cases hk; omega⟩
              exact (gw.block _ (by omega) (by simp; omega)).trans hr9
            clear hown9 hP9 hr9 hb9 hb9w hbw9
            go_wp2_with fail
            exact ⟨⟨i + 2, n, g9, c9, rfl, by simp, by omega, hF.out⟩, by simp [intOf]; omega⟩
        | false =>
          have hITh := Lib.hid (show IT = 2 * q by simpa using hITq)
          have hqp : q ≤ ps.length := by simpa using hqp
          have w6 : IntKind.i64.wrap ((IT : Int) + 2) = (IT : Int) + 2 := by rw [wrap_i64]; omega
          clear hITq hlow hsm hq
          obtain ⟨y6, y0, y1, y2, y3, y4, y5⟩ := hkeyO.keep hbI
          have hkxI := hkxO.keep hbI
          by_cases hITn : IT < n
          · have hITn' : (IT : Int) < n := by omega
            have hqlt : q < ps.length := by have := hE.out; have := hITh.out; omega
            obtain ⟨pq, hgq⟩ : ∃ pq, ps[q]? = some pq := ⟨ps[q], by simp⟩
            obtain ⟨A, capP, hvA, hP, _, _⟩ := Parts.ofRow (ys := flatP ps) (by rw [flatP_len, ← hE.out]; exact hownI) (hvr.keep hbwI)
            simp only [Value.slice.injEq] at hvA
            obtain ⟨hvA, -, -⟩ := hvA
            subst hvA
            obtain ⟨adA, ak, ab, an, aF, aS, aB, alen, ac, hadA, hax, haat⟩ := hP IT _ (by rw [hITh.out]; exact (flatP_get hgq).1)
            cases hadA
            rw [show ((⟨g, 0, none⟩ : Addr)).add (IT * 6) = ⟨g, IT * 6, none⟩ by simp [Addr.add]; intro h; exact h.symm] at haat
            obtain ⟨x6, x0, x1, x2, x3, x4, x5⟩ := haat
            have cc : ∀ p : In wr, Calls Try.prog 26 #[valV ak ab an aF aS aB alen ac, valV kk kb kn kf ks kB klen kc] p.w fun e w' => e = .returned (.int .i64 (cmpV pq.1 key)) ∧ Below p.w.heap.size p.w w' := fun p => rcmpv_c _ _ _ _ p.w (hax.keep p.h) (hkxI.keep p.h)
            obtain ⟨C, hC⟩ : ∃ C, cmpV pq.1 key = C := ⟨_, rfl⟩
            rw [hC] at cc
            have hCh := Lib.hid hC
            have hgqh := Lib.hid hgq
            clear hC hgq hP
            by_cases hle : C ≤ 0
            · have cc2 : ∀ (w0 : World), Below wr.heap.size wr w0 → ∀ p2 : In w0, Calls Try.prog 26 #[valV ak ab an aF aS aB alen ac, valV kk kb kn kf ks kB klen kc] p2.w fun e w' => e = .returned (.int .i64 C) ∧ Below p2.w.heap.size p2.w w' := fun w0 h0 p2 => by
                rw [← hCh.out]
                exact rcmpv_c _ _ _ _ p2.w ((hax.keep h0).keep p2.h) ((hkxI.keep h0).keep p2.h)
              have hIT2 : IT + 2 ≤ n := by have := hE.out; have := hITh.out; omega
              have hst2 : Hid (∃ q', (if (C == 0) = true then IT + 2 = 2 * q' + 2 else IT + 2 = 2 * q') ∧ q' + (if (C == 0) = true then 1 else 0) ≤ ps.length ∧ (∀ (t : Nat) (x : Val × Val), t < q' → ps[t]? = some x → cmpV x.1 key < 0) ∧ ((C == 0) = true → ∃ x, ps[q']? = some x ∧ cmpV x.1 key = 0)) := by
                by_cases hz : C = 0
                · have hz' : (C == 0) = true := by simp [hz]
                  exact Lib.hid ⟨q, by rw [if_pos hz', hITh.out], by rw [if_pos hz']; omega, hlowh.out, fun _ => ⟨pq, hgqh.out, by rw [hCh.out]; exact hz⟩⟩
                · have hz' : ¬ (C == 0) = true := by simp [hz]
                  exact Lib.hid ⟨q + 1, by rw [if_neg hz', hITh.out]; omega, by rw [if_neg hz']; omega, fun t x ht hx => by
                    by_cases e : t = q
                    · subst e
                      rw [hgqh.out] at hx
                      cases hx
                      rw [hCh.out]
                      omega
                    · exact hlowh.out t x (by omega) hx, fun h => absurd h hz'⟩
              clear hax hkxI hownI hresI hkeyO hvalO hkxO
              go_upto_region 6 with fail
              (refine wp_region_flow [] (by kernel_rfl) (by kernel_rfl) ?_; (repeat (((with_reducible refine wpFlow_steps ?_); intro K hK; go_simp; first | (with_reducible refine hK _ ?_; clear hK K) | (apply Exists.intro; (with_reducible refine ⟨fun _ => ⟨?_, _, rfl⟩, hK _ ?_⟩); (· exact rfl); clear hK K) | (apply Exists.intro; (with_reducible refine ⟨fun _ => ⟨_, rfl⟩, hK _ ?_⟩); clear hK K) | (apply Exists.intro; (with_reducible refine ⟨fun _ => ?_, hK _ ?_⟩); (· (with_reducible (first | exact cc _))); clear hK K)))); (refine wpFlow_nil ?_; rintro w1 ⟨q0, hq0⟩; have hb := In.h q0; rw [← hq0] at hb; clear hq0 q0; (first | ((with_reducible obtain ⟨p, hw''⟩ := In.of2 p hb); subst hw'') | (obtain ⟨p, hw''⟩ := In.of hb; subst hw'')); go_simp; intros))
              have cc3 := cc2 p.w p.h
              go_upto_region 7 with fail
              (refine wp_region_flow [] (by kernel_rfl) (by kernel_rfl) ?_; (repeat (((with_reducible refine wpFlow_steps ?_); intro K hK; go_simp; first | (with_reducible refine hK _ ?_; clear hK K) | (apply Exists.intro; (with_reducible refine ⟨fun _ => ⟨?_, _, rfl⟩, hK _ ?_⟩); (· exact rfl); clear hK K) | (apply Exists.intro; (with_reducible refine ⟨fun _ => ⟨_, rfl⟩, hK _ ?_⟩); clear hK K) | (apply Exists.intro; (with_reducible refine ⟨fun _ => ?_, hK _ ?_⟩); (· (with_reducible (first | exact cc3 _))); clear hK K)))); (refine wpFlow_nil ?_; rintro w1 ⟨q0, hq0⟩; have hb := In.h q0; rw [← hq0] at hb; clear hq0 q0; (first | ((with_reducible obtain ⟨p, hw''⟩ := In.of2 p hb); subst hw'') | (obtain ⟨p, hw''⟩ := In.of hb; subst hw'')); go_simp; intros))
              have hb5 := hbI.trans (p.h.mono hbI.size)
              clear cc cc2 cc3
              go_wp2_with fail
              exact ⟨⟨IT + 2, (C == 0), by simp, rfl, hIT2, hst2.out, hb5⟩, by simp [intOf]; omega⟩
            · have hMAP : mapQ (pairAt l) (p0 + 1) = ps.take q ++ (key, val) :: ps.drop q := by
                rw [hmap]
                exact insQ_new hgqh.out hlowh.out (by rw [hCh.out]; omega) (by rw [hCh.out]; omega)
              have hcI : ¬ cap = IT := by omega
              have hIc : IT ≤ cap := by omega
              go_upto_region 6 with fail
              (refine wp_region_flow [] (by kernel_rfl) (by kernel_rfl) ?_; (repeat (((with_reducible refine wpFlow_steps ?_); intro K hK; go_simp; first | (with_reducible refine hK _ ?_; clear hK K) | (apply Exists.intro; (with_reducible refine ⟨fun _ => ⟨?_, _, rfl⟩, hK _ ?_⟩); (· exact rfl); clear hK K) | (apply Exists.intro; (with_reducible refine ⟨fun _ => ⟨_, rfl⟩, hK _ ?_⟩); clear hK K) | (apply Exists.intro; (with_reducible refine ⟨fun _ => ?_, hK _ ?_⟩); (· (with_reducible (first | exact cc _))); clear hK K)))); (refine wpFlow_nil ?_; rintro w1 ⟨q0, hq0⟩; have hb := In.h q0; rw [← hq0] at hb; clear hq0 q0; (first | ((with_reducible obtain ⟨p, hw''⟩ := In.of2 p hb); subst hw'') | (obtain ⟨p, hw''⟩ := In.of hb; subst hw'')); go_simp; intros))
              clear cc x6 x0 x1 x2 x3 x4 x5
              have hownJ := own_stays hownI p.h
              have hresJ := (p.h.block _ (Array.getElem?_eq_some_iff.1 hresI).1).trans hresI
              have hbwJ : Below w.heap.size w p.w := hbwI.trans (p.h.mono hbwI.size)
              have hkeyJ := (hkeyO.keep hbI).keep p.h
              have hvalJ := (hvalO.keep hbI).keep p.h
              generalize p.w = wJ at *
              clear y6 y0 y1 y2 y3 y4 y5 hkxI
              obtain ⟨y6, y0, y1, y2, y3, y4, y5⟩ := hkeyJ
              obtain ⟨z6, z0, z1, z2, z3, z4, z5⟩ := hvalJ
              have hVR : VRow w (flatP (ps.take q ++ (key, val) :: ps.drop q)) (xs.take (IT * 6) ++ (valC kk kb kn kf ks kB klen kc ++ valC vk vb vn vf vs vB vlen vc) ++ xs.drop (IT * 6)) := by
                have hle : IT ≤ (flatP ps).length := by rw [flatP_len, hITh.out]; omega
                have h := hvr.insert ((VRow.single hkx).snoc hvx) IT hle
                rw [hITh.out, flatP_take ps q hqp, flatP_drop ps q hqp, ← hITh.out] at h
                have e : flatP (ps.take q) ++ ([key] ++ [val]) ++ flatP (ps.drop q) = flatP (ps.take q ++ (key, val) :: ps.drop q) := by rw [flatP_append, List.append_assoc]; rfl
                rw [← e]
                exact h
              have hlow1 := own_fewer hownJ hIT
              have hcells : ∀ j u, (xs.take (IT * 6))[j]? = some u → wJ.cell? ⟨g, j, none⟩ = some u := fun j u hu => by
                have := hlow1.cells (g := g) rfl j u hu
                rwa [insAdd, Nat.zero_add] at this
              have hxl := hownJ.1
              have hrest : ∀ j u, (xs.drop (IT * 6))[j]? = some u → wJ.cell? ⟨g, IT * 6 + j, none⟩ = some u := fun j u hu => by
                have hjl := (List.getElem?_eq_some_iff.1 hu).1
                rw [List.length_drop] at hjl
                rw [List.getElem?_drop] at hu
                exact (hownJ.cellAt _ (by omega)).trans hu
              have hgl := (hownJ.lt g rfl).2
              have hresh := Lib.hid hresJ
              have hVRh := Lib.hid hVR
              have hMAPh := Lib.hid hMAP
              have hones := Lib.hid (VRow.one hvr)
              have hcellsh := Lib.hid hcells
              have hresth := Lib.hid hrest
              have hlowl := Lib.hid hlow1.1
              have hxlh := Lib.hid hxl
              clear hownJ hresJ hVR hMAP hownI hresI hown hres hmap hps hvr hkeyO hvalO hkxO hbI hbr hcells hrest hlow1 hxl
              go_upto_region 13 with fail
              (refine wp_region_swq (15) (3) (18) [.slice (some ⟨g, 0, none⟩) n cap, .int .i64 IT, .slice (some ⟨g, IT * 6, none⟩) (n - IT) (cap - IT)] [62, 66, 76] [] (by kernel_rfl) (by kernel_rfl) (by kernel_rfl) (by kernel_rfl) (by kernel_rfl) (by kernel_rfl) (by kernel_rfl) (by kernel_rfl) (fun _ _ _ _ _ h => h) ?_ ?_; (simp only [List.drop_succ_cons, List.drop_zero, List.take_succ_cons, List.take_zero, YieldsD]); rotate_left; intro ops; (simp only [swL, reN, wtL, wtO, List.take_succ_cons, List.take_zero, List.drop_succ_cons, List.drop_zero, List.map_cons, List.map_nil, List.cons_append, List.nil_append, List.append_nil]); rotate_right)
              · refine ⟨rfl, mute_op (.inl ⟨_, rfl⟩), fun w => ?_, rfl, mute_op (.inl ⟨_, rfl⟩), fun w => ?_, rfl, mute_op (.inr ⟨_, _, _, _, _, _, _, rfl, rfl⟩), fun w => ?_, trivial⟩
                · go_simp
                · go_simp
                · go_simp
              ((with_reducible refine wpRel_fact [] (62) (RowAt (wJ.heap.size) (#[]) (25) (0)) (by kernel_rfl) rfl rfl (RowAt.steady _ _ _ _) (by first | exact rfl | go_simp) ?_ ?_); (· intro p; rw [pickR_nil]; (simp only [fillR]); go_wp2_with fail; exact row_post p.h.size rfl rfl))
              ((with_reducible refine wpRel_none (by kernel_rfl) (by kernel_rfl) ?_); intro K hK; go_simp; first | (with_reducible refine hK _ ?_; clear hK K) | (apply Exists.intro; (with_reducible refine ⟨fun _ => ⟨?_, _, rfl⟩, hK _ ?_⟩); (· exact rfl); clear hK K) | (apply Exists.intro; (with_reducible refine ⟨fun _ => ?_, hK _ ?_⟩); (· (with_reducible (fail))); clear hK K))
              ((with_reducible refine wpRel_none (by kernel_rfl) (by kernel_rfl) ?_); intro K hK; go_simp; first | (with_reducible refine hK _ ?_; clear hK K) | (apply Exists.intro; (with_reducible refine ⟨fun _ => ⟨?_, _, rfl⟩, hK _ ?_⟩); (· exact rfl); clear hK K) | (apply Exists.intro; (with_reducible refine ⟨fun _ => ?_, hK _ ?_⟩); (· (with_reducible (fail))); clear hK K))
              ((with_reducible refine wpRel_none (by kernel_rfl) (by kernel_rfl) ?_); intro K hK; go_simp; first | (with_reducible refine hK _ ?_; clear hK K) | (apply Exists.intro; (with_reducible refine ⟨fun _ => ⟨?_, _, rfl⟩, hK _ ?_⟩); (· exact rfl); clear hK K) | (apply Exists.intro; (with_reducible refine ⟨fun _ => ?_, hK _ ?_⟩); (· (with_reducible (fail))); clear hK K))
              (with_reducible refine wpRel_fact [62] (66) ((OwnF wJ.heap.size IT (xs.take (IT * 6)))) (by kernel_rfl) rfl rfl ((OwnF.steady _ _ _)) (by first | exact rfl | go_simp) (fun p => ?_) ?_)
              · (try simp only [pickR, pickR_nil, fillR, List.contains_cons, List.contains_nil, Nat.reduceBEq, Bool.or_false, Bool.or_true, Bool.true_or, Bool.false_or, if_true, if_false, Bool.false_eq_true])
                rintro u ⟨b62, h62, rfl, z62⟩
                refine wpList_append_fresh _ rfl _ _ 23 rfl 25 i0 (.agg #[.int .i64 0, .bool false, .int .i64 0, .float .f64 0, .string ByteArray.empty, .slice none 0 0]) 6 72 Try.underlying23 hi0 hz0 hz1 hz2 rfl (by decide) b62 rfl 25 rfl z62 wJ.heap.size h62 (some ⟨g, 0, none⟩) IT cap (xs.take (IT * 6)) rfl (fun h => by cases h) hlowl.out (fun ad had j u hu => by cases had; rw [insAdd, Nat.zero_add]; exact (p.h.cell (p := ⟨g, j, none⟩) hgl).trans (hcellsh.out j u hu)) (fun u hu => hones.out u (List.mem_of_mem_take hu)) (by unfold maxLen; omega) (by omega) ?_
                intro v' w' hown hb
                exact ⟨fun h => absurd h (by decide), rfl, rfl, hb, hown⟩
              iterate 9 (((with_reducible refine wpRel_none (by kernel_rfl) (by kernel_rfl) ?_); intro K hK; go_simp; first | (with_reducible refine hK _ ?_; clear hK K) | (apply Exists.intro; (with_reducible refine ⟨fun _ => ⟨?_, _, rfl⟩, hK _ ?_⟩); (· exact rfl); clear hK K) | (apply Exists.intro; (with_reducible refine ⟨fun _ => ?_, hK _ ?_⟩); (· (with_reducible (fail))); clear hK K)))
              ((with_reducible refine wpRel_fact [] (76) (RowAt (wJ.heap.size) (#[.int .i64 kk, .bool kb, .int .i64 kn, .float .f64 kf, .string (st ks), .slice kB klen kc, .int .i64 vk, .bool vb, .int .i64 vn, .float .f64 vf, .string (st vs), .slice vB vlen vc]) (25) (2)) (by kernel_rfl) rfl rfl (RowAt.steady _ _ _ _) (by first | exact rfl | go_simp) ?_ ?_); (· intro p; rw [pickR_nil]; (simp only [fillR]); go_wp2_with fail; exact row_post p.h.size rfl rfl))
              iterate 3 (((with_reducible refine wpRel_none (by kernel_rfl) (by kernel_rfl) ?_); intro K hK; go_simp; first | (with_reducible refine hK _ ?_; clear hK K) | (apply Exists.intro; (with_reducible refine ⟨fun _ => ⟨?_, _, rfl⟩, hK _ ?_⟩); (· exact rfl); clear hK K) | (apply Exists.intro; (with_reducible refine ⟨fun _ => ?_, hK _ ?_⟩); (· (with_reducible (fail))); clear hK K)))
              ((with_reducible refine wpRel_nil ?_); intro p; (simp only [fillR]))
              rintro u76 ⟨b76, h76, rfl, z76⟩ u66 hown66 u62 ⟨b62, h62, rfl, z62⟩ -
              have hr1 := (p.h.block _ (Array.getElem?_eq_some_iff.1 hresh.out).1).trans hresh.out
              have hbP : Below wJ.heap.size wJ p.w := p.h
              have hbS := hbP.size
              have hbwP : Below w.heap.size w p.w := hbwJ.trans (p.h.mono hbwJ.size)
              generalize p.w = wp at *
              clear p z62
              unfold OwnF at hown66
              have z76 := Lib.hid z76
              obtain ⟨A66, c66, hv66, _, _⟩ := own_form hown66
              subst hv66
              have d1 : ∀ (j : Nat) (u : Value), (valC kk kb kn kf ks kB klen kc ++ valC vk vb vn vf vs vB vlen vc)[j]? = some u → wp.cell? ((⟨b76, 0, none⟩ : Addr).add j) = some u := fun j u hu => by
                rw [insAdd, Nat.zero_add, cell_of z76.out j]
                simpa using hu
              have d2 : ∀ u ∈ valC kk kb kn kf ks kB klen kc ++ valC vk vb vn vf vs vB vlen vc, u.oneCell' = true := fun u hu => by rcases List.mem_append.1 hu with h | h <;> exact valC_one _ _ _ _ _ _ _ _ u h
              have d3 : IT + 2 ≤ maxLen := by unfold maxLen; omega
              have d4 : (IT + 2) * 72 ≤ 140737488355328 := by omega
              have d1 := Lib.hid d1
              have d2 := Lib.hid d2
              have d3 := Lib.hid d3
              have d4 := Lib.hid d4
              have hown66h := Lib.hid hown66
              clear hown66
              go_wp2_with (at_builtin; refine wpList_append_own _ rfl _ _ 23 rfl wJ.heap.size 25 i0 (.agg #[.int .i64 0, .bool false, .int .i64 0, .float .f64 0, .string ByteArray.empty, .slice none 0 0]) 6 72 Try.underlying23 hi0 hz0 hz1 hz2 rfl (by decide) _ _ _ rfl hown66h.out ⟨b76, 0, none⟩ 2 2 (valC kk kb kn kf ks kB klen kc ++ valC vk vb vn vf vs vB vlen vc) rfl rfl d1.out d2.out d3.out d4.out hbS ?_)
              have hown66 := hown66h.out
              clear hown66h d1 d2 d3 d4
              intro v7 w7 hown7 hgrow7 _
              have hb7 : Below wJ.heap.size wJ w7 := hbP.grown hgrow7 hbS fun k hk => (hown66.lt k hk).1
              have hr7 := (hb7.block _ (Array.getElem?_eq_some_iff.1 hresh.out).1).trans hresh.out
              have hbS7 := hb7.size
              have hbw7 : Below w.heap.size w w7 := hbwJ.trans (hb7.mono hbwJ.size)
              obtain ⟨A7, c7, hv7, _, _⟩ := own_form hown7
              subst hv7
              clear hown66 hgrow7 hbP hr1 hbwP z76
              have e0 : (xs.drop (IT * 6)).length = (n - IT) * 6 := by rw [List.length_drop, hxlh.out, Nat.sub_mul]
              have e1 : ∀ (j : Nat) (u : Value), (xs.drop (IT * 6))[j]? = some u → w7.cell? ((⟨g, IT * 6, none⟩ : Addr).add j) = some u := fun j u hu => by
                rw [insAdd]
                exact (hb7.cell (p := ⟨g, IT * 6 + j, none⟩) hgl).trans (hresth.out j u hu)
              have e2 : ∀ u ∈ xs.drop (IT * 6), u.oneCell' = true := fun u hu => hones.out u (List.mem_of_mem_drop hu)
              have e3 : IT + 2 + (n - IT) ≤ maxLen := by unfold maxLen; omega
              have e4 : (IT + 2 + (n - IT)) * 72 ≤ 140737488355328 := by omega
              have e0 := Lib.hid e0
              have e1 := Lib.hid e1
              have e2 := Lib.hid e2
              have e3 := Lib.hid e3
              have e4 := Lib.hid e4
              have hown7h := Lib.hid hown7
              clear hown7
              go_wp2_with (at_builtin; refine wpList_append_own _ rfl _ _ 23 rfl wJ.heap.size 25 i0 (.agg #[.int .i64 0, .bool false, .int .i64 0, .float .f64 0, .string ByteArray.empty, .slice none 0 0]) 6 72 Try.underlying23 hi0 hz0 hz1 hz2 rfl (by decide) _ _ _ rfl hown7h.out ⟨g, IT * 6, none⟩ (n - IT) _ (xs.drop (IT * 6)) rfl e0.out e1.out e2.out e3.out e4.out hbS7 ?_)
              have hown7 := hown7h.out
              clear hown7h e0 e1 e2 e3 e4
              intro v8 w8 hown8 hgrow8 _
              try simp only [Nat.add_zero, List.append_nil] at hown8
              have hb8 : Below wJ.heap.size wJ w8 := hb7.grown hgrow8 hbS7 fun k hk => (hown7.lt k hk).1
              have hr8 := (hb8.block _ (Array.getElem?_eq_some_iff.1 hresh.out).1).trans hresh.out
              have hbw8 : Below w.heap.size w w8 := hbwJ.trans (hb8.mono hbwJ.size)
              obtain ⟨g8, c8, hv8, _, _, _, _⟩ := own_some hown8 (by omega)
              subst hv8
              have hbSw := hbwJ.size
              have ho8 := World.ownsRow.mono hown8 (show w.heap.size + 1 ≤ wJ.heap.size by have := (Array.getElem?_eq_some_iff.1 hresh.out).1; omega)
              have hF : Hid (∃ p1, i + 2 = 2 * p1 ∧ RMapSt w w8 (.slice (some ⟨g8, 0, none⟩) (IT + 2 + (n - IT)) c8) (IT + 2 + (n - IT)) (mapQ (pairAt l) p1)) := Lib.hid ⟨p0 + 1, by have := hip'.out; omega, ⟨_, ho8, by rw [hMAPh.out]; first | exact hVRh.out | simpa [List.append_assoc] using hVRh.out, hr8⟩⟩
              have w3 : IntKind.i64.wrap ((i : Int) + 2) = (i : Int) + 2 := by rw [wrap_i64]; omega
              clear ho8 hown8 hgrow8 hown7 hr8 hr7 hb8 hb7 hbw7
              go_wp2_with fail
              exact ⟨⟨i + 2, (IT + 2 + (n - IT)), g8, c8, by simp, by simp, by omega, hF.out, hbw8⟩, by simp [intOf]; omega⟩
          · have hITn' : ¬ (IT : Int) < n := by omega
            have hMAP : mapQ (pairAt l) (p0 + 1) = ps.take q ++ (key, val) :: ps.drop q := by
              have e : q = ps.length := by have h1 := hE.out; have h2 := hITh.out; omega
              rw [hmap, insQ_end fun t x ht hx => hlowh.out t x (by omega) hx, e, List.take_length, List.drop_length]
            have hnI : IT = n := by omega
            subst hnI
            by_cases hcc : IT = cap
            · subst hcc
              go_upto_region 6 with fail
              (refine wp_region_flow [] (by kernel_rfl) (by kernel_rfl) ?_; (repeat (((with_reducible refine wpFlow_steps ?_); intro K hK; go_simp; first | (with_reducible refine hK _ ?_; clear hK K) | (apply Exists.intro; (with_reducible refine ⟨fun _ => ⟨?_, _, rfl⟩, hK _ ?_⟩); (· exact rfl); clear hK K) | (apply Exists.intro; (with_reducible refine ⟨fun _ => ⟨_, rfl⟩, hK _ ?_⟩); clear hK K) | (apply Exists.intro; (with_reducible refine ⟨fun _ => ?_, hK _ ?_⟩); (· (with_reducible (fail))); clear hK K)))); (refine wpFlow_nil ?_; rintro w1 ⟨q0, hq0⟩; have hb := In.h q0; rw [← hq0] at hb; clear hq0 q0; (first | ((with_reducible obtain ⟨p, hw''⟩ := In.of2 p hb); subst hw'') | (obtain ⟨p, hw''⟩ := In.of hb; subst hw'')); go_simp; intros))
              have hownJ := own_stays hownI p.h
              have hresJ := (p.h.block _ (Array.getElem?_eq_some_iff.1 hresI).1).trans hresI
              have hbwJ : Below w.heap.size w p.w := hbwI.trans (p.h.mono hbwI.size)
              have hkeyJ := (hkeyO.keep hbI).keep p.h
              have hvalJ := (hvalO.keep hbI).keep p.h
              generalize p.w = wJ at *
              clear y6 y0 y1 y2 y3 y4 y5 hkxI
              obtain ⟨y6, y0, y1, y2, y3, y4, y5⟩ := hkeyJ
              obtain ⟨z6, z0, z1, z2, z3, z4, z5⟩ := hvalJ
              have hVR : VRow w (flatP (ps.take q ++ (key, val) :: ps.drop q)) (xs.take (IT * 6) ++ (valC kk kb kn kf ks kB klen kc ++ valC vk vb vn vf vs vB vlen vc) ++ xs.drop (IT * 6)) := by
                have hle : IT ≤ (flatP ps).length := by rw [flatP_len, hITh.out]; omega
                have h := hvr.insert ((VRow.single hkx).snoc hvx) IT hle
                rw [hITh.out, flatP_take ps q hqp, flatP_drop ps q hqp, ← hITh.out] at h
                have e : flatP (ps.take q) ++ ([key] ++ [val]) ++ flatP (ps.drop q) = flatP (ps.take q ++ (key, val) :: ps.drop q) := by rw [flatP_append, List.append_assoc]; rfl
                rw [← e]
                exact h
              have hlow1 := own_fewer hownJ hIT
              have hcells : ∀ j u, (xs.take (IT * 6))[j]? = some u → wJ.cell? ⟨g, j, none⟩ = some u := fun j u hu => by
                have := hlow1.cells (g := g) rfl j u hu
                rwa [insAdd, Nat.zero_add] at this
              have hxl := hownJ.1
              have hrest : ∀ j u, (xs.drop (IT * 6))[j]? = some u → wJ.cell? ⟨g, 0 + j, none⟩ = some u := fun j u hu => by
                have hjl := (List.getElem?_eq_some_iff.1 hu).1
                rw [List.length_drop] at hjl
                rw [List.getElem?_drop] at hu
                exfalso; omega
              have hgl := (hownJ.lt g rfl).2
              have hresh := Lib.hid hresJ
              have hdrop : xs.drop (IT * 6) = [] := List.drop_eq_nil_of_le (by rw [hxl]; omega)
              rw [hdrop, List.append_nil] at hVR
              have hVRh := Lib.hid hVR
              have hMAPh := Lib.hid hMAP
              have hones := Lib.hid (VRow.one hvr)
              have hcellsh := Lib.hid hcells
              have hresth := Lib.hid hrest
              have hlowl := Lib.hid hlow1.1
              have hxlh := Lib.hid hxl
              clear hownJ hresJ hVR hMAP hownI hresI hown hres hmap hps hvr hkeyO hvalO hkxO hbI hbr hcells hrest hlow1 hxl
              go_upto_region 13 with fail
              (refine wp_region_swq (15) (3) (18) [.slice (some ⟨g, 0, none⟩) IT IT, .int .i64 IT, .slice (some ⟨g, 0, none⟩) 0 0] [62, 66, 76] [] (by kernel_rfl) (by kernel_rfl) (by kernel_rfl) (by kernel_rfl) (by kernel_rfl) (by kernel_rfl) (by kernel_rfl) (by kernel_rfl) (fun _ _ _ _ _ h => h) ?_ ?_; (simp only [List.drop_succ_cons, List.drop_zero, List.take_succ_cons, List.take_zero, YieldsD]); rotate_left; intro ops; (simp only [swL, reN, wtL, wtO, List.take_succ_cons, List.take_zero, List.drop_succ_cons, List.drop_zero, List.map_cons, List.map_nil, List.cons_append, List.nil_append, List.append_nil]); rotate_right)
              · refine ⟨rfl, mute_op (.inl ⟨_, rfl⟩), fun w => ?_, rfl, mute_op (.inl ⟨_, rfl⟩), fun w => ?_, rfl, mute_op (.inr ⟨_, _, _, _, _, _, _, rfl, rfl⟩), fun w => ?_, trivial⟩
                · go_simp
                · go_simp
                · go_simp
              ((with_reducible refine wpRel_fact [] (62) (RowAt (wJ.heap.size) (#[]) (25) (0)) (by kernel_rfl) rfl rfl (RowAt.steady _ _ _ _) (by first | exact rfl | go_simp) ?_ ?_); (· intro p; rw [pickR_nil]; (simp only [fillR]); go_wp2_with fail; exact row_post p.h.size rfl rfl))
              ((with_reducible refine wpRel_none (by kernel_rfl) (by kernel_rfl) ?_); intro K hK; go_simp; first | (with_reducible refine hK _ ?_; clear hK K) | (apply Exists.intro; (with_reducible refine ⟨fun _ => ⟨?_, _, rfl⟩, hK _ ?_⟩); (· exact rfl); clear hK K) | (apply Exists.intro; (with_reducible refine ⟨fun _ => ?_, hK _ ?_⟩); (· (with_reducible (fail))); clear hK K))
              ((with_reducible refine wpRel_none (by kernel_rfl) (by kernel_rfl) ?_); intro K hK; go_simp; first | (with_reducible refine hK _ ?_; clear hK K) | (apply Exists.intro; (with_reducible refine ⟨fun _ => ⟨?_, _, rfl⟩, hK _ ?_⟩); (· exact rfl); clear hK K) | (apply Exists.intro; (with_reducible refine ⟨fun _ => ?_, hK _ ?_⟩); (· (with_reducible (fail))); clear hK K))
              ((with_reducible refine wpRel_none (by kernel_rfl) (by kernel_rfl) ?_); intro K hK; go_simp; first | (with_reducible refine hK _ ?_; clear hK K) | (apply Exists.intro; (with_reducible refine ⟨fun _ => ⟨?_, _, rfl⟩, hK _ ?_⟩); (· exact rfl); clear hK K) | (apply Exists.intro; (with_reducible refine ⟨fun _ => ?_, hK _ ?_⟩); (· (with_reducible (fail))); clear hK K))
              (with_reducible refine wpRel_fact [62] (66) ((OwnF wJ.heap.size IT (xs.take (IT * 6)))) (by kernel_rfl) rfl rfl ((OwnF.steady _ _ _)) (by first | exact rfl | go_simp) (fun p => ?_) ?_)
              · (try simp only [pickR, pickR_nil, fillR, List.contains_cons, List.contains_nil, Nat.reduceBEq, Bool.or_false, Bool.or_true, Bool.true_or, Bool.false_or, if_true, if_false, Bool.false_eq_true])
                rintro u ⟨b62, h62, rfl, z62⟩
                refine wpList_append_fresh _ rfl _ _ 23 rfl 25 i0 (.agg #[.int .i64 0, .bool false, .int .i64 0, .float .f64 0, .string ByteArray.empty, .slice none 0 0]) 6 72 Try.underlying23 hi0 hz0 hz1 hz2 rfl (by decide) b62 rfl 25 rfl z62 wJ.heap.size h62 (some ⟨g, 0, none⟩) IT IT (xs.take (IT * 6)) rfl (fun h => by cases h) hlowl.out (fun ad had j u hu => by cases had; rw [insAdd, Nat.zero_add]; exact (p.h.cell (p := ⟨g, j, none⟩) hgl).trans (hcellsh.out j u hu)) (fun u hu => hones.out u (List.mem_of_mem_take hu)) (by unfold maxLen; omega) (by omega) ?_
                intro v' w' hown hb
                exact ⟨fun h => absurd h (by decide), rfl, rfl, hb, hown⟩
              iterate 9 (((with_reducible refine wpRel_none (by kernel_rfl) (by kernel_rfl) ?_); intro K hK; go_simp; first | (with_reducible refine hK _ ?_; clear hK K) | (apply Exists.intro; (with_reducible refine ⟨fun _ => ⟨?_, _, rfl⟩, hK _ ?_⟩); (· exact rfl); clear hK K) | (apply Exists.intro; (with_reducible refine ⟨fun _ => ?_, hK _ ?_⟩); (· (with_reducible (fail))); clear hK K)))
              ((with_reducible refine wpRel_fact [] (76) (RowAt (wJ.heap.size) (#[.int .i64 kk, .bool kb, .int .i64 kn, .float .f64 kf, .string (st ks), .slice kB klen kc, .int .i64 vk, .bool vb, .int .i64 vn, .float .f64 vf, .string (st vs), .slice vB vlen vc]) (25) (2)) (by kernel_rfl) rfl rfl (RowAt.steady _ _ _ _) (by first | exact rfl | go_simp) ?_ ?_); (· intro p; rw [pickR_nil]; (simp only [fillR]); go_wp2_with fail; exact row_post p.h.size rfl rfl))
              iterate 3 (((with_reducible refine wpRel_none (by kernel_rfl) (by kernel_rfl) ?_); intro K hK; go_simp; first | (with_reducible refine hK _ ?_; clear hK K) | (apply Exists.intro; (with_reducible refine ⟨fun _ => ⟨?_, _, rfl⟩, hK _ ?_⟩); (· exact rfl); clear hK K) | (apply Exists.intro; (with_reducible refine ⟨fun _ => ?_, hK _ ?_⟩); (· (with_reducible (fail))); clear hK K)))
              ((with_reducible refine wpRel_nil ?_); intro p; (simp only [fillR]))
              rintro u76 ⟨b76, h76, rfl, z76⟩ u66 hown66 u62 ⟨b62, h62, rfl, z62⟩ -
              have hr1 := (p.h.block _ (Array.getElem?_eq_some_iff.1 hresh.out).1).trans hresh.out
              have hbP : Below wJ.heap.size wJ p.w := p.h
              have hbS := hbP.size
              have hbwP : Below w.heap.size w p.w := hbwJ.trans (p.h.mono hbwJ.size)
              generalize p.w = wp at *
              clear p z62
              unfold OwnF at hown66
              have z76 := Lib.hid z76
              obtain ⟨A66, c66, hv66, _, _⟩ := own_form hown66
              subst hv66
              have d1 : ∀ (j : Nat) (u : Value), (valC kk kb kn kf ks kB klen kc ++ valC vk vb vn vf vs vB vlen vc)[j]? = some u → wp.cell? ((⟨b76, 0, none⟩ : Addr).add j) = some u := fun j u hu => by
                rw [insAdd, Nat.zero_add, cell_of z76.out j]
                simpa using hu
              have d2 : ∀ u ∈ valC kk kb kn kf ks kB klen kc ++ valC vk vb vn vf vs vB vlen vc, u.oneCell' = true := fun u hu => by rcases List.mem_append.1 hu with h | h <;> exact valC_one _ _ _ _ _ _ _ _ u h
              have d3 : IT + 2 ≤ maxLen := by unfold maxLen; omega
              have d4 : (IT + 2) * 72 ≤ 140737488355328 := by omega
              have d1 := Lib.hid d1
              have d2 := Lib.hid d2
              have d3 := Lib.hid d3
              have d4 := Lib.hid d4
              have hown66h := Lib.hid hown66
              clear hown66
              go_wp2_with (at_builtin; refine wpList_append_own _ rfl _ _ 23 rfl wJ.heap.size 25 i0 (.agg #[.int .i64 0, .bool false, .int .i64 0, .float .f64 0, .string ByteArray.empty, .slice none 0 0]) 6 72 Try.underlying23 hi0 hz0 hz1 hz2 rfl (by decide) _ _ _ rfl hown66h.out ⟨b76, 0, none⟩ 2 2 (valC kk kb kn kf ks kB klen kc ++ valC vk vb vn vf vs vB vlen vc) rfl rfl d1.out d2.out d3.out d4.out hbS ?_)
              have hown66 := hown66h.out
              clear hown66h d1 d2 d3 d4
              intro v7 w7 hown7 hgrow7 _
              have hb7 : Below wJ.heap.size wJ w7 := hbP.grown hgrow7 hbS fun k hk => (hown66.lt k hk).1
              have hr7 := (hb7.block _ (Array.getElem?_eq_some_iff.1 hresh.out).1).trans hresh.out
              have hbS7 := hb7.size
              have hbw7 : Below w.heap.size w w7 := hbwJ.trans (hb7.mono hbwJ.size)
              obtain ⟨A7, c7, hv7, _, _⟩ := own_form hown7
              subst hv7
              clear hown66 hgrow7 hbP hr1 hbwP z76
              have e0 : ([] : List Value).length = 0 * 6 := rfl
              have e1 : ∀ (j : Nat) (u : Value), ([] : List Value)[j]? = some u → w7.cell? ((⟨g, 0, none⟩ : Addr).add j) = some u := fun j u hu => by simp at hu
              have e2 : ∀ u ∈ ([] : List Value), u.oneCell' = true := fun u hu => by cases hu
              have e3 : IT + 2 + 0 ≤ maxLen := by unfold maxLen; omega
              have e4 : (IT + 2 + 0) * 72 ≤ 140737488355328 := by omega
              have e0 := Lib.hid e0
              have e1 := Lib.hid e1
              have e2 := Lib.hid e2
              have e3 := Lib.hid e3
              have e4 := Lib.hid e4
              have hown7h := Lib.hid hown7
              clear hown7
              go_wp2_with (at_builtin; refine wpList_append_own _ rfl _ _ 23 rfl wJ.heap.size 25 i0 (.agg #[.int .i64 0, .bool false, .int .i64 0, .float .f64 0, .string ByteArray.empty, .slice none 0 0]) 6 72 Try.underlying23 hi0 hz0 hz1 hz2 rfl (by decide) _ _ _ rfl hown7h.out ⟨g, 0, none⟩ 0 _ [] rfl e0.out e1.out e2.out e3.out e4.out hbS7 ?_)
              have hown7 := hown7h.out
              clear hown7h e0 e1 e2 e3 e4
              intro v8 w8 hown8 hgrow8 _
              try simp only [Nat.add_zero, List.append_nil] at hown8
              have hb8 : Below wJ.heap.size wJ w8 := hb7.grown hgrow8 hbS7 fun k hk => (hown7.lt k hk).1
              have hr8 := (hb8.block _ (Array.getElem?_eq_some_iff.1 hresh.out).1).trans hresh.out
              have hbw8 : Below w.heap.size w w8 := hbwJ.trans (hb8.mono hbwJ.size)
              obtain ⟨g8, c8, hv8, _, _, _, _⟩ := own_some hown8 (by omega)
              subst hv8
              have hbSw := hbwJ.size
              have ho8 := World.ownsRow.mono hown8 (show w.heap.size + 1 ≤ wJ.heap.size by have := (Array.getElem?_eq_some_iff.1 hresh.out).1; omega)
              have hF : Hid (∃ p1, i + 2 = 2 * p1 ∧ RMapSt w w8 (.slice (some ⟨g8, 0, none⟩) (IT + 2) c8) (IT + 2) (mapQ (pairAt l) p1)) := Lib.hid ⟨p0 + 1, by have := hip'.out; omega, ⟨_, ho8, by rw [hMAPh.out]; first | exact hVRh.out | simpa [List.append_assoc] using hVRh.out, hr8⟩⟩
              have w3 : IntKind.i64.wrap ((i : Int) + 2) = (i : Int) + 2 := by rw [wrap_i64]; omega
              clear ho8 hown8 hgrow8 hown7 hr8 hr7 hb8 hb7 hbw7
              go_wp2_with fail
              exact ⟨⟨i + 2, (IT + 2), g8, c8, by simp, by simp, by omega, hF.out, hbw8⟩, by simp [intOf]; omega⟩
            · have hcI : ¬ cap = IT := fun e => hcc e.symm
              have hIc : IT ≤ cap := by omega
              go_upto_region 6 with fail
              (refine wp_region_flow [] (by kernel_rfl) (by kernel_rfl) ?_; (repeat (((with_reducible refine wpFlow_steps ?_); intro K hK; go_simp; first | (with_reducible refine hK _ ?_; clear hK K) | (apply Exists.intro; (with_reducible refine ⟨fun _ => ⟨?_, _, rfl⟩, hK _ ?_⟩); (· exact rfl); clear hK K) | (apply Exists.intro; (with_reducible refine ⟨fun _ => ⟨_, rfl⟩, hK _ ?_⟩); clear hK K) | (apply Exists.intro; (with_reducible refine ⟨fun _ => ?_, hK _ ?_⟩); (· (with_reducible (fail))); clear hK K)))); (refine wpFlow_nil ?_; rintro w1 ⟨q0, hq0⟩; have hb := In.h q0; rw [← hq0] at hb; clear hq0 q0; (first | ((with_reducible obtain ⟨p, hw''⟩ := In.of2 p hb); subst hw'') | (obtain ⟨p, hw''⟩ := In.of hb; subst hw'')); go_simp; intros))
              have hownJ := own_stays hownI p.h
              have hresJ := (p.h.block _ (Array.getElem?_eq_some_iff.1 hresI).1).trans hresI
              have hbwJ : Below w.heap.size w p.w := hbwI.trans (p.h.mono hbwI.size)
              have hkeyJ := (hkeyO.keep hbI).keep p.h
              have hvalJ := (hvalO.keep hbI).keep p.h
              generalize p.w = wJ at *
              clear y6 y0 y1 y2 y3 y4 y5 hkxI
              obtain ⟨y6, y0, y1, y2, y3, y4, y5⟩ := hkeyJ
              obtain ⟨z6, z0, z1, z2, z3, z4, z5⟩ := hvalJ
              have hVR : VRow w (flatP (ps.take q ++ (key, val) :: ps.drop q)) (xs.take (IT * 6) ++ (valC kk kb kn kf ks kB klen kc ++ valC vk vb vn vf vs vB vlen vc) ++ xs.drop (IT * 6)) := by
                have hle : IT ≤ (flatP ps).length := by rw [flatP_len, hITh.out]; omega
                have h := hvr.insert ((VRow.single hkx).snoc hvx) IT hle
                rw [hITh.out, flatP_take ps q hqp, flatP_drop ps q hqp, ← hITh.out] at h
                have e : flatP (ps.take q) ++ ([key] ++ [val]) ++ flatP (ps.drop q) = flatP (ps.take q ++ (key, val) :: ps.drop q) := by rw [flatP_append, List.append_assoc]; rfl
                rw [← e]
                exact h
              have hlow1 := own_fewer hownJ hIT
              have hcells : ∀ j u, (xs.take (IT * 6))[j]? = some u → wJ.cell? ⟨g, j, none⟩ = some u := fun j u hu => by
                have := hlow1.cells (g := g) rfl j u hu
                rwa [insAdd, Nat.zero_add] at this
              have hxl := hownJ.1
              have hrest : ∀ j u, (xs.drop (IT * 6))[j]? = some u → wJ.cell? ⟨g, IT * 6 + j, none⟩ = some u := fun j u hu => by
                have hjl := (List.getElem?_eq_some_iff.1 hu).1
                rw [List.length_drop] at hjl
                rw [List.getElem?_drop] at hu
                exact (hownJ.cellAt _ (by omega)).trans hu
              have hgl := (hownJ.lt g rfl).2
              have hresh := Lib.hid hresJ
              have hdrop : xs.drop (IT * 6) = [] := List.drop_eq_nil_of_le (by rw [hxl]; omega)
              rw [hdrop, List.append_nil] at hVR
              have hVRh := Lib.hid hVR
              have hMAPh := Lib.hid hMAP
              have hones := Lib.hid (VRow.one hvr)
              have hcellsh := Lib.hid hcells
              have hresth := Lib.hid hrest
              have hlowl := Lib.hid hlow1.1
              have hxlh := Lib.hid hxl
              clear hownJ hresJ hVR hMAP hownI hresI hown hres hmap hps hvr hkeyO hvalO hkxO hbI hbr hcells hrest hlow1 hxl
              go_upto_region 13 with fail
              (refine wp_region_swq (15) (3) (18) [.slice (some ⟨g, 0, none⟩) IT cap, .int .i64 IT, .slice (some ⟨g, IT * 6, none⟩) 0 (cap - IT)] [62, 66, 76] [] (by kernel_rfl) (by kernel_rfl) (by kernel_rfl) (by kernel_rfl) (by kernel_rfl) (by kernel_rfl) (by kernel_rfl) (by kernel_rfl) (fun _ _ _ _ _ h => h) ?_ ?_; (simp only [List.drop_succ_cons, List.drop_zero, List.take_succ_cons, List.take_zero, YieldsD]); rotate_left; intro ops; (simp only [swL, reN, wtL, wtO, List.take_succ_cons, List.take_zero, List.drop_succ_cons, List.drop_zero, List.map_cons, List.map_nil, List.cons_append, List.nil_append, List.append_nil]); rotate_right)
              · refine ⟨rfl, mute_op (.inl ⟨_, rfl⟩), fun w => ?_, rfl, mute_op (.inl ⟨_, rfl⟩), fun w => ?_, rfl, mute_op (.inr ⟨_, _, _, _, _, _, _, rfl, rfl⟩), fun w => ?_, trivial⟩
                · go_simp
                · go_simp
                · go_simp
              ((with_reducible refine wpRel_fact [] (62) (RowAt (wJ.heap.size) (#[]) (25) (0)) (by kernel_rfl) rfl rfl (RowAt.steady _ _ _ _) (by first | exact rfl | go_simp) ?_ ?_); (· intro p; rw [pickR_nil]; (simp only [fillR]); go_wp2_with fail; exact row_post p.h.size rfl rfl))
              ((with_reducible refine wpRel_none (by kernel_rfl) (by kernel_rfl) ?_); intro K hK; go_simp; first | (with_reducible refine hK _ ?_; clear hK K) | (apply Exists.intro; (with_reducible refine ⟨fun _ => ⟨?_, _, rfl⟩, hK _ ?_⟩); (· exact rfl); clear hK K) | (apply Exists.intro; (with_reducible refine ⟨fun _ => ?_, hK _ ?_⟩); (· (with_reducible (fail))); clear hK K))
              ((with_reducible refine wpRel_none (by kernel_rfl) (by kernel_rfl) ?_); intro K hK; go_simp; first | (with_reducible refine hK _ ?_; clear hK K) | (apply Exists.intro; (with_reducible refine ⟨fun _ => ⟨?_, _, rfl⟩, hK _ ?_⟩); (· exact rfl); clear hK K) | (apply Exists.intro; (with_reducible refine ⟨fun _ => ?_, hK _ ?_⟩); (· (with_reducible (fail))); clear hK K))
              ((with_reducible refine wpRel_none (by kernel_rfl) (by kernel_rfl) ?_); intro K hK; go_simp; first | (with_reducible refine hK _ ?_; clear hK K) | (apply Exists.intro; (with_reducible refine ⟨fun _ => ⟨?_, _, rfl⟩, hK _ ?_⟩); (· exact rfl); clear hK K) | (apply Exists.intro; (with_reducible refine ⟨fun _ => ?_, hK _ ?_⟩); (· (with_reducible (fail))); clear hK K))
              (with_reducible refine wpRel_fact [62] (66) ((OwnF wJ.heap.size IT (xs.take (IT * 6)))) (by kernel_rfl) rfl rfl ((OwnF.steady _ _ _)) (by first | exact rfl | go_simp) (fun p => ?_) ?_)
              · (try simp only [pickR, pickR_nil, fillR, List.contains_cons, List.contains_nil, Nat.reduceBEq, Bool.or_false, Bool.or_true, Bool.true_or, Bool.false_or, if_true, if_false, Bool.false_eq_true])
                rintro u ⟨b62, h62, rfl, z62⟩
                refine wpList_append_fresh _ rfl _ _ 23 rfl 25 i0 (.agg #[.int .i64 0, .bool false, .int .i64 0, .float .f64 0, .string ByteArray.empty, .slice none 0 0]) 6 72 Try.underlying23 hi0 hz0 hz1 hz2 rfl (by decide) b62 rfl 25 rfl z62 wJ.heap.size h62 (some ⟨g, 0, none⟩) IT cap (xs.take (IT * 6)) rfl (fun h => by cases h) hlowl.out (fun ad had j u hu => by cases had; rw [insAdd, Nat.zero_add]; exact (p.h.cell (p := ⟨g, j, none⟩) hgl).trans (hcellsh.out j u hu)) (fun u hu => hones.out u (List.mem_of_mem_take hu)) (by unfold maxLen; omega) (by omega) ?_
                intro v' w' hown hb
                exact ⟨fun h => absurd h (by decide), rfl, rfl, hb, hown⟩
              iterate 9 (((with_reducible refine wpRel_none (by kernel_rfl) (by kernel_rfl) ?_); intro K hK; go_simp; first | (with_reducible refine hK _ ?_; clear hK K) | (apply Exists.intro; (with_reducible refine ⟨fun _ => ⟨?_, _, rfl⟩, hK _ ?_⟩); (· exact rfl); clear hK K) | (apply Exists.intro; (with_reducible refine ⟨fun _ => ?_, hK _ ?_⟩); (· (with_reducible (fail))); clear hK K)))
              ((with_reducible refine wpRel_fact [] (76) (RowAt (wJ.heap.size) (#[.int .i64 kk, .bool kb, .int .i64 kn, .float .f64 kf, .string (st ks), .slice kB klen kc, .int .i64 vk, .bool vb, .int .i64 vn, .float .f64 vf, .string (st vs), .slice vB vlen vc]) (25) (2)) (by kernel_rfl) rfl rfl (RowAt.steady _ _ _ _) (by first | exact rfl | go_simp) ?_ ?_); (· intro p; rw [pickR_nil]; (simp only [fillR]); go_wp2_with fail; exact row_post p.h.size rfl rfl))
              iterate 3 (((with_reducible refine wpRel_none (by kernel_rfl) (by kernel_rfl) ?_); intro K hK; go_simp; first | (with_reducible refine hK _ ?_; clear hK K) | (apply Exists.intro; (with_reducible refine ⟨fun _ => ⟨?_, _, rfl⟩, hK _ ?_⟩); (· exact rfl); clear hK K) | (apply Exists.intro; (with_reducible refine ⟨fun _ => ?_, hK _ ?_⟩); (· (with_reducible (fail))); clear hK K)))
              ((with_reducible refine wpRel_nil ?_); intro p; (simp only [fillR]))
              rintro u76 ⟨b76, h76, rfl, z76⟩ u66 hown66 u62 ⟨b62, h62, rfl, z62⟩ -
              have hr1 := (p.h.block _ (Array.getElem?_eq_some_iff.1 hresh.out).1).trans hresh.out
              have hbP : Below wJ.heap.size wJ p.w := p.h
              have hbS := hbP.size
              have hbwP : Below w.heap.size w p.w := hbwJ.trans (p.h.mono hbwJ.size)
              generalize p.w = wp at *
              clear p z62
              unfold OwnF at hown66
              have z76 := Lib.hid z76
              obtain ⟨A66, c66, hv66, _, _⟩ := own_form hown66
              subst hv66
              have d1 : ∀ (j : Nat) (u : Value), (valC kk kb kn kf ks kB klen kc ++ valC vk vb vn vf vs vB vlen vc)[j]? = some u → wp.cell? ((⟨b76, 0, none⟩ : Addr).add j) = some u := fun j u hu => by
                rw [insAdd, Nat.zero_add, cell_of z76.out j]
                simpa using hu
              have d2 : ∀ u ∈ valC kk kb kn kf ks kB klen kc ++ valC vk vb vn vf vs vB vlen vc, u.oneCell' = true := fun u hu => by rcases List.mem_append.1 hu with h | h <;> exact valC_one _ _ _ _ _ _ _ _ u h
              have d3 : IT + 2 ≤ maxLen := by unfold maxLen; omega
              have d4 : (IT + 2) * 72 ≤ 140737488355328 := by omega
              have d1 := Lib.hid d1
              have d2 := Lib.hid d2
              have d3 := Lib.hid d3
              have d4 := Lib.hid d4
              have hown66h := Lib.hid hown66
              clear hown66
              go_wp2_with (at_builtin; refine wpList_append_own _ rfl _ _ 23 rfl wJ.heap.size 25 i0 (.agg #[.int .i64 0, .bool false, .int .i64 0, .float .f64 0, .string ByteArray.empty, .slice none 0 0]) 6 72 Try.underlying23 hi0 hz0 hz1 hz2 rfl (by decide) _ _ _ rfl hown66h.out ⟨b76, 0, none⟩ 2 2 (valC kk kb kn kf ks kB klen kc ++ valC vk vb vn vf vs vB vlen vc) rfl rfl d1.out d2.out d3.out d4.out hbS ?_)
              have hown66 := hown66h.out
              clear hown66h d1 d2 d3 d4
              intro v7 w7 hown7 hgrow7 _
              have hb7 : Below wJ.heap.size wJ w7 := hbP.grown hgrow7 hbS fun k hk => (hown66.lt k hk).1
              have hr7 := (hb7.block _ (Array.getElem?_eq_some_iff.1 hresh.out).1).trans hresh.out
              have hbS7 := hb7.size
              have hbw7 : Below w.heap.size w w7 := hbwJ.trans (hb7.mono hbwJ.size)
              obtain ⟨A7, c7, hv7, _, _⟩ := own_form hown7
              subst hv7
              clear hown66 hgrow7 hbP hr1 hbwP z76
              have e0 : ([] : List Value).length = 0 * 6 := rfl
              have e1 : ∀ (j : Nat) (u : Value), ([] : List Value)[j]? = some u → w7.cell? ((⟨g, IT * 6, none⟩ : Addr).add j) = some u := fun j u hu => by simp at hu
              have e2 : ∀ u ∈ ([] : List Value), u.oneCell' = true := fun u hu => by cases hu
              have e3 : IT + 2 + 0 ≤ maxLen := by unfold maxLen; omega
              have e4 : (IT + 2 + 0) * 72 ≤ 140737488355328 := by omega
              have e0 := Lib.hid e0
              have e1 := Lib.hid e1
              have e2 := Lib.hid e2
              have e3 := Lib.hid e3
              have e4 := Lib.hid e4
              have hown7h := Lib.hid hown7
              clear hown7
              go_wp2_with (at_builtin; refine wpList_append_own _ rfl _ _ 23 rfl wJ.heap.size 25 i0 (.agg #[.int .i64 0, .bool false, .int .i64 0, .float .f64 0, .string ByteArray.empty, .slice none 0 0]) 6 72 Try.underlying23 hi0 hz0 hz1 hz2 rfl (by decide) _ _ _ rfl hown7h.out ⟨g, IT * 6, none⟩ 0 _ [] rfl e0.out e1.out e2.out e3.out e4.out hbS7 ?_)
              have hown7 := hown7h.out
              clear hown7h e0 e1 e2 e3 e4
              intro v8 w8 hown8 hgrow8 _
              try simp only [Nat.add_zero, List.append_nil] at hown8
              have hb8 : Below wJ.heap.size wJ w8 := hb7.grown hgrow8 hbS7 fun k hk => (hown7.lt k hk).1
              have hr8 := (hb8.block _ (Array.getElem?_eq_some_iff.1 hresh.out).1).trans hresh.out
              have hbw8 : Below w.heap.size w w8 := hbwJ.trans (hb8.mono hbwJ.size)
              obtain ⟨g8, c8, hv8, _, _, _, _⟩ := own_some hown8 (by omega)
              subst hv8
              have hbSw := hbwJ.size
              have ho8 := World.ownsRow.mono hown8 (show w.heap.size + 1 ≤ wJ.heap.size by have := (Array.getElem?_eq_some_iff.1 hresh.out).1; omega)
              have hF : Hid (∃ p1, i + 2 = 2 * p1 ∧ RMapSt w w8 (.slice (some ⟨g8, 0, none⟩) (IT + 2) c8) (IT + 2) (mapQ (pairAt l) p1)) := Lib.hid ⟨p0 + 1, by have := hip'.out; omega, ⟨_, ho8, by rw [hMAPh.out]; first | exact hVRh.out | simpa [List.append_assoc] using hVRh.out, hr8⟩⟩
              have w3 : IntKind.i64.wrap ((i : Int) + 2) = (i : Int) + 2 := by rw [wrap_i64]; omega
              clear ho8 hown8 hgrow8 hown7 hr8 hr7 hb8 hb7 hbw7
              go_wp2_with fail
              exact ⟨⟨i + 2, (IT + 2), g8, c8, by simp, by simp, by omega, hF.out, hbw8⟩, by simp [intOf]; omega⟩
    · have hil' : ¬ (i : Int) + 1 < l.length := by omega
      obtain ⟨p0, hip, xs, hown, hvr, hres⟩ := hst.out
      have hpe : p0 = l.length / 2 := by omega
      subst hpe
      obtain ⟨_, _, hvA, hnc, hcm⟩ := own_form hown
      simp only [Value.slice.injEq, true_and] at hvA
      obtain ⟨-, rfl⟩ := hvA
      have q := fun j => frozen_of hres j
      have r := fun j => cell_of hres j
      have gl := (Array.getElem?_eq_some_iff.1 hres).1
      have hown' := Lib.hid hown
      have hvr' := Lib.hid hvr
      have hresh := Lib.hid hres
      clear hown hvr hres hst hip hp
      go_wp2_with fail
      obtain ⟨wf, hwf⟩ : ∃ wf, wf = (((((wr.setCell ⟨w.heap.size, 0, none⟩ (.int .i64 6)).setCell ⟨w.heap.size, 1, none⟩ (.bool false)).setCell ⟨w.heap.size, 2, none⟩ (.int .i64 0)).setCell ⟨w.heap.size, 3, none⟩ (.float .f64 0)).setCell ⟨w.heap.size, 4, none⟩ (.string (st []))).setCell ⟨w.heap.size, 5, none⟩ (.slice (some ⟨g, 0, none⟩) n cap) := ⟨_, rfl⟩
      try rw [← hwf]
      try (change bodyPost _ _ _ _ _ (((((wr.setCell ⟨w.heap.size, 0, none⟩ (.int .i64 6)).setCell ⟨w.heap.size, 1, none⟩ (.bool false)).setCell ⟨w.heap.size, 2, none⟩ (.int .i64 0)).setCell ⟨w.heap.size, 3, none⟩ (.float .f64 0)).setCell ⟨w.heap.size, 4, none⟩ (.string (st []))).setCell ⟨w.heap.size, 5, none⟩ (.slice (some ⟨g, 0, none⟩) n cap); rw [← hwf])
      have zf : wf.heap[w.heap.size]? = some (.cells (map6 (.slice (some ⟨g, 0, none⟩) n cap)) 25) := hwf ▸ set6_all hresh.out
      have of := hwf ▸ own_aside (own_aside (own_aside (own_aside (own_aside (own_aside hown'.out (by omega)) (by omega)) (by omega)) (by omega)) (by omega)) (by omega)
      have bf : Below w.heap.size w wf := hwf ▸ (((((hbr.setCell (p := ⟨w.heap.size, 0, none⟩) (Nat.le_refl _) _).setCell (p := ⟨w.heap.size, 1, none⟩) (Nat.le_refl _) _).setCell (p := ⟨w.heap.size, 2, none⟩) (Nat.le_refl _) _).setCell (p := ⟨w.heap.size, 3, none⟩) (Nat.le_refl _) _).setCell (p := ⟨w.heap.size, 4, none⟩) (Nat.le_refl _) _).setCell (p := ⟨w.heap.size, 5, none⟩) (Nat.le_refl _) _
      have hn2 : n = (flatP (mapQ (pairAt l) (l.length / 2))).length := by have h1 := of.1; have h2 := hvr'.out.1; omega
      have hHas : Has wf (valV 6 false 0 0 [] (some ⟨g, 0, none⟩) n cap) (.mk 6 false 0 0 [] (flatP (mapQ (pairAt l) (l.length / 2)))) := by
        subst hn2
        obtain ⟨A', cap', e, hP, _⟩ := Parts.ofRow of (hvr'.out.keep bf)
        cases e
        have hln : (flatP (mapQ (pairAt l) (l.length / 2))).length ≤ 1000 := by have := mapQ_len (pairAt l) (l.length / 2); rw [flatP_len]; omega
        exact Has.ofParts hP ⟨by omega, by omega⟩ ⟨by omega, by omega⟩ ⟨by omega⟩ (by simp) (by omega) hnc hcm
      have cf := fun j => cell_of zf j
      have lf := (Array.getElem?_eq_some_iff.1 zf).1
      clear hwf zf of hn2 q r gl
      exact bodyPost_ret (v := valV 6 false 0 0 [] (some ⟨g, 0, none⟩) n cap) (by simp only [results, Try.results39]; go_simp) rfl (by rw [hGo.out]; exact ⟨_, rfl, hHas, bf⟩)
end Go.Proofs.Ytkbacjlnfmibaaa
