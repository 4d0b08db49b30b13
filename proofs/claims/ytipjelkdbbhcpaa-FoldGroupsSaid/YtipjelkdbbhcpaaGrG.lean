
/-
  FoldGroups' walk.
-/
import Derived.Test.YtipjelkdbbhcpaaGrF
import Derived.Test.YtipjelkdbbhcpaaValS
set_option linter.unusedSimpArgs false
set_option linter.unusedVariables false
namespace Go.Proofs.Ytipjelkdbbhcpaa
open Go.RowKit Go.Deep

set_option maxRecDepth 8000 in
set_option maxHeartbeats 8000000 in
theorem foldGroups_walk (A : Option Addr) (cap : Nat) (l0 : List Val) (w : World) (hx : Parts w A l0) (hl : l0.length ≤ cap) (hcap : cap ≤ maxLen) :
    Calls Try.prog 8 #[.slice A l0.length cap] w fun e w' => e = .returned (.bool true) ∧ Below w.heap.size w w' := by
  obtain ⟨GOAL, hG⟩ : ∃ G, G = fun (e : Ending) (w' : World) => e = .returned (.bool true) ∧ Below w.heap.size w w' := ⟨_, rfl⟩
  rw [← hG]
  have hGo := Lib.hid hG
  clear hG
  have cc := cut_c A cap l0 w hx hl hcap
  unfold CutEnds at cc
  clear hx hl hcap
  go_enter Try.func8, Try.ntmps8
  go_upto_region 2 with ((with_reducible refine cc.mono ?_); rintro e w1 ⟨A1, cap1, l, rfl, hp1, hlc, hcm, hl20, _, hb1⟩)
  have cg := group_c A1 cap1 l w1 hp1 (by omega)
  unfold GroupEnds at cg
  clear cc
  go_upto_region 3 with ((with_reducible refine cg.mono ?_); rintro e w2 ⟨K, kc, R, rc, rfl, hK2, hR2, hb2⟩)
  have hp2 := hp1.keep hb2
  have hbw2 := hb1.trans (hb2.mono hb1.size)
  have cr := rgroup_c A1 cap1 l w2 hp2 (by omega)
  unfold GroupEnds at cr
  clear cg hp1 hb1
  go_upto_region 4 with ((with_reducible refine cr.mono ?_); rintro e w3 ⟨K3, kc3, R3, rc3, rfl, hK3, hR3, hb3⟩)
  have hp3 := hp2.keep hb3
  have hKa := hK2.keep hb3
  have hRa := hR2.keep hb3
  have hbw3 := hbw2.trans (hb3.mono hbw2.size)
  clear cr hp2 hb2 hb3 hbw2 hK2 hR2
  have aw := awake_c w3
  have cd := fun w' (hb : Below w3.heap.size w3 w') => dedup_c A1 cap1 l w' (hp3.keep hb) (by omega) hlc
  have crd := fun w' (hb : Below w3.heap.size w3 w') => rdedup_c A1 cap1 l w' (hp3.keep hb) (by omega)
  have cpl := fun X Y c1 c2 w' (h1 : IntsAt w' X (firsts l l.length)) (h2 : IntsAt w' Y (firsts l l.length)) => places_c X Y c1 c2 (firsts l l.length) w' h1 h2 (by have := firsts_len l l.length; omega)
  unfold IntsEnds at cd crd
  have hol := orderJ_len l l.length
  have hpb : Hid (∀ j, (plac l l.length j).length ≤ 100) := Lib.hid fun j => by have := plac_len l l.length j; omega
  have hp3 := Lib.hid hp3
  generalize firsts l l.length = fs at *
  generalize hjs : orderJ l l.length = js at *
  have hjs := Lib.hid hjs
  go_upto_region 6 with (first | ((with_reducible refine aw.mono ?_); rintro e w4 ⟨rfl, hb4⟩; have cd4 := cd w4 hb4) | ((with_reducible refine cd4.mono ?_); rintro e w5 ⟨D, dc, rfl, hD, hb5⟩; have hb45 := hb4.trans (hb5.mono hb4.size); have cr5 := crd w5 hb45) | ((with_reducible refine cr5.mono ?_); rintro e w6 ⟨D2, dc2, rfl, hD2, hb6⟩; have hb46 := hb45.trans (hb6.mono hb45.size); have cp6 := cpl D D2 dc dc2 w6 (hD.keep hb6) hD2) | ((with_reducible refine cp6.mono ?_); rintro e w7 ⟨rfl, hb7⟩; have hb47 := hb46.trans (hb7.mono hb46.size)))
  have hbw7 := hbw3.trans (hb47.mono hbw3.size)
  have hKb := Lib.hid (hKa.keep hb47)
  have hRb := Lib.hid (hRa.keep hb47)
  have hK3b := Lib.hid (hK3.keep hb47)
  have hR3b := Lib.hid (hR3.keep hb47)
  clear aw cd crd cpl cd4 cr5 cp6 hb4 hb5 hb6 hb7 hb45 hb46 hb47 hKa hRa hK3 hR3 hD hD2
  go_wp2_with fail
  go_loopw [8] (fun a8 wr => ∃ i : Nat, a8 = .int .i64 i ∧ i ≤ js.length ∧ Below w7.heap.size w7 wr) (fun a _ => js.length - (intOf a).toNat)
  case atStart => exact ⟨0, rfl, Nat.zero_le _, Below.refl _ _⟩
  case round =>
    obtain ⟨i, rfl, hi, hbz⟩ := hrel
    have hbwz := hbw7.trans (hbz.mono hbw7.size)
    have w3i : IntKind.i64.wrap ((i : Int) + 1) = (i : Int) + 1 := by rw [wrap_i64]; omega
    by_cases hil : i < js.length
    · have hil' : (i : Int) < js.length := by omega
      have hk : (js.map (kAt l))[i]? = some (kAt l js[i]) := by rw [List.getElem?_map]; simp [hil]
      have hq : (js.map (plac l l.length))[i]? = some (plac l l.length js[i]) := by rw [List.getElem?_map]; simp [hil]
      obtain ⟨ad1, ak, ab, an, aF, aS, aB, alen, ac, hA1, hax, haat⟩ := (hKb.out.keep hbz) i _ hk
      subst hA1
      obtain ⟨ad2, bk, bb, bn, bF, bS, bB, blen, bc, hA2, hbx, hbat⟩ := (hK3b.out.keep hbz) i _ hk
      subst hA2
      obtain ⟨ad3, S1, sc1, hA3, r1l, r1c, hS1⟩ := (hRb.out.keep hbz) i _ hq
      subst hA3
      obtain ⟨ad4, S2, sc2, hA4, r2l, r2c, hS2⟩ := (hR3b.out.keep hbz) i _ hq
      subst hA4
      have hpj := hpb.out js[i]
      obtain ⟨y6, y0, y1, y2, y3, y4, y5⟩ := haat
      obtain ⟨z6, z0, z1, z2, z3, z4, z5⟩ := hbat
      have cs : ∀ p : In wr, Calls Try.prog 15 #[valV ak ab an aF aS aB alen ac, valV bk bb bn bF bS bB blen bc] p.w fun e w' => e = .returned (.bool true) ∧ Below p.w.heap.size p.w w' := fun p => by
        have := rsame_c _ _ _ _ p.w (hax.keep p.h) (hbx.keep p.h)
        rwa [sameV_self] at this
      have cq : ∀ p : In wr, Calls Try.prog 27 #[.slice S1 (plac l l.length js[i]).length sc1, .slice S2 (plac l l.length js[i]).length sc2] p.w fun e w' => e = .returned (.bool true) ∧ Below p.w.heap.size p.w w' := fun p => places_c S1 S2 sc1 sc2 _ p.w (hS1.keep p.h) (hS2.keep p.h) (by omega)
      generalize (plac l l.length js[i]).length = m at *
      clear hk hq hax hbx hS1 hS2
      go_upto_region 9 with fail
      (refine wp_region_flow [] (by kernel_rfl) (by kernel_rfl) ?_; (repeat (((with_reducible refine wpFlow_steps ?_); intro K hK; go_simp; first | (with_reducible refine hK _ ?_; clear hK K) | (apply Exists.intro; (with_reducible refine ⟨fun _ => ⟨?_, _, rfl⟩, hK _ ?_⟩); (· exact rfl); clear hK K) | (apply Exists.intro; (with_reducible refine ⟨fun _ => ⟨_, rfl⟩, hK _ ?_⟩); clear hK K) | (apply Exists.intro; (with_reducible refine ⟨fun _ => ?_, hK _ ?_⟩); (· (with_reducible (first | exact cs _ | exact cq _))); clear hK K)))); (refine wpFlow_nil ?_; rintro w1 ⟨q0, hq0⟩; have hb := In.h q0; rw [← hq0] at hb; clear hq0 q0; (first | ((with_reducible obtain ⟨p, hw''⟩ := In.of2 p hb); subst hw'') | (obtain ⟨p, hw''⟩ := In.of hb; subst hw'')); go_simp; intros))
      have hb2 := hbz.trans (p.h.mono hbz.size)
      go_wp2_with fail
      exact ⟨⟨i + 1, by simp, hil, hb2⟩, by simp [intOf]; omega⟩
    · have hil' : ¬ (i : Int) < js.length := by omega
      go_wp2_with fail
      rw [hGo.out]
      exact ⟨rfl, hbwz⟩
end Go.Proofs.Ytipjelkdbbhcpaa
