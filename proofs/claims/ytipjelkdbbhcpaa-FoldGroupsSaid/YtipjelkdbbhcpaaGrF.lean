
/-
  fold.Group.
-/
import Derived.Test.YtipjelkdbbhcpaaGrE
set_option linter.unusedSimpArgs false
set_option linter.unusedVariables false
namespace Go.Proofs.Ytipjelkdbbhcpaa
open Go.RowKit Go.Deep

theorem isAtV_map {l : List Val} {js : List Nat} {y : Val} {n : Nat} : isAtV (js.map (kAt l)) y n = true ↔ ∃ j, js[n]? = some j ∧ cmpV (kAt l j) y = 0 := by
  unfold isAtV
  rw [List.getElem?_map]
  cases h : js[n]? with
  | none => simp
  | some j => simp
theorem one6 (kk : Int) (kb : Bool) (kn : Int) (kf : Nat) (ks : List UInt8) (kB : Option Addr) (klen kc : Nat) (w : World) (T : TypeId) : (w.alloc (.cells #[.int .i64 kk, .bool kb, .int .i64 kn, .float .f64 kf, .string (st ks), .slice kB klen kc] T)).heap[w.heap.size]? = some (.cells (List.toArray (valC kk kb kn kf ks kB klen kc)) T) := alloc_here _ _
set_option maxRecDepth 8000 in
set_option maxHeartbeats 16000000 in
theorem group_c (A : Option Addr) (cap0 : Nat) (l : List Val) (w : World) (hp : Parts w A l) (hl : l.length ≤ 100) :
    Calls Try.prog 25 #[.slice A l.length cap0] w (GroupEnds l w) := by
  obtain ⟨n0, ni0, nz0, nz1, nz2⟩ := info_parts Try.infoI3
  have hLies : Hid (∀ t, t < l.length → Lies (kAt l t)) := Lib.hid fun t ht => by
    obtain ⟨ad, k, b, n, f, s, B, len, c, h1, h2, h3⟩ := hp t _ (kAt_some ht)
    exact ⟨_, _, h2⟩
  have hgood := Lib.hid (orderJ_good hLies.out)
  obtain ⟨GOAL, hG⟩ : ∃ G, G = GroupEnds l w := ⟨_, rfl⟩
  rw [← hG]
  have hGo := Lib.hid hG
  clear hG
  go_enter Try.func25, Try.ntmps25
  go_wp2_with fail
  go_loopw [4, 5, 12] (fun a4 a5 a12 wr => ∃ (i : Nat) (js : List Nat) (xs cs : List Value), a12 = .int .i64 i ∧ i ≤ l.length ∧ Hid (js = orderJ l i) ∧ Hid (wr.ownsRow w.heap.size 27 6 a4 js.length xs) ∧ Hid (VRow w (js.map (kAt l)) xs) ∧ Hid (wr.ownsRow w.heap.size 28 1 a5 js.length cs) ∧ Hid (InRow wr w.heap.size (js.map (plac l i)) cs) ∧ Below w.heap.size w wr) (fun _ _ a _ => l.length - (intOf a).toNat)
  case atStart => exact ⟨0, [], [], [], rfl, Nat.zero_le _, Lib.hid rfl, Lib.hid (World.ownsRow_nil _ _ _ _), Lib.hid (VRow.nil _), Lib.hid (World.ownsRow_nil _ _ _ _), Lib.hid (InRow.nil _ _), Below.refl _ _⟩
  case round =>
    obtain ⟨i, js, xs, cs, rfl, hi, hjs, hownK, hvr, hownR, hin, hbr⟩ := hrel
    have w3i : IntKind.i64.wrap ((i : Int) + 1) = (i : Int) + 1 := by rw [wrap_i64]; omega
    by_cases hil : i < l.length
    · have hil' : (i : Int) < l.length := by omega
      have hg := hgood.out i (by omega)
      rw [← hjs.out] at hg
      have hjl : js.length ≤ 100 := by have := orderJ_len l i; rw [← hjs.out] at this; omega
      obtain ⟨ad, kk, kb, kn, kf, ks, kB, klen, kc, hA, hkx, hkat⟩ := hp i _ (kAt_some hil)
      subst hA
      obtain ⟨y6, y0, y1, y2, y3, y4, y5⟩ := hkat.keep hbr
      obtain ⟨A4, c4, hv4, hP4, _, _⟩ := Parts.ofRow (ys := js.map (kAt l)) (by rw [List.length_map]; exact hownK.out) (hvr.out.keep hbr)
      rw [List.length_map] at hv4
      subst hv4
      go_upto_region 6 with fail
      obtain ⟨w5, hw5⟩ : ∃ w5, w5 = wr.alloc (.cells #[.int .i64 kk, .bool kb, .int .i64 kn, .float .f64 kf, .string (st ks), .slice kB klen kc] 27) := ⟨_, rfl⟩
      have b5 : Below wr.heap.size wr w5 := hw5 ▸ below_alloc wr _
      have hbox : Box w5 wr.heap.size kk kb kn kf ks kB klen kc := hw5 ▸ Box.new wr kk kb kn kf ks kB klen kc _
      rw [← hw5]
      have hbw5 := hbr.trans (b5.mono hbr.size)
      have cb := bsearch_c A4 c4 (js.map (kAt l)) (kAt l i) kk kb kn kf ks kB klen kc w5 (hP4.keep b5) ((hkx.keep hbr).keep b5) (fun a b x z hab hx hz hzy => by
        rw [List.getElem?_map] at hx hz
        cases hja : js[a]? with
        | none => rw [hja] at hx; cases hx
        | some ja =>
          cases hjb : js[b]? with
          | none => rw [hjb] at hz; cases hz
          | some jb =>
            rw [hja] at hx
            rw [hjb] at hz
            cases hx
            cases hz
            have h1 := hg.lt ja (List.mem_of_getElem? hja)
            have h2 := hg.lt jb (List.mem_of_getElem? hjb)
            exact cmpV_lt_le (hLies.out ja (by omega)) (hLies.out jb (by omega)) (hLies.out i hil) (hg.at_lt hab hja hjb) (by omega)) (by rw [List.length_map]; omega)
      rw [List.length_map] at cb
      unfold SearchV at cb
      obtain ⟨x6, x0, x1, x2, x3, x4, x5⟩ := hbox
      have hbox : Hid (Box w5 wr.heap.size kk kb kn kf ks kB klen kc) := Lib.hid ⟨x6, x0, x1, x2, x3, x4, x5⟩
      have hgh := Lib.hid hg
      clear hw5 y6 y0 y1 y2 y3 y4 y5 hP4 hg
      go_upto_if 24 with ((with_reducible refine cb.mono ?_); rintro e w6 ⟨n, rfl, hPl, hb6⟩)
      have hbox6 := hbox.out.keep hb6
      have b56 := b5.trans (hb6.mono b5.size)
      have hbw6 := hbw5.trans (hb6.mono hbw5.size)
      have hK6 := Lib.hid (own_stays hownK.out b56)
      have hR6 := Lib.hid (own_stays hownR.out b56)
      have hin6 := Lib.hid (hin.out.stays b56)
      have hnle : n ≤ js.length := by have := hPl.le; rwa [List.length_map] at this
      have hlo : ∀ (t : Nat) j, t < n → js[t]? = some j → cmpV (kAt l j) (kAt l i) < 0 := fun t j ht hj => hPl.lo t _ ht (by rw [List.getElem?_map, hj]; rfl)
      have hhi : ∀ (t : Nat) j, n ≤ t → js[t]? = some j → ¬ cmpV (kAt l j) (kAt l i) < 0 := fun t j ht hj => hPl.hi t _ ht (by rw [List.getElem?_map, hj]; rfl)
      have hcn := Lib.hid (cntLt_eq hnle hlo (fun j hj => hhi n j (Nat.le_refl _) hj))
      have hfound := Lib.hid (hgh.out.found (n := n) hLies.out hil hnle hlo hhi)
      have hnx := Lib.hid (orderJ_next l i)
      obtain ⟨I, hI⟩ : ∃ I, I = isAtV (js.map (kAt l)) (kAt l i) n := ⟨_, rfl⟩
      rw [← hI]
      have hIh := Lib.hid hI
      have hbs6 := hbw6.size
      obtain ⟨x6, x0, x1, x2, x3, x4, x5⟩ := hbox6
      clear cb hI hPl hb6 b56 b5 hbw5 hbox hownK hownR hin hlo hhi hkat
      go_cut [4, 5] (fun a4 a5 wx => ∃ (js1 : List Nat) (pls1 : List (List Nat)) (q : List Nat) (xs1 cs1 : List Value), Hid (js1 = orderJ l (i + 1)) ∧ Hid (js1.map (plac l (i + 1)) = pls1.set n (q ++ [i])) ∧ Hid (pls1[n]? = some q) ∧ q.length ≤ i ∧ n < js1.length ∧ js1.length ≤ 101 ∧ Hid (wx.ownsRow w.heap.size 27 6 a4 js1.length xs1) ∧ Hid (VRow w (js1.map (kAt l)) xs1) ∧ Hid (wx.ownsRow w.heap.size 28 1 a5 js1.length cs1) ∧ Hid (InRow wx w.heap.size pls1 cs1) ∧ Below w.heap.size w wx)
      case first =>
        cases I with
        | true =>
          obtain ⟨j, hj, h0⟩ := isAtV_map.1 hIh.out.symm
          have hnf : isFirst l i = false := by
            cases hb : isFirst l i
            · rfl
            · exact absurd h0 (hfound.out.1 hb j hj)
          have hnl := (List.getElem?_eq_some_iff.1 hj).1
          have e1 : Hid (js = orderJ l (i + 1)) := Lib.hid (by rw [hnx.out, hnf, ← hjs.out]; simp)
          have e2 := Lib.hid (hgh.out.place_old hLies.out hil hj h0)
          have e3 : Hid ((js.map (plac l i))[n]? = some (plac l i j)) := Lib.hid (by rw [List.getElem?_map, hj]; rfl)
          have e4 := plac_len l i j
          clear hj h0 hnf x6 x0 x1 x2 x3 x4 x5
          go_wp2_with fail
          ((with_reducible show Met _ _ _); refine Met.intro ?_; go_step; (repeat' apply Exists.intro); refine ⟨?_, rfl⟩)
          exact ⟨js, js.map (plac l i), plac l i j, xs, cs, e1, e2, e3, e4, hnl, by omega, hK6, hvr, hR6, hin6, hbw6⟩
        | false =>
          have hf : isFirst l i = true := hfound.out.2 fun j hj h0 => by
            have := isAtV_map.2 ⟨j, hj, h0⟩
            rw [← hIh.out] at this
            cases this
          have e1 : Hid (insJ l js i = orderJ l (i + 1)) := Lib.hid (by rw [hnx.out, hf, ← hjs.out]; simp)
          have e2 : Hid ((insJ l js i).map (plac l (i + 1)) = ((js.map (plac l i)).take n ++ [] :: (js.map (plac l i)).drop n).set n ([] ++ [i])) := Lib.hid (by
            rw [hgh.out.place_new hf, ← hcn.out]
            rw [List.set_append_right _ _ (by rw [List.length_take]; omega), show n - ((js.map (plac l i)).take n).length = 0 by rw [List.length_take, List.length_map]; omega]
            rfl)
          have e3 : Hid (((js.map (plac l i)).take n ++ [] :: (js.map (plac l i)).drop n)[n]? = some []) := Lib.hid (by rw [get_ins (by rw [List.length_map]; omega), if_neg (by omega), if_pos rfl])
          have e5 : n < (insJ l js i).length := by rw [insJ_len]; omega
          have e6 : (insJ l js i).length ≤ 101 := by rw [insJ_len]; omega
          have e7 : Hid ((insJ l js i).length = js.length + 1) := Lib.hid (insJ_len _ _ _)
          have e8 : Hid (VRow w ((insJ l js i).map (kAt l)) (xs.take (n * 6) ++ (valC kk kb kn kf ks kB klen kc) ++ xs.drop (n * 6))) := Lib.hid (by
            rw [insJ_map, ← hcn.out]
            have h := hvr.out.insert (VRow.single hkx) n (by rw [List.length_map]; exact hnle)
            simpa using h)
          obtain ⟨w7, hw7⟩ : ∃ w7, w7 = w6.alloc (.cells #[.int .i64 kk, .bool kb, .int .i64 kn, .float .f64 kf, .string (st ks), .slice kB klen kc] 27) := ⟨_, rfl⟩
          have b67 : Below w6.heap.size w6 w7 := hw7 ▸ below_alloc w6 _
          have hrb7 : w7.heap[w6.heap.size]? = some (.cells (List.toArray (valC kk kb kn kf ks kB klen kc)) 27) := hw7 ▸ one6 kk kb kn kf ks kB klen kc w6 _
          have hK7 := own_stays hK6.out b67
          have hR7 := own_stays hR6.out b67
          have hin7 := hin6.out.stays b67
          have hbw7 := hbw6.trans (b67.mono hbs6)
          have ci := insertVal_c w.heap.size (.slice A4 js.length c4) js.length n 1 w6.heap.size _ xs (valC kk kb kn kf ks kB klen kc) w7 hK7 hbw7.size hnle (by omega) (by omega) (by omega) rfl (fun e => by have := (hK6.out.lt _ e).2; omega) hrb7 (valC_one _ _ _ _ _ _ _ _) (VRow.one hvr.out)
          unfold InsValEnds at ci
          have mk : ∀ (w8 : World), w7.grownBy w8 (Value.slice A4 js.length c4).ownBlock → Calls Try.prog 52 #[u5, .int .i64 (n : Int), .slice (some ⟨w8.heap.size, 0, none⟩) 1 1] (w8.alloc (.cells #[.slice none 0 0] 28)) (InsRowEnds w.heap.size u5 js.length 1 cs [.slice none 0 0] n (w8.alloc (.cells #[.slice none 0 0] 28))) := fun w8 hg8 => by
            have h8 := hR7.kept hg8 (own_types hR7 hK7 (by decide))
            refine insertRow_c w.heap.size u5 js.length n 1 w8.heap.size 28 cs [.slice none 0 0] _ (h8.alloc _) ?_ hnle (by omega) (by omega) (by omega) rfl (fun e => by have := (h8.lt _ e).2; omega) (alloc_here _ _) (slice_one _ _ _) (RRow.one hin7.rrow)
            have := hbw7.size
            have := hg8.size
            simp
            omega
          unfold InsRowEnds at mk
          have fin : Hid (∀ (w8 w10 : World) (v4 v5 : Value) (xs' cs' : List Value), w7.grownBy w8 (Value.slice A4 js.length c4).ownBlock → w8.ownsRow w.heap.size 27 6 v4 (js.length + 1) xs' → (w8.alloc (.cells #[.slice none 0 0] 28)).grownBy w10 u5.ownBlock → w10.ownsRow w.heap.size 28 1 v5 (js.length + 1) cs' →
              w10.ownsRow w.heap.size 27 6 v4 (js.length + 1) xs' ∧ InRow w10 w.heap.size ((js.map (plac l i)).take n ++ [] :: (js.map (plac l i)).drop n) (cs.take n ++ [.slice none 0 0] ++ cs.drop n) ∧ Below w.heap.size w w10) := Lib.hid fun w8 w10 v4 v5 xs' cs' g8 o4 g10 o5 => by
            have h8 := hR7.kept g8 (own_types hR7 hK7 (by decide))
            have in8 := hin7.grown g8 fun t c hc => by
              obtain ⟨pl, _, ho⟩ := hin7.both hc
              exact own_types ho hK7 (by decide)
            have b8 : Below w8.heap.size w8 (w8.alloc (.cells #[.slice none 0 0] 28)) := below_alloc _ _
            have in9 := in8.stays b8
            have in10 := in9.grown g10 fun t c hc => by
              obtain ⟨pl, _, ho⟩ := in9.both hc
              exact own_types ho (own_stays h8 b8) (by decide)
            have hbw8 : Below w.heap.size w w8 := hbw7.grown g8 hbw7.size fun k hk => (hK7.lt k hk).1
            have hbw9 := hbw8.trans (b8.mono hbw8.size)
            exact ⟨(own_stays o4 b8).kept g10 (own_types (own_stays o4 b8) (own_stays h8 b8) (by decide)), in10.insNil (by rw [List.length_map]; exact hnle), hbw9.grown g10 hbw9.size fun k hk => (h8.lt k hk).1⟩
          rw [hw7] at ci
          have hw7h := Lib.hid hw7
          clear hf hK7 hR7 hin7 hbw7 b67 hrb7 hK6 hR6 hin6
          go_wp2_with (first | ((with_reducible refine ci.mono ?_); rintro e w8 ⟨v4, rfl, own4, grow4⟩; rw [← hw7h.out] at grow4; have ci2 := mk w8 grow4) | ((with_reducible refine ci2.mono ?_); rintro e w10 ⟨v5, rfl, own5, grow5⟩))
          ((with_reducible show Met _ _ _); refine Met.intro ?_; go_step; (repeat' apply Exists.intro); refine ⟨?_, rfl⟩)
          obtain ⟨f1, f2, f3⟩ := fin.out w8 w10 v4 v5 _ _ grow4 own4 grow5 own5
          refine ⟨insJ l js i, _, [], _, _, e1, e2, e3, Nat.zero_le _, e5, e6, Lib.hid (by rw [e7.out]; exact f1), e8, Lib.hid (by rw [e7.out]; exact own5), Lib.hid (by simpa using f2), f3⟩
      case rest =>
        clear hK6 hR6 hin6 x6 x0 x1 x2 x3 x4 x5 hfound hcn hgh hbw6 hnx hIh hjs hvr hnle hjl hbs6
        obtain ⟨js1, pls1, q, xs1, cs1, e1, e2, e3, hqi, hn1, hj1, hK, hvr, hR, hin, hbw⟩ := hcut
        have hlen := hin.out.len
        have hcl : n < cs1.length := by have := (List.getElem?_eq_some_iff.1 e3.out).1; omega
        have hcg : cs1[n]? = some cs1[n] := by simp
        obtain ⟨g5, c5, hv5, hg51, hg52, hnc5, _⟩ := own_some hR.out (by omega)
        subst hv5
        have ho := hin.out.own n cs1[n] q hcg e3.out
        obtain ⟨S, sc, hc, _, _⟩ := own_form ho
        have hcell : wc.cell? ⟨g5, n, none⟩ = some (.slice S q.length sc) := by
          rw [hR.out.cellAt n (by have := hR.out.1; omega), hcg, hc]
        have hcg' : cs1[n]? = some (.slice S q.length sc) := by rw [hcg, hc]
        rw [hc] at ho
        have hn1' : (n : Int) < js1.length := by omega
        have hbs := hbw.size
        obtain ⟨w7, hw7⟩ : ∃ w7, w7 = wc.alloc (.cells #[.int .i64 (i : Int)] 3) := ⟨_, rfl⟩
        have b7 : Below wc.heap.size wc w7 := hw7 ▸ below_alloc wc _
        have hnew7 : w7.cell? ((⟨wc.heap.size, 0, none⟩ : Addr).add 0) = some (.int .i64 (i : Int)) := hw7 ▸ cell_new wc (i : Int) _ 0 _ rfl
        have ho7 := own_stays ho b7
        have hK7 := own_stays hK.out b7
        have hR7 := own_stays hR.out b7
        have hin7 := hin.out.stays b7
        have hbw7 := hbw.trans (b7.mono hbs)
        have hbs7 := hbw7.size
        have fin : Hid (∀ (w8 : World) (v' : Value), w8.ownsRow w.heap.size 3 1 v' (q.length + 1) (intC q ++ [.int .i64 (i : Int)]) → w7.grownBy w8 (Value.slice S q.length sc).ownBlock → (v'.ownBlock = (Value.slice S q.length sc).ownBlock ∨ ∀ k, v'.ownBlock = some k → w7.heap.size ≤ k) →
            (w8.cell? ⟨g5, n, none⟩).isSome = true ∧ w8.frozen? ⟨g5, n, none⟩ = false ∧ g5 < w8.heap.size ∧ (w8.setCell ⟨g5, n, none⟩ v').ownsRow w.heap.size 27 6 u4 js1.length xs1 ∧ (w8.setCell ⟨g5, n, none⟩ v').ownsRow w.heap.size 28 1 (.slice (some ⟨g5, 0, none⟩) js1.length c5) js1.length (cs1.set n v') ∧ InRow (w8.setCell ⟨g5, n, none⟩ v') w.heap.size (js1.map (plac l (i + 1))) (cs1.set n v') ∧ Below w.heap.size w (w8.setCell ⟨g5, n, none⟩ v')) := Lib.hid fun w8 v' o8 gr8 fr8 => by
          have hR8 := hR7.kept gr8 (own_types hR7 ho7 (by decide))
          have hK8 := hK7.kept gr8 (own_types hK7 ho7 (by decide))
          have hin8 := hin7.put (x := i) hcg' e3.out gr8 (by rw [intC_snoc]; exact o8) fr8
          obtain ⟨r1, gr9⟩ := hR8.stored n v'
          have hbw8 : Below w.heap.size w w8 := hbw7.grown gr8 hbs7 fun k hk => (ho7.lt k hk).1
          refine ⟨own_there hR8 n (by have := hR8.1; omega), own_unfrozen hR8 n, (hR8.lt g5 rfl).2, hK8.kept gr9 (own_types hK8 hR8 (by decide)), r1, ?_, hbw8.grown gr9 hbw8.size fun k hk => by cases hk; exact hg51⟩
          rw [e2.out]
          refine hin8.grown gr9 fun t c hc => ?_
          obtain ⟨pl, _, hoc⟩ := hin8.both hc
          exact own_types hoc hR8 (by decide)
        have hw7h := Lib.hid hw7
        have ho7h := Lib.hid ho7
        have hn7h := Lib.hid hnew7
        clear hc hcg ho hK7 hR7 hin7 hbw7 b7 hnew7 ho7 hK hR hin
        go_wp2_with (at_builtin; (try rw [← hw7h.out]); refine wpList_append_own2 rfl _ _ 28 rfl w.heap.size 3 n0 (.int .i64 0) 8 Try.underlying28 ni0 nz0 nz1 nz2 rfl _ q.length (intC q) rfl ho7h.out ⟨wc.heap.size, 0, none⟩ 1 (.int .i64 (i : Int)) rfl hn7h.out rfl (by unfold maxLen; omega) (by omega) hbs7 ?_)
        intro v' w8 o8 g8 f8
        obtain ⟨S', sc', hv', _, _⟩ := own_form o8
        subst hv'
        obtain ⟨F1, F2, F3, F4, F5, F6, F7⟩ := fin.out w8 _ o8 (by rw [hw7h.out]; exact g8) (by rw [hw7h.out]; simpa using f8)
        obtain ⟨y, hy⟩ := Option.isSome_iff_exists.1 F1
        have F := Lib.hid (And.intro F4 (And.intro F5 (And.intro F6 F7)))
        clear F1 F4 F5 F6 F7 o8 g8 f8 fin
        go_wp2_with fail
        exact ⟨⟨i + 1, js1, xs1, cs1.set n _, by simp, hil, e1, Lib.hid F.out.1, hvr, Lib.hid F.out.2.1, Lib.hid F.out.2.2.1, F.out.2.2.2⟩, by simp [intOf]; omega⟩
    · have e : i = l.length := by omega
      subst e
      have hil' : ¬ (l.length : Int) < l.length := by omega
      have hjo := hjs.out
      subst hjo
      obtain ⟨K, kc, hvK, hPK, _, _⟩ := Parts.ofRow (ys := (orderJ l l.length).map (kAt l)) (by rw [List.length_map]; exact hownK.out) (hvr.out.keep hbr)
      obtain ⟨R, rc, hvR, hPR⟩ := RowsAt.ofOwn hownR.out hin.out.rrow (by rw [List.length_map])
      rw [List.length_map] at hvK hvR
      subst hvK
      subst hvR
      clear hownK hvr hownR hin hp
      go_wp2_with fail
      rw [hGo.out]
      exact ⟨_, _, _, _, rfl, hPK, hPR, hbr⟩
end Go.Proofs.Ytipjelkdbbhcpaa
