
/-
  ValCopies' walk.
-/
import Derived.Test.YtkbacjlnfmibaaaCpy
import Derived.Test.YtkbacjlnfmibaaaOrd
import Derived.Test.YtkbacjlnfmibaaaValS
set_option linter.unusedSimpArgs false
set_option linter.unusedVariables false
namespace Go.Proofs.Ytkbacjlnfmibaaa
open Go.RowKit Go.Deep

def pokV : Nat → Val → Nat
  | 0, _ => 0
  | m + 1, v => (v.l.map fun x => 1 + pokV m x).sum
theorem sum_take {α : Type} (f : α → Nat) {l : List α} {i : Nat} {x : α} (h : l[i]? = some x) : ((l.take (i + 1)).map f).sum = ((l.take i).map f).sum + f x := by
  obtain ⟨hi, rfl⟩ := List.getElem?_eq_some_iff.1 h
  rw [List.take_succ_eq_append_getElem hi, List.map_append, List.sum_append]
  simp
theorem pokV_le : ∀ (m : Nat) (v : Val), pokV m v + 1 ≤ wsz v
  | 0, v => by have := wsz_pos v; simp [pokV]; omega
  | m + 1, v => by
    have h : ∀ l : List Val, (l.map fun x => 1 + pokV m x).sum ≤ wszL l := by
      intro l
      induction l with
      | nil => simp
      | cons x l ih =>
        have := pokV_le m x
        simp only [List.map_cons, List.sum_cons, wszL]; omega
    have := h v.l
    rw [wsz_eq, pokV]; omega
set_option maxRecDepth 8000 in
set_option maxHeartbeats 1000000 in
theorem poked_c (v : Val) : ∀ (m : Nat) (u : Value) (w : World) (M : Int), (m : Int) = M → Has w u v → m ≤ 9 → wsz v ≤ 10000 → Calls Try.prog 29 #[u, .int .i64 M] w fun e w' => e = .returned (.int .i64 (pokV m v : Nat)) ∧ Below w.heap.size w w' := by
  generalize hz : wsz v = z
  induction z using Nat.strongRecOn generalizing v with
  | _ z ih =>
    intro m u w M hM hv hm hz4
    subst hM
    obtain ⟨A, cap, rfl, hk, hn, hf, hs, hlb0, hl, hc, hp⟩ := hv.open
    unfold maxLen at hc
    go_enter Try.func29, Try.ntmps29
    go_wp2
    obtain ⟨w1, hw1⟩ : ∃ w1, w1 = w.alloc (.cells #[.int .i64 v.k, .bool v.b, .int .i64 v.n, .float .f64 v.f, .string (st v.s), .slice A v.l.length cap] 25) := ⟨_, rfl⟩
    have hb1 : Below w.heap.size w w1 := hw1 ▸ (Below.refl _ _).alloc (Nat.le_refl _) _
    have hc5 : w1.cell? ⟨w.heap.size, 5, none⟩ = some (.slice A v.l.length cap) := by rw [hw1]; simp [go_sem]
    have hlt : w.heap.size < w1.heap.size := by rw [hw1]; simp
    rw [← hw1]
    clear hw1
    go_loopw [5, 6] (fun a5 a6 wr => ∃ i r : Nat, a6 = .int .i64 i ∧ a5 = .int .i64 r ∧ i ≤ v.l.length ∧ r ≤ 10000 ∧ Hid (m = 0 → r = 0) ∧ Hid (∀ k, m = k + 1 → r = ((v.l.take i).map fun x => 1 + pokV k x).sum) ∧ Below w1.heap.size w1 wr) (fun _ a6 _ => v.l.length - (intOf a6).toNat)
    case atStart => exact ⟨0, 0, rfl, rfl, Nat.zero_le _, by omega, fun _ => rfl, fun _ _ => by simp, Below.refl _ _⟩
    case round =>
      obtain ⟨i, r, rfl, rfl, hi, hrm, hr0, hr, hbr⟩ := hrel
      have hc5' := (hbr.cell (p := ⟨w.heap.size, 5, none⟩) hlt).trans hc5
      have hbw := hb1.trans (hbr.mono hb1.size)
      have fin : ∀ e w', (i = v.l.length ∨ m = 0) → e = Ending.returned (.int .i64 (r : Int)) → w' = wr → e = Ending.returned (.int .i64 (pokV m v : Nat)) ∧ Below w.heap.size w w' := by
        rintro e w' hx rfl rfl
        refine ⟨?_, hbw⟩
        cases m with
        | zero => rw [hr0.out rfl]; rfl
        | succ m =>
          have h1 := hr.out m rfl
          rw [show i = v.l.length by omega, List.take_length] at h1
          rw [h1]; rfl
      by_cases hil : i < v.l.length
      · have hil' : (i : Int) < v.l.length := by omega
        by_cases hm0 : m = 0
        · have hm' : ¬ (0 : Int) < (m : Int) := by omega
          clear hp ih
          go_wp2_with fail
          go_ret
          exact fin _ _ (.inr hm0) rfl rfl
        · have hm' : (0 : Int) < (m : Int) := by omega
          obtain ⟨m', hm1⟩ : ∃ m', m = m' + 1 := ⟨m - 1, by omega⟩
          obtain ⟨ad, k, b, n, f, s, B, len, c, rfl, hx, hat⟩ := hp i v.l[i] (by simp)
          have hxr := hx.keep hbw
          obtain ⟨q0, q1, q2, q3, q4, q5, q6⟩ := hat.keep hbw
          have hwsz := wsz_part (v := v) (x := v.l[i]) (i := i) (by simp)
          have hsub : IntKind.i64.wrap ((m : Int) - 1) = (m' : Int) := by simp [IntKind.wrap, IntKind.bits, IntKind.signed]; omega
          have cr := ih (wsz v.l[i]) (by omega) v.l[i] rfl m' _ wr m' rfl hxr (by omega) (by omega)
          have hst := sum_take (fun x => 1 + pokV m' x) (l := v.l) (i := i) (x := v.l[i]) (by simp)
          have hle := pokV_le m' v.l[i]
          have hsum : r + (1 + pokV m' v.l[i]) ≤ 10000 := by
            have h1 := hr.out m' hm1
            have h2 := pokV_le (m' + 1) v
            have h3 : ((v.l.take (i + 1)).map fun x => 1 + pokV m' x).sum ≤ (v.l.map fun x => 1 + pokV m' x).sum := by
              conv => rhs; rw [← List.take_append_drop (i + 1) v.l, List.map_append, List.sum_append]
              omega
            have h4 : pokV (m' + 1) v = (v.l.map fun x => 1 + pokV m' x).sum := rfl
            omega
          have hST := Lib.hid hst
          have hM1 := Lib.hid hm1
          clear hx hxr hp ih fin hst hwsz hat hm1
          generalize pokV m' v.l[i] = P at *
          have wi : IntKind.i64.wrap ((i : Int) + 1) = (i : Int) + 1 := by simp [IntKind.wrap, IntKind.bits, IntKind.signed]; omega
          have w1' : IntKind.i64.wrap (1 + (P : Int)) = 1 + (P : Int) := by simp [IntKind.wrap, IntKind.bits, IntKind.signed]; omega
          have w2' : IntKind.i64.wrap ((r : Int) + (1 + (P : Int))) = (r : Int) + (1 + (P : Int)) := by simp [IntKind.wrap, IntKind.bits, IntKind.signed]; omega
          go_wp2_with ((with_reducible refine cr.mono ?_); rintro e w2 ⟨rfl, hb2⟩)
          refine ⟨⟨i + 1, r + (1 + P), rfl, by simp, hil, by omega, ?_, ?_, hbr.trans (hb2.mono hbr.size)⟩, by simp [intOf]; omega⟩
          · exact fun h => absurd h (by omega)
          · intro k hk
            have hk' : m' = k := by have := hM1.out; omega
            subst hk'
            rw [hST.out, ← hr.out m' hk]
      · have hil' : ¬ (i : Int) < v.l.length := by omega
        clear hp ih
        go_wp2_with fail
        go_ret
        exact fin _ _ (.inl (by omega)) rfl rfl

theorem Box.other {w w' : World} {g : Nat} {k : Int} {b : Bool} {n : Int} {f : Nat} {s : List UInt8} {B : Option Addr} {len c : Nat} (h : Box w g k b n f s B len c) (hs : w.heap.size ≤ w'.heap.size) (he : w'.heap[g]? = w.heap[g]?) : Box w' g k b n f s B len c := by
  have e : ∀ j, w'.cell? ⟨g, j, none⟩ = w.cell? ⟨g, j, none⟩ := fun j => by simp only [World.cell?, he]
  exact ⟨Nat.lt_of_lt_of_le h.lt hs, (e _).trans h.c0, (e _).trans h.c1, (e _).trans h.c2, (e _).trans h.c3, (e _).trans h.c4, (e _).trans h.c5⟩
set_option maxRecDepth 8000 in
set_option maxHeartbeats 2000000 in
theorem valCopies_walk (u : Value) (v : Val) (w : World) (hu : Has w u v) :
    Calls Try.prog 8 #[u] w fun e w' => e = .returned (.bool true) ∧ Below w.heap.size w w' := by
  obtain ⟨na, hna⟩ : ∃ na, na = min (wsz v) (1000 + 1) := ⟨_, rfl⟩
  have cwa : ∀ w', Below w.heap.size w w' → Calls Try.prog 11 #[u, .int .i64 1000] w' fun e w'' => e = .returned (.int .i64 na) ∧ Below w'.heap.size w' w'' := fun w' h => hna ▸ weighN_c v u w' 1000 (hu.keep h) (by omega)
  have hz : ¬ 1000 < na → wsz v ≤ 1000 := by omega
  have hz := Lib.hid hz
  clear hna
  obtain ⟨A, capa, rfl, _⟩ := hu.open
  go_enter Try.func8, Try.ntmps8
  go_upto_region 1 with fail
  obtain ⟨w1, hw1⟩ : ∃ w1, w1 = w.alloc (.cells #[.int .i64 v.k, .bool v.b, .int .i64 v.n, .float .f64 v.f, .string (st v.s), .slice A v.l.length capa] 25) := ⟨_, rfl⟩
  have bk : Below w.heap.size w w1 := hw1 ▸ below_alloc w _
  have hbx : Box w1 w.heap.size v.k v.b v.n v.f v.s A v.l.length capa := hw1 ▸ Box.new w v.k v.b v.n v.f v.s A v.l.length capa _
  obtain ⟨x6, x0, x1, x2, x3, x4, x5⟩ := hbx
  rw [← hw1]
  clear hw1
  have aw := fun w => awake_c w
  by_cases hA : 1000 < na
  · have hA' : (1000 : Int) < na := by omega
    go_wp2_with (first | ((with_reducible refine (cwa _ bk).mono ?_); rintro e w2 ⟨rfl, hb2⟩; (first | ((with_reducible obtain ⟨p, hw''⟩ := In.of2 p hb2); subst hw'') | (obtain ⟨p, hw''⟩ := In.of hb2; subst hw''))) | ((with_reducible refine (aw _).mono ?_); rintro e w3 ⟨rfl, hb3⟩; (first | ((with_reducible obtain ⟨p, hw''⟩ := In.of2 p hb3); subst hw'') | (obtain ⟨p, hw''⟩ := In.of hb3; subst hw''))))
    go_ret
    exact ⟨rfl, p.back bk⟩
  · have hA' : ¬ (1000 : Int) < na := by omega
    have hz4 : wsz v ≤ 1000 := hz.out hA
    go_upto_region 3 with (first | ((with_reducible refine (cwa _ bk).mono ?_); rintro e w2 ⟨rfl, hb2⟩; (first | ((with_reducible obtain ⟨p, hw''⟩ := In.of2 p hb2); subst hw'') | (obtain ⟨p, hw''⟩ := In.of hb2; subst hw''))))
    have hU := Lib.hid hu
    have B2 := p.back bk
    have hbx2 := Box.keep ⟨x6, x0, x1, x2, x3, x4, x5⟩ p.h
    have hu2 := hu.keep B2
    clear hu
    clear x0 x1 x2 x3 x4 x5 x6 cwa hz hA hA'
    generalize p.w = w2 at *
    clear p
    have cc := copy_c v _ w2 hu2 (by omega)
    have hbx3 := Lib.hid hbx2
    obtain ⟨x6, x0, x1, x2, x3, x4, x5⟩ := hbx2
    go_upto_region 4 with ((with_reducible refine cc.mono ?_); rintro e w3 ⟨u3, rfl, hP3, hb3, A3, cap3, rfl, hR3⟩)
    obtain ⟨w4, hw4⟩ : ∃ w4, w4 = w3.alloc (.cells #[.int .i64 v.k, .bool v.b, .int .i64 v.n, .float .f64 v.f, .string (st v.s), .slice A3 v.l.length cap3] 25) := ⟨_, rfl⟩
    have k4 : Below w3.heap.size w3 w4 := hw4 ▸ below_alloc w3 _
    have s4 : w4.heap.size = w3.heap.size + 1 := hw4 ▸ alloc_grows _ _ rfl
    have h4 : w4.heap[w3.heap.size]? = _ := hw4 ▸ alloc_here w3 _
    have hwa : w3.alloc (.cells #[.int .i64 v.k, .bool v.b, .int .i64 v.n, .float .f64 v.f, .string (st v.s), .slice A3 v.l.length cap3] 25) = w4 := hw4.symm
    clear hw4
    have k24 := hb3.trans (k4.mono hb3.size)
    have B4 := B2.trans (k24.mono B2.size)
    have hP4 : HasP (fun b => w2.heap.size ≤ b ∧ b < w3.heap.size) w4 (valV v.k v.b v.n v.f v.s A3 v.l.length cap3) v := hP3.step (fun b _ hl => k4.block b hl) (fun b hb hl => ⟨hb, hl⟩)
    have cd := copy_c v _ w4 hP4.has (by omega)
    have q4 := fun j => cell_of h4 j
    have l4 := (Array.getElem?_eq_some_iff.1 h4).1
    have h4 := Lib.hid h4
    go_upto_region 5 with ((with_reducible refine cd.mono ?_); rintro e w5 ⟨u5, rfl, hP5, hb5, A5, cap5, rfl, hR5⟩)
    obtain ⟨w6, hw6⟩ : ∃ w6, w6 = w5.alloc (.cells #[.int .i64 v.k, .bool v.b, .int .i64 v.n, .float .f64 v.f, .string (st v.s), .slice A5 v.l.length cap5] 25) := ⟨_, rfl⟩
    have k6 : Below w5.heap.size w5 w6 := hw6 ▸ below_alloc w5 _
    have s6 : w6.heap.size = w5.heap.size + 1 := hw6 ▸ alloc_grows _ _ rfl
    have h6 : w6.heap[w5.heap.size]? = _ := hw6 ▸ alloc_here w5 _
    rw [← hw6]
    clear hw6 hwa q4 x0 x1 x2 x3 x4 x5
    have k46 := hb5.trans (k6.mono hb5.size)
    have k26 := k24.trans (k46.mono k24.size)
    have B6 := B4.trans (k46.mono B4.size)
    have hbx6 := hbx3.out.keep k26
    obtain ⟨x6, x0, x1, x2, x3, x4, x5⟩ := hbx6
    have h46 := (k46.block _ l4).trans h4.out
    have q4 := fun j => cell_of h46 j
    have q6 := fun j => cell_of h6 j
    have l46 := (Array.getElem?_eq_some_iff.1 h46).1
    have l6 := (Array.getElem?_eq_some_iff.1 h6).1
    have hu6 := hu2.keep k26
    have hP46 : HasP (fun b => w2.heap.size ≤ b ∧ b < w3.heap.size) w6 (valV v.k v.b v.n v.f v.s A3 v.l.length cap3) v := hP4.step (fun b _ hl => k46.block b hl) (fun b hb hl => hb)
    have hP6 : HasP (fun b => w4.heap.size ≤ b ∧ b < w5.heap.size) w6 (valV v.k v.b v.n v.f v.s A5 v.l.length cap5) v := hP5.step (fun b _ hl => k6.block b hl) (fun b hb hl => ⟨hb, hl⟩)
    have d1 : ∀ p : In w6, Calls Try.prog 18 #[valV v.k v.b v.n v.f v.s A3 v.l.length cap3, valV v.k v.b v.n v.f v.s A v.l.length capa] p.w fun e w' => e = .returned (.bool true) ∧ Below p.w.heap.size p.w w' := fun p => by
      have := rsame_c v v _ _ p.w (hP46.has.keep p.h) (hu6.keep p.h)
      rwa [sameV_self] at this
    obtain ⟨N, hN⟩ : ∃ N, N = pokV 9 v := ⟨_, rfl⟩
    have d2 : ∀ p : In w6, Calls Try.prog 29 #[valV v.k v.b v.n v.f v.s A3 v.l.length cap3, .int .i64 9] p.w fun e w' => e = .returned (.int .i64 N) ∧ Below p.w.heap.size p.w w' := fun p => hN ▸ poked_c v 9 _ p.w 9 rfl (hP46.has.keep p.h) (by omega) (by omega)
    have d3 : ∀ p : In w6, Calls Try.prog 29 #[valV v.k v.b v.n v.f v.s A v.l.length capa, .int .i64 9] p.w fun e w' => e = .returned (.int .i64 N) ∧ Below p.w.heap.size p.w w' := fun p => hN ▸ poked_c v 9 _ p.w 9 rfl (hu6.keep p.h) (by omega) (by omega)
    clear hN
    have h46 := Lib.hid h46
    have h6 := Lib.hid h6
    have s46 := Lib.hid (And.intro s4 s6)
    clear s4 s6
    have aw6 : ∀ p : In w6, Calls Try.prog 12 #[] p.w fun e w' => e = .returned (.bool true) ∧ Below p.w.heap.size p.w w' := fun p => awake_c p.w
    (refine wp_region_flow [] (by kernel_rfl) (by kernel_rfl) ?_; (repeat (((with_reducible refine wpFlow_steps ?_); intro K hK; go_simp; first | (with_reducible refine hK _ ?_; clear hK K) | (apply Exists.intro; (with_reducible refine ⟨fun _ => ⟨?_, _, rfl⟩, hK _ ?_⟩); (· exact rfl); clear hK K) | (apply Exists.intro; (with_reducible refine ⟨fun _ => ⟨_, rfl⟩, hK _ ?_⟩); clear hK K) | (apply Exists.intro; (with_reducible refine ⟨fun _ => ?_, hK _ ?_⟩); (· (with_reducible (first | exact aw6 _ | exact d1 _ | exact d2 _ | exact d3 _))); clear hK K)))); (refine wpFlow_nil ?_; rintro w1 ⟨q0, hq0⟩; have hb := In.h q0; rw [← hq0] at hb; clear hq0 q0; (first | ((with_reducible obtain ⟨p, hw''⟩ := In.of2 p hb); subst hw'') | (obtain ⟨p, hw''⟩ := In.of hb; subst hw'')); go_simp; intros))
    have B7 := p.back B6
    have hbx7 := Lib.hid (Box.keep ⟨x6, x0, x1, x2, x3, x4, x5⟩ p.h)
    have h37 := Lib.hid ((p.h.block _ (Array.getElem?_eq_some_iff.1 h46.out).1).trans h46.out)
    have h47 := Lib.hid ((p.h.block _ (Array.getElem?_eq_some_iff.1 h6.out).1).trans h6.out)
    have hu7 := hu6.keep p.h
    have hc7 : HasP (fun b => w2.heap.size ≤ b ∧ b < w3.heap.size) p.w (valV v.k v.b v.n v.f v.s A3 v.l.length cap3) v := hP46.step (fun b _ hl => p.h.block b hl) (fun b hb hl => hb)
    have hd7 : HasP (fun b => w4.heap.size ≤ b ∧ b < w5.heap.size) p.w (valV v.k v.b v.n v.f v.s A5 v.l.length cap5) v := hP6.step (fun b _ hl => p.h.block b hl) (fun b hb hl => hb)
    obtain ⟨s4, s6⟩ := s46.out
    have hb35 := hb5.size
    have hsB := p.h.size
    have hs2 := B2.size
    have hsW : w.heap.size < w2.heap.size := hbx3.out.lt
    have hR7 : (A3 = none ∧ v.l = []) ∨ ∃ R cs, A3 = some ⟨R, 0, none⟩ ∧ w2.heap.size ≤ R ∧ R < w3.heap.size ∧ p.w.heap[R]? = some (.cells cs 25) ∧ cs.size = v.l.length * 6 := by
      rcases hR3 with h | ⟨R, cs, h1, _, h2, h3, h4⟩
      · exact .inl h
      · have l3 := (Array.getElem?_eq_some_iff.1 h3).1
        have e4 := (k4.block _ l3).trans h3
        have e6 := (k46.block _ (Array.getElem?_eq_some_iff.1 e4).1).trans e4
        exact .inr ⟨R, cs, h1, h2, l3, (p.h.block _ (Array.getElem?_eq_some_iff.1 e6).1).trans e6, h4⟩
    have hS := Lib.hid (And.intro s4 (And.intro s6 (And.intro hb35 (And.intro hsB (And.intro hs2 hsW)))))
    clear x0 x1 x2 x3 x4 x5 x6 q4 q6 l46 l6 l4 d1 d2 d3 aw6 hb hP3 hP4 hP5 hP6 hP46 hR3 hR5 hu2 hu6 h4 h6 h46 cd cc k4 k6 k24 k46 k26 B4 B2 hb3 hb5 aw hbx3 s4 s6 s46 hb35 hsB hs2 hsW B6 hz4
    generalize p.w = w7 at *
    clear p
    have fin : ∀ wr, Below w.heap.size w wr → HasP (fun b => w4.heap.size ≤ b ∧ b < w5.heap.size) wr (valV v.k v.b v.n v.f v.s A5 v.l.length cap5) v → Calls Try.prog 18 #[valV v.k v.b v.n v.f v.s A5 v.l.length cap5, valV v.k v.b v.n v.f v.s A v.l.length capa] wr fun e w' => e = .returned (.bool true) ∧ Below w.heap.size w w' := fun wr h1 h2 => by
      have := rsame_c v v _ _ wr h2.has (hU.out.keep h1)
      rw [sameV_self] at this
      exact this.mono fun e w' ⟨h3, h4⟩ => ⟨h3, h1.trans (h4.mono h1.size)⟩
    rcases hR7 with ⟨rfl, hl0⟩ | ⟨R, cs, rfl, hRa, hRb, hrow, hcs⟩
    · have hl1 : ¬ (0 : Int) < v.l.length := by rw [hl0]; simp
      have q3 := fun j => cell_of h37.out j
      have l3 := (Array.getElem?_eq_some_iff.1 h37.out).1
      have q4 := fun j => cell_of h47.out j
      have l4 := (Array.getElem?_eq_some_iff.1 h47.out).1
      obtain ⟨x6, x0, x1, x2, x3, x4, x5⟩ := hbx7.out
      have fin1 := fin w7 B7 hd7
      clear hbx7 h37 h47 hl0
      go_wp2_with fail
      go_loopw [5] (fun a5 wr => a5 = .int .i64 0 ∧ wr = w7) (fun a _ => 0)
      case atStart => exact ⟨rfl, rfl⟩
      case round =>
        obtain ⟨rfl, rfl⟩ := hrel
        go_wp2_with ((with_reducible refine fin1.mono ?_); rintro e w9 ⟨rfl, hb9⟩)
        go_ret
        exact ⟨rfl, hb9⟩
    · have hPk : Poked w7 w7 R 0 (v.l.length * 6) := Poked.start hrow hcs
      obtain ⟨Ax, capx, he, _, _, _, _, _, _, hcm, hparts⟩ := hc7.has.open
      cases he
      go_wp2_with fail
      go_loopw [5] (fun a5 wr => ∃ i : Nat, a5 = .int .i64 i ∧ i ≤ v.l.length ∧ Poked w7 wr R i (v.l.length * 6)) (fun a _ => v.l.length - (intOf a).toNat)
      case atStart => exact ⟨0, rfl, Nat.zero_le _, hPk⟩
      case round =>
        clear hPk
        obtain ⟨i, rfl, hi, hPk⟩ := hrel
        obtain ⟨s4, s6, hb35, hsB, hs2, hsW⟩ := hS.out
        have g3 := (hPk.other w3.heap.size (by omega)).trans h37.out
        have g4 := (hPk.other w5.heap.size (by omega)).trans h47.out
        have q3 := fun j => cell_of g3 j
        have l3 := (Array.getElem?_eq_some_iff.1 g3).1
        by_cases hil : i < v.l.length
        · have hil' : (i : Int) < v.l.length := by omega
          obtain ⟨ad, k, b, n, f, s, B, len, c, he, _, hat⟩ := hparts i v.l[i] (by simp)
          cases he
          obtain ⟨⟨q9, q0, q1, q2, q3', q4, q5⟩, qf⟩ := hPk.at_ hat
          have hn := hPk.next (by omega) 2 false 77 0 [] none 0 0
          unfold fill6 at hn
          have wi : IntKind.i64.wrap ((i : Int) + 1) = (i : Int) + 1 := by rw [wrap_i64]; omega
          clear hat hparts g3 g4 s4 s6 hb35 hsB hs2 hsW
          go_wp2_with fail
          exact ⟨⟨i + 1, rfl, hil, hn⟩, by simp [intOf]; omega⟩
        · have hil' : ¬ (i : Int) < v.l.length := by omega
          have q4 := fun j => cell_of g4 j
          have l4 := (Array.getElem?_eq_some_iff.1 g4).1
          obtain ⟨x6, x0, x1, x2, x3, x4, x5⟩ := Box.other hbx7.out (by rw [hPk.size]; exact Nat.le_refl _) (hPk.other w.heap.size (by omega))
          have fin1 := fin wr (hPk.below B7 (by omega) B7.size) (hd7.step (fun b hb hl => hPk.other b (by omega)) (fun b hb _ => hb))
          clear hPk g3 g4 hbx7 h37 h47 hparts s4 s6 hb35 hsB hs2 hsW
          go_wp2_with ((with_reducible refine fin1.mono ?_); rintro e w9 ⟨rfl, hb9⟩)
          go_ret
          exact ⟨rfl, hb9⟩
end Go.Proofs.Ytkbacjlnfmibaaa
