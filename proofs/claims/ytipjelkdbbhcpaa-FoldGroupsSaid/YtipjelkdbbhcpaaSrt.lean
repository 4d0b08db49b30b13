
/-
  slices.SortStableFunc of up to twenty places.
-/
import Derived.Test.YtipjelkdbbhcpaaValD
import Derived.Test.YtipjelkdbbhcpaaRel
import Derived.Deep.OwnRows
import Derived.Lib.Hide
import Derived.RegionTactic
import Derived.BigRegion
set_option linter.unusedSimpArgs false
set_option linter.unusedVariables false
namespace Go.Proofs.Ytipjelkdbbhcpaa
open Go.RowKit Go.Deep

/-- a place is laid into a row that lies in order, from the right -/
def insAt (lt : Nat → Nat → Bool) (x : Nat) : List Nat → List Nat
  | [] => [x]
  | y :: ys => if lt x y then y :: insAt lt x ys else x :: y :: ys
theorem insAt_len (lt : Nat → Nat → Bool) (x : Nat) : ∀ ys, (insAt lt x ys).length = ys.length + 1
  | [] => rfl
  | y :: ys => by
    unfold insAt
    split
    · simp [insAt_len lt x ys]
    · simp
/-- the first places laid in order, from the right -/
def sortN (lt : Nat → Nat → Bool) (xs : List Nat) : Nat → List Nat
  | 0 => []
  | i + 1 => insAt lt (xs.getD i 0) (sortN lt xs i)
theorem sortN_len (lt : Nat → Nat → Bool) (xs : List Nat) : ∀ i, (sortN lt xs i).length = i
  | 0 => rfl
  | i + 1 => by rw [sortN, insAt_len, sortN_len lt xs i]
def sortV (lt : Nat → Nat → Bool) (xs : List Nat) : List Nat := (sortN lt xs xs.length).reverse

abbrev intsF (xs : List Nat) : Nat → Value := fun i => .int .i64 (xs.getD i 0 : Nat)
/-- a row of places -/
abbrev IntRow (w : World) (D : Nat) (xs : List Nat) : Prop := w.rowIs D 3 xs.length (intsF xs)

theorem IntRow.set {w : World} {D : Nat} {xs : List Nat} (h : IntRow w D xs) {i : Nat} (hi : i < xs.length) (x : Nat) : IntRow (w.setCell ⟨D, i, none⟩ (.int .i64 (x : Nat))) D (xs.set i x) := by
  obtain ⟨c, hb, hc, hv⟩ := h
  refine ⟨c.setIfInBounds i (.int .i64 (x : Nat)), by simp [World.setCell, Array.getElem?_modify, hb], by simp [hc], fun j hj => ?_⟩
  rw [List.length_set] at hj
  by_cases e : i = j
  · subst e
    rw [Array.getElem?_setIfInBounds_self_of_lt (by omega)]
    simp [intsF, hi]
  · rw [Array.getElem?_setIfInBounds_ne e, hv j hj]
    simp [intsF, List.getElem?_set_ne e]
theorem IntRow.frozen {w : World} {D : Nat} {xs : List Nat} (h : IntRow w D xs) (j : Nat) : w.frozen? ⟨D, j, none⟩ = false := by
  obtain ⟨c, hb, _⟩ := h
  exact frozen_of hb j
theorem IntRow.lt {w : World} {D : Nat} {xs : List Nat} (h : IntRow w D xs) : D < w.heap.size := by
  obtain ⟨c, hb, _⟩ := h
  exact (Array.getElem?_eq_some_iff.1 hb).1
theorem IntRow.keep {w w' : World} {D : Nat} {xs : List Nat} (h : IntRow w D xs) (hb : w'.heap[D]? = w.heap[D]?) : IntRow w' D xs := by
  obtain ⟨c, h1, h2⟩ := h
  exact ⟨c, hb.trans h1, h2⟩
theorem IntRow.eq {w : World} {D : Nat} {xs ys : List Nat} (h : IntRow w D xs) (e : xs = ys) : IntRow w D ys := e ▸ h
theorem grown_set {w wr : World} {D : Nat} (h : w.grownBy wr (some D)) (j : Nat) (u : Value) : w.grownBy (wr.setCell ⟨D, j, none⟩ u) (some D) :=
  ⟨h.os, h.tape, h.output, by simpa [World.setCell] using h.size, fun i hi hne => by rw [Below.heap_setCell _ _ _ _ (fun e => hne (by rw [e]))]; exact h.block i hi hne⟩
theorem grown_below {w wr w' : World} {D : Option Nat} (h : w.grownBy wr D) (hb : Below wr.heap.size wr w') : w.grownBy w' D :=
  ⟨hb.os.trans h.os, hb.tape.trans h.tape, hb.output.trans h.output, Nat.le_trans h.size hb.size, fun i hi hne => (hb.block i (Nat.lt_of_lt_of_le hi h.size)).trans (h.block i hi hne)⟩
theorem grown_refl (w : World) (D : Option Nat) : w.grownBy w D := ⟨rfl, rfl, rfl, Nat.le_refl _, fun _ _ _ => rfl⟩

abbrev ordF (bd br : Nat) : Value := .func (.func 32) #[] #[.pointer (some ⟨bd, 0, none⟩), .pointer (some ⟨br, 0, none⟩)]
/-- the closure compares places below n, whatever has become of the row D -/
structure Cmps (w : World) (D bd br n : Nat) (cm : Nat → Nat → Int) : Prop where
  call : ∀ wx, w.grownBy wx (some D) → ∀ a b, a < n → b < n → Calls Try.prog 32 #[.int .i64 (a : Nat), .int .i64 (b : Nat), .pointer (some ⟨bd, 0, none⟩), .pointer (some ⟨br, 0, none⟩)] wx fun e w' => e = .returned (.int .i64 (cm a b)) ∧ Below wx.heap.size wx w'
abbrev ltOf (cm : Nat → Nat → Int) : Nat → Nat → Bool := fun a b => decide (cm a b < 0)
theorem insAt_mem (lt : Nat → Nat → Bool) (x : Nat) : ∀ ys z, z ∈ insAt lt x ys ↔ z = x ∨ z ∈ ys
  | [], z => by simp [insAt]
  | y :: ys, z => by
    unfold insAt
    split
    · rw [List.mem_cons, insAt_mem lt x ys z, List.mem_cons]
      constructor <;> (intro h; rcases h with h | h | h <;> simp [h])
    · simp
theorem sortN_mem (lt : Nat → Nat → Bool) (xs : List Nat) : ∀ i, i ≤ xs.length → ∀ z ∈ sortN lt xs i, z ∈ xs
  | 0, _, z, h => by simp [sortN] at h
  | i + 1, hi, z, h => by
    rw [sortN, insAt_mem] at h
    rcases h with h | h
    · subst h
      rw [List.getD_eq_getElem?_getD, List.getElem?_eq_getElem (by omega)]
      exact List.getElem_mem _
    · exact sortN_mem lt xs i (by omega) z h
def arrAt (lt : Nat → Nat → Bool) (xs : List Nat) (i : Nat) : List Nat := (sortN lt xs (min i xs.length)).reverse ++ xs.drop i
theorem arrAt_end (lt : Nat → Nat → Bool) (xs : List Nat) {i : Nat} (h : xs.length ≤ i) : arrAt lt xs i = sortV lt xs := by
  unfold arrAt sortV
  rw [Nat.min_eq_right h, List.drop_of_length_le h, List.append_nil]
theorem arrAt_one (lt : Nat → Nat → Bool) (xs : List Nat) : arrAt lt xs 1 = xs := by
  cases xs with
  | nil => rfl
  | cons x xs => simp [arrAt, sortN, insAt, Nat.min_eq_left]
def insArr (T M R : List Nat) (x : Nat) : List Nat := T.reverse ++ x :: (M.reverse ++ R)
theorem insArr_x (T M R : List Nat) (x : Nat) : (insArr T M R x)[T.length]? = some x := by
  unfold insArr
  rw [List.getElem?_append_right (by simp)]
  simp
theorem insArr_y (T M R : List Nat) (x y : Nat) : (insArr (y :: T) M R x)[T.length]? = some y := by
  unfold insArr
  rw [List.getElem?_append_left (by simp), List.reverse_cons, List.getElem?_append_right (by simp)]
  simp
theorem insArr_swap (T M R : List Nat) (x y : Nat) : ((insArr (y :: T) M R x).set (T.length + 1) y).set T.length x = insArr T (M ++ [y]) R x := by
  unfold insArr
  have e1 : T.length + 1 = (y :: T).reverse.length := by simp
  rw [e1, List.set_append_right _ _ (Nat.le_refl _), Nat.sub_self]
  simp only [List.set_cons_zero, List.reverse_cons, List.append_assoc, List.singleton_append, List.reverse_append, List.reverse_nil, List.nil_append]
  rw [show T.length = T.reverse.length by simp, List.set_append_right _ _ (Nat.le_refl _), Nat.sub_self]
  simp
theorem insArr_len (T M R : List Nat) (x : Nat) : (insArr T M R x).length = T.length + 1 + M.length + R.length := by
  unfold insArr
  simp
  omega
set_option maxRecDepth 8000 in
set_option maxHeartbeats 4000000 in
theorem insert_c (D bd br n : Nat) (cm : Nat → Nat → Int) (xs : List Nat) (w : World) (hr : IntRow w D xs) (hn : xs.length ≤ 20) (hx : ∀ x ∈ xs, x < n) (hc : Cmps w D bd br n cm) :
    Calls Try.prog 75 #[.slice (some ⟨D, 0, none⟩) xs.length xs.length, .int .i64 0, .int .i64 (xs.length : Nat), ordF bd br] w fun e w' => e = .returned (.tuple #[]) ∧ IntRow w' D (sortV (ltOf cm) xs) ∧ w.grownBy w' (some D) := by
  obtain ⟨L, hL⟩ : ∃ L, xs.length = L := ⟨_, rfl⟩
  have hL' := Lib.hid hL
  rw [hL] at hn ⊢
  clear hL
  have hin := Lib.hid hx
  clear hx
  have hst : IntRow w D (arrAt (ltOf cm) xs 1) := hr.eq (arrAt_one _ _).symm
  go_enter Try.func75, Try.ntmps75
  go_wp2_with fail
  go_loopw [8] (fun a8 wr => ∃ i : Nat, a8 = .int .i64 i ∧ 1 ≤ i ∧ i ≤ L + 1 ∧ IntRow wr D (arrAt (ltOf cm) xs i) ∧ w.grownBy wr (some D)) (fun a _ => L + 1 - (intOf a).toNat)
  case atStart => exact ⟨1, rfl, Nat.le_refl _, by omega, hst, grown_refl _ _⟩
  case round =>
    clear hst hr
    obtain ⟨i, rfl, hi1, hi2, hr, hg⟩ := hrel
    by_cases hil : i < L
    · have hil' : (i : Int) < L := by omega
      go_wp2_with fail
      obtain ⟨x, hxd⟩ : ∃ x, x = xs.getD i 0 := ⟨_, rfl⟩
      have hsucc : arrAt (ltOf cm) xs (i + 1) = (insAt (ltOf cm) x (sortN (ltOf cm) xs i)).reverse ++ xs.drop (i + 1) := by
        unfold arrAt
        rw [Nat.min_eq_left (by rw [hL'.out]; omega), sortN, ← hxd]
      have hbeg : arrAt (ltOf cm) xs i = insArr (sortN (ltOf cm) xs i) [] (xs.drop (i + 1)) x := by
        unfold arrAt insArr
        have hlt : i < xs.length := by rw [hL'.out]; exact hil
        rw [Nat.min_eq_left (by omega), List.drop_eq_getElem_cons hlt, hxd, List.getD_eq_getElem?_getD, List.getElem?_eq_getElem hlt]
        rfl
      have hxn : x < n := by
        have hlt : i < xs.length := by rw [hL'.out]; exact hil
        refine hin.out x ?_
        rw [hxd, List.getD_eq_getElem?_getD, List.getElem?_eq_getElem hlt]
        exact List.getElem_mem _
      have hsn : ∀ z ∈ sortN (ltOf cm) xs i, z < n := fun z hz => hin.out z (sortN_mem _ _ i (by rw [hL'.out]; omega) z hz)
      have hsl := sortN_len (ltOf cm) xs i
      have hrl : (xs.drop (i + 1)).length = L - (i + 1) := by rw [List.length_drop, hL'.out]
      have hst : IntRow wr D (insArr (sortN (ltOf cm) xs i) [] (xs.drop (i + 1)) x) := hr.eq hbeg
      have hS := Lib.hid hsucc
      have hN := Lib.hid hsn
      have hR := Lib.hid hrl
      clear hsucc hbeg hsn hxd hr hrl
      generalize sortN (ltOf cm) xs i = S at *
      generalize xs.drop (i + 1) = R at *
      go_loopw [9] (fun a9 wx => ∃ (j : Nat) (T M : List Nat), a9 = .int .i64 j ∧ j ≤ i ∧ Hid (T.length = j) ∧ Hid (T.length + M.length = i) ∧ IntRow wx D (insArr T M R x) ∧ Hid (insAt (ltOf cm) x S = M ++ insAt (ltOf cm) x T) ∧ Hid (∀ z ∈ T, z < n) ∧ w.grownBy wx (some D)) (fun a _ => (intOf a).toNat)
      case atStart => exact ⟨i, S, [], rfl, Nat.le_refl _, hsl, by show _ = _; simp [hsl], hst, by show _ = _; simp, hN, hg⟩
      case round =>
        clear hst hg hN
        obtain ⟨j, T, M, rfl, hj, hTj, hTM, hr, hins, hN, hg⟩ := hrel
        have dn : ∀ wz, w.grownBy wz (some D) → IntRow wz D (insArr T M R x) → insAt (ltOf cm) x T = x :: T → IntRow wz D (arrAt (ltOf cm) xs (i + 1)) ∧ w.grownBy wz (some D) := by
          rintro wz h1 h2 h
          refine ⟨h2.eq ?_, h1⟩
          rw [hS.out, hins.out, h]
          unfold insArr
          simp
        have hg' := hg
        have wi : IntKind.i64.wrap ((i : Int) + 1) = (i : Int) + 1 := by rw [wrap_i64]; omega
        cases T with
        | nil =>
          have hj0 : j = 0 := hTj.out.symm
          subst hj0
          have hrr := Lib.hid hr
          have hlt := hr.lt
          clear hr hg
          go_upto_region 4 with fail
          (refine wp_region_flow [] (by kernel_rfl) (by kernel_rfl) ?_; (repeat (((with_reducible refine wpFlow_steps ?_); intro K hK; go_simp; first | (with_reducible refine hK _ ?_; clear hK K) | (apply Exists.intro; (with_reducible refine ⟨fun _ => ⟨?_, _, rfl⟩, hK _ ?_⟩); (· exact rfl); clear hK K) | (apply Exists.intro; (with_reducible refine ⟨fun _ => ⟨_, rfl⟩, hK _ ?_⟩); clear hK K) | (apply Exists.intro; (with_reducible refine ⟨fun _ => ?_, hK _ ?_⟩); (· (with_reducible (fail))); clear hK K)))); (refine wpFlow_nil ?_; rintro w1 ⟨q0, hq0⟩; have hb := In.h q0; rw [← hq0] at hb; clear hq0 q0; (first | ((with_reducible obtain ⟨p, hw''⟩ := In.of2 p hb); subst hw'') | (obtain ⟨p, hw''⟩ := In.of hb; subst hw'')); go_simp; intros))
          have fin := dn p.w (grown_below hg' p.h) (hrr.out.keep (p.h.block _ hlt)) rfl
          clear dn hrr
          go_wp2_with fail
          exact ⟨⟨i + 1, rfl, by omega, by omega, fin.1, fin.2⟩, by simp [intOf]; omega⟩
        | cons y T =>
          obtain ⟨j', hj'⟩ : ∃ j', j = j' + 1 := ⟨T.length, hTj.out.symm⟩
          have hjT : T.length = j' := by have := hTj.out; simp at this; omega
          have hlen := insArr_len (y :: T) M R x
          have hlenL : (insArr (y :: T) M R x).length = L := by
            have h1 := hTM.out
            have h2 := hR.out
            simp only [List.length_cons] at h1 hlen
            omega
          have cx := hr.cell (i := j) (by omega)
          have cy := hr.cell (i := j') (by omega)
          have ex : intsF (insArr (y :: T) M R x) j = .int .i64 (x : Nat) := by
            unfold intsF
            rw [List.getD_eq_getElem?_getD, show j = (y :: T).length by simp; omega, insArr_x]
            rfl
          have ey : intsF (insArr (y :: T) M R x) j' = .int .i64 (y : Nat) := by
            unfold intsF
            rw [List.getD_eq_getElem?_getD, ← hjT, insArr_y]
            rfl
          rw [ex] at cx
          rw [ey] at cy
          have lD := hr.lt
          have fD := fun j => hr.frozen j
          have hpos : (0 : Int) < (j : Int) := by omega
          have hposn : 0 < j := by omega
          have hjL : (j : Int) < L := by omega
          have hjL2 : (j' : Int) < L := by omega
          have wj : IntKind.i64.wrap ((j : Int) - 1) = (j' : Int) := by rw [wrap_i64]; omega
          have hyn : y < n := hN.out y (by simp)
          have cc := fun p : In wr => hc.call p.w (grown_below hg p.h) x y hxn hyn
          have hrr := Lib.hid hr
          have hgg := Lib.hid hg
          have hJ := Lib.hid (And.intro hj' hjT)
          clear hr hg hg' hlen hlenL ex ey hj' hjT
          by_cases hlt : cm x y < 0
          · have hdec : decide (cm x y < 0) = true := by simpa using hlt
            clear dn
            go_upto_region 4 with fail
            (refine wp_region_flow [] (by kernel_rfl) (by kernel_rfl) ?_; (repeat (((with_reducible refine wpFlow_steps ?_); intro K hK; go_simp; first | (with_reducible refine hK _ ?_; clear hK K) | (apply Exists.intro; (with_reducible refine ⟨fun _ => ⟨?_, _, rfl⟩, hK _ ?_⟩); (· exact rfl); clear hK K) | (apply Exists.intro; (with_reducible refine ⟨fun _ => ⟨_, rfl⟩, hK _ ?_⟩); clear hK K) | (apply Exists.intro; (with_reducible refine ⟨fun _ => ?_, hK _ ?_⟩); (· (with_reducible (first | exact cc _))); clear hK K)))); (refine wpFlow_nil ?_; rintro w1 ⟨q0, hq0⟩; have hb := In.h q0; rw [← hq0] at hb; clear hq0 q0; (first | ((with_reducible obtain ⟨p, hw''⟩ := In.of2 p hb); subst hw'') | (obtain ⟨p, hw''⟩ := In.of hb; subst hw'')); go_simp; intros))
            have hr5 := hrr.out.keep (p.h.block _ lD)
            have hg5 := grown_below hgg.out p.h
            clear cx cy fD cc hb
            go_upto_region 6 with fail
            generalize p.w = w5 at *
            clear p
            have hlen := insArr_len (y :: T) M R x
            have hlenL : (insArr (y :: T) M R x).length = L := by
              have h1 := hTM.out
              have h2 := hR.out
              simp only [List.length_cons] at h1 hlen
              omega
            obtain ⟨hj', hjT⟩ := hJ.out
            have cx := hr5.cell (i := j) (by omega)
            have cy := hr5.cell (i := j') (by omega)
            have ex : intsF (insArr (y :: T) M R x) j = .int .i64 (x : Nat) := by
              unfold intsF
              rw [List.getD_eq_getElem?_getD, show j = (y :: T).length by simp; omega, insArr_x]
              rfl
            have ey : intsF (insArr (y :: T) M R x) j' = .int .i64 (y : Nat) := by
              unfold intsF
              rw [List.getD_eq_getElem?_getD, ← hjT, insArr_y]
              rfl
            rw [ex] at cx
            rw [ey] at cy
            have fD := fun j => hr5.frozen j
            have lD5 := hr5.lt
            have hne : j ≠ j' := by omega
            have hne2 : j' ≠ j := by omega
            have nxt : IntRow ((w5.setCell ⟨D, j, none⟩ (.int .i64 (y : Nat))).setCell ⟨D, j', none⟩ (.int .i64 (x : Nat))) D (insArr T (M ++ [y]) R x) := by
              refine ((hr5.set (i := j) (by omega) y).set (i := j') (by rw [List.length_set]; omega) x).eq ?_
              rw [hj', ← hjT, insArr_swap]
            have nxg := grown_set (grown_set hg5 j (.int .i64 (y : Nat))) j' (.int .i64 (x : Nat))
            have hins2 : insAt (ltOf cm) x S = (M ++ [y]) ++ insAt (ltOf cm) x T := by
              rw [hins.out, insAt, if_pos (by simpa [ltOf] using hlt)]
              simp
            have hins2 := Lib.hid hins2
            have hTM2 : Hid (T.length + (M ++ [y]).length = i) := by
              show _ = _
              have h1 := hTM.out
              simp only [List.length_cons, List.length_append, List.length_nil] at h1 ⊢
              omega
            have nxt := Lib.hid nxt
            have nxg := Lib.hid nxg
            have hJJ : Hid (T.length = j') := hjT
            have hN2 : Hid (∀ z ∈ T, z < n) := fun z hz => hN.out z (by simp [hz])
            have hle : j' ≤ i := by omega
            have hlt2 : j' < j := by omega
            clear hr5 hg5 hrr hgg hlen hlenL hj' hjT ex ey hins hTM hN hdec hlt hJ hTj lD hc
            go_region
            go_wp2_with fail
            exact ⟨⟨j', T, M ++ [y], rfl, hle, hJJ, hTM2, nxt.out.keep rfl, hins2, hN2, ⟨nxg.out.os, nxg.out.tape, nxg.out.output, nxg.out.size, nxg.out.block⟩⟩, by simp [intOf]; omega⟩
          · have hdec : decide (cm x y < 0) = false := by simpa using hlt
            have hge : 0 ≤ cm x y := by omega
            go_upto_region 4 with fail
            (refine wp_region_flow [] (by kernel_rfl) (by kernel_rfl) ?_; (repeat (((with_reducible refine wpFlow_steps ?_); intro K hK; go_simp; first | (with_reducible refine hK _ ?_; clear hK K) | (apply Exists.intro; (with_reducible refine ⟨fun _ => ⟨?_, _, rfl⟩, hK _ ?_⟩); (· exact rfl); clear hK K) | (apply Exists.intro; (with_reducible refine ⟨fun _ => ⟨_, rfl⟩, hK _ ?_⟩); clear hK K) | (apply Exists.intro; (with_reducible refine ⟨fun _ => ?_, hK _ ?_⟩); (· (with_reducible (first | exact cc _))); clear hK K)))); (refine wpFlow_nil ?_; rintro w1 ⟨q0, hq0⟩; have hb := In.h q0; rw [← hq0] at hb; clear hq0 q0; (first | ((with_reducible obtain ⟨p, hw''⟩ := In.of2 p hb); subst hw'') | (obtain ⟨p, hw''⟩ := In.of hb; subst hw'')); go_simp; intros))
            have fin := dn p.w (grown_below hgg.out p.h) (hrr.out.keep (p.h.block _ lD)) (by rw [insAt, if_neg (by simpa [ltOf] using hge)])
            clear dn hrr hgg cx cy fD cc
            go_wp2_with fail
            exact ⟨⟨i + 1, rfl, by omega, by omega, fin.1, fin.2⟩, by simp [intOf]; omega⟩
    · have hil' : ¬ (i : Int) < L := by omega
      have hf := hr.eq (arrAt_end (ltOf cm) xs (by rw [hL'.out]; omega))
      clear hr
      go_wp2_with fail
      go_end0
      exact ⟨rfl, hf, hg⟩

theorem insert_none (D bd br n : Nat) (a : Nat) (ha : n ≤ a + 1) (ha2 : a ≤ 20) (w : World) :
    Calls Try.prog 75 #[.slice (some ⟨D, 0, none⟩) n n, .int .i64 (a : Nat), .int .i64 (n : Nat), ordF bd br] w fun e w' => e = .returned (.tuple #[]) ∧ w' = w := by
  have hw : IntKind.i64.wrap ((a : Int) + 1) = (a : Int) + 1 := by rw [wrap_i64]; omega
  have hn : ¬ (a : Int) + 1 < n := by omega
  go_enter Try.func75, Try.ntmps75
  go_wp2_with fail
  go_loopw [8] (fun a8 wr => a8 = .int .i64 ((a : Int) + 1) ∧ wr = w) (fun a _ => 0)
  case atStart => exact ⟨rfl, rfl⟩
  case round =>
    obtain ⟨rfl, rfl⟩ := hrel
    go_wp2_with fail
    go_end0
    exact ⟨rfl, rfl⟩
set_option maxRecDepth 8000 in
set_option maxHeartbeats 4000000 in
theorem stable_c (D bd br n : Nat) (cm : Nat → Nat → Int) (xs : List Nat) (w : World) (hr : IntRow w D xs) (hn : xs.length ≤ 20) (hx : ∀ x ∈ xs, x < n) (hc : Cmps w D bd br n cm) :
    Calls Try.prog 56 #[.slice (some ⟨D, 0, none⟩) xs.length xs.length, .int .i64 (xs.length : Nat), ordF bd br] w fun e w' => e = .returned (.tuple #[]) ∧ IntRow w' D (sortV (ltOf cm) xs) ∧ w.grownBy w' (some D) := by
  have c1 := insert_c D bd br n cm xs w hr hn hx hc
  obtain ⟨L, hL⟩ : ∃ L, xs.length = L := ⟨_, rfl⟩
  rw [hL] at c1 hn ⊢
  clear hL hr hx hc
  by_cases h20 : L = 20
  · subst h20
    have c2 := fun w => insert_none D bd br 20 20 (by omega) (by omega) w
    have e20 : (((20 : Nat) : Int)) = 20 := rfl
    rw [e20] at c1 c2 ⊢
    go_enter Try.func56, Try.ntmps56
    go_wp2_with fail
    go_loopw [7, 8] (fun a7 a8 wr => (a7 = .int .i64 0 ∧ a8 = .int .i64 20 ∧ wr = w) ∨ (a7 = .int .i64 20 ∧ a8 = .int .i64 40 ∧ IntRow wr D (sortV (ltOf cm) xs) ∧ w.grownBy wr (some D))) (fun _ a _ => 60 - (intOf a).toNat)
    case atStart => exact .inl ⟨rfl, rfl, rfl⟩
    case round =>
      rcases hrel with ⟨rfl, rfl, rfl⟩ | ⟨rfl, rfl, h1, h2⟩
      · go_wp2_with ((with_reducible refine c1.mono ?_); rintro e w2 ⟨rfl, h1, h2⟩)
        exact ⟨.inr ⟨rfl, rfl, h1, h2⟩, by simp [intOf]⟩
      · go_wp2_with ((with_reducible refine (c2 _).mono ?_); rintro e w2 ⟨rfl, rfl⟩)
        go_loopw [6] (fun a6 wz => a6 = .int .i64 20 ∧ wz = w2) (fun _ _ => 0)
        case atStart => exact ⟨rfl, rfl⟩
        case round =>
          obtain ⟨rfl, rfl⟩ := hrel
          go_wp2_with fail
          go_end0
          exact ⟨rfl, h1, h2⟩
  · have hlt : ¬ (20 : Int) ≤ L := by omega
    have hlt2 : ¬ (20 : Int) < L := by omega
    go_enter Try.func56, Try.ntmps56
    go_wp2_with fail
    go_loopw [7, 8] (fun a7 a8 wr => a7 = .int .i64 0 ∧ a8 = .int .i64 20 ∧ wr = w) (fun _ _ _ => 0)
    case atStart => exact ⟨rfl, rfl, rfl⟩
    case round =>
      obtain ⟨rfl, rfl, rfl⟩ := hrel
      go_wp2_with ((with_reducible refine c1.mono ?_); rintro e w2 ⟨rfl, h1, h2⟩)
      go_loopw [6] (fun a6 wz => a6 = .int .i64 20 ∧ wz = w2) (fun _ _ => 0)
      case atStart => exact ⟨rfl, rfl⟩
      case round =>
        obtain ⟨rfl, rfl⟩ := hrel
        go_wp2_with fail
        go_end0
        exact ⟨rfl, h1, h2⟩
theorem sorts_c (D bd br n : Nat) (cm : Nat → Nat → Int) (xs : List Nat) (w : World) (hr : IntRow w D xs) (hn : xs.length ≤ 20) (hx : ∀ x ∈ xs, x < n) (hc : Cmps w D bd br n cm) :
    Calls Try.prog 31 #[.slice (some ⟨D, 0, none⟩) xs.length xs.length, ordF bd br] w fun e w' => e = .returned (.tuple #[]) ∧ IntRow w' D (sortV (ltOf cm) xs) ∧ w.grownBy w' (some D) := by
  have c1 := stable_c D bd br n cm xs w hr hn hx hc
  clear hr hx hc
  go_enter Try.func31, Try.ntmps31
  go_wp2_with ((with_reducible refine c1.mono ?_); rintro e w2 ⟨rfl, h1, h2⟩)
  go_end0
  exact ⟨rfl, h1, h2⟩
end Go.Proofs.Ytipjelkdbbhcpaa
