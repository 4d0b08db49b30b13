
/-
  trav.Simple and what it calls.
-/
import Derived.Test.YtfccplkfdhpdgaaTrvG
set_option linter.unusedSimpArgs false
set_option linter.unusedVariables false
namespace Go.Proofs.Ytfccplkfdhpdgaa
open Go.RowKit

/-- is a value one of some? -/
def anyV (v : Val) (l : List Val) : Bool := l.any (eqV v)
theorem anyV_snoc {v : Val} {l : List Val} {i : Nat} {x : Val} (h : l[i]? = some x) : anyV v (l.take (i + 1)) = (anyV v (l.take i) || eqV v x) := by
  obtain ⟨hi, rfl⟩ := List.getElem?_eq_some_iff.1 h
  unfold anyV
  rw [List.take_succ_eq_append_getElem hi, List.any_append]
  simp
abbrev simpleF (b : Nat) : Value := .func (.func 39) #[] #[.pointer (some ⟨b, 0, none⟩)]
set_option maxRecDepth 8000 in
theorem simple1_c (g : Nat) (v x : Val) (k : Int) (b : Bool) (n : Int) (f : Nat) (s : List UInt8) (B : Option Addr) (len c : Nat) (k' : Int) (b' : Bool) (n' : Int) (f' : Nat) (s' : List UInt8) (B' : Option Addr) (len' c' : Nat) (w : World) (hg : Box w g k b n f s B len c) (hv : Has w (valV k b n f s B len c) v) (hx : Has w (valV k' b' n' f' s' B' len' c') x) :
    Calls Try.prog 39 #[valV k' b' n' f' s' B' len' c', .pointer (some ⟨g, 0, none⟩)] w fun e w' => e = .returned (.bool (eqV v x)) ∧ Below w.heap.size w w' := by
  have cs : ∀ w', Below w.heap.size w w' → Calls Try.prog 30 #[valV k b n f s B len c, valV k' b' n' f' s' B' len' c'] w' fun e w'' => e = .returned (.bool (eqV v x)) ∧ Below w'.heap.size w' w'' :=
    fun w' hb => samev_c v x _ _ w' (hv.keep hb) (hx.keep hb)
  have hgk := hg.keep (below_alloc w (.cells #[.int .i64 k', .bool b', .int .i64 n', .float .f64 f', .string (st s'), .slice B' len' c'] 31))
  obtain ⟨q6, q0, q1, q2, q3, q4, q5⟩ := hgk
  clear hv hx hg
  go_enter Try.func39, Try.ntmps39
  go_wp2_with ((with_reducible refine (cs _ (below_alloc _ _)).mono ?_); rintro e w2 ⟨rfl, hb2⟩)
  go_ret
  exact ⟨rfl, (below_alloc _ _).trans (hb2.mono (below_alloc _ _).size)⟩
def IndexEnds (r0 : Bool) (w : World) (e : Ending) (w' : World) : Prop := ∃ r : Int, e = .returned (.int .i64 r) ∧ decide (0 ≤ r) = r0 ∧ Below w.heap.size w w'
set_option maxRecDepth 8000 in
set_option maxHeartbeats 4000000 in
theorem index_c (g : Nat) (v : Val) (k : Int) (b : Bool) (n : Int) (f : Nat) (s : List UInt8) (B : Option Addr) (len c : Nat) (l : List Val) (A : Option Addr) (cap : Nat) (w : World) (hg : Box w g k b n f s B len c) (hv : Has w (valV k b n f s B len c) v) (hp : Parts w A l) (hl : l.length ≤ maxLen) :
    Calls Try.prog 47 #[.slice A l.length cap, simpleF g] w (IndexEnds (anyV v l) w) := by
  unfold maxLen at hl
  go_enter Try.func47, Try.ntmps47
  go_wp2_with fail
  go_loopw [8] (fun a8 wr => ∃ i : Nat, a8 = .int .i64 i ∧ i ≤ l.length ∧ Hid (anyV v (l.take i) = false) ∧ Below w.heap.size w wr) (fun a _ => l.length - (intOf a).toNat)
  case atStart => exact ⟨0, rfl, Nat.zero_le _, rfl, Below.refl _ _⟩
  case round =>
    obtain ⟨i, rfl, hi, hno, hbr⟩ := hrel
    by_cases hil : i < l.length
    · have hil' : (i : Int) < l.length := by omega
      obtain ⟨ad, k', b', n', f', s', B', len', c', rfl, hx, hat⟩ := hp i l[i] (by simp)
      obtain ⟨q6, q0, q1, q2, q3, q4, q5⟩ := hat.keep hbr
      have cs := simple1_c g v l[i] k b n f s B len c k' b' n' f' s' B' len' c' wr (hg.keep hbr) (hv.keep hbr) (hx.keep hbr)
      have hst := Lib.hid (anyV_snoc (v := v) (l := l) (i := i) (x := l[i]) (by simp))
      have wi : IntKind.i64.wrap ((i : Int) + 1) = (i : Int) + 1 := by rw [wrap_i64]; omega
      have hle : ∀ j, anyV v (l.take j) = true → anyV v l = true := fun j h => by
        unfold anyV at h ⊢
        rw [List.any_eq_true] at h ⊢
        obtain ⟨y, h1, h2⟩ := h
        exact ⟨y, List.mem_of_mem_take h1, h2⟩
      generalize l[i] = x at *
      clear hat hx hp hv hg
      cases he : eqV v x
      · rw [he] at cs
        go_wp2_with ((with_reducible refine cs.mono ?_); rintro e w2 ⟨rfl, hb2⟩)
        refine ⟨⟨i + 1, rfl, hil, ?_, hbr.trans (hb2.mono hbr.size)⟩, by simp [intOf]; omega⟩
        show _ = _
        rw [hst.out, hno.out, he]; rfl
      · rw [he] at cs
        have hyes := Lib.hid (hle (i + 1) (by rw [hst.out, he]; simp))
        clear hle
        go_wp2_with ((with_reducible refine cs.mono ?_); rintro e w2 ⟨rfl, hb2⟩)
        go_ret
        exact ⟨_, rfl, by rw [hyes.out]; simp, hbr.trans (hb2.mono hbr.size)⟩
    · have hil' : ¬ (i : Int) < l.length := by omega
      have hf := hno.out
      rw [List.take_of_length_le (by omega)] at hf
      have hF := Lib.hid hf
      clear hf hp hv hg hno
      go_wp2_with fail
      go_ret
      exact ⟨_, rfl, by rw [hF.out]; rfl, hbr⟩
set_option maxRecDepth 8000 in
set_option maxHeartbeats 4000000 in
theorem contains_c (g : Nat) (v : Val) (k : Int) (b : Bool) (n : Int) (f : Nat) (s : List UInt8) (B : Option Addr) (len c : Nat) (l : List Val) (A : Option Addr) (cap : Nat) (w : World) (hg : Box w g k b n f s B len c) (hv : Has w (valV k b n f s B len c) v) (hp : Parts w A l) (hl : l.length ≤ maxLen) :
    Calls Try.prog 38 #[.slice A l.length cap, simpleF g] w fun e w' => e = .returned (.bool (anyV v l)) ∧ Below w.heap.size w w' := by
  have cs : Calls Try.prog 47 #[.slice A l.length cap, simpleF g] w fun e w' => ∃ r : Int, e = .returned (.int .i64 r) ∧ decide (0 ≤ r) = anyV v l ∧ Below w.heap.size w w' := index_c g v k b n f s B len c l A cap w hg hv hp hl
  clear hg hv hp
  go_enter Try.func38, Try.ntmps38
  go_wp2_with ((with_reducible refine cs.mono ?_); rintro e w2 ⟨r, rfl, hd, hb2⟩)
  go_ret
  exact ⟨rfl, hb2⟩
/-- is no value of the first so many the same as one ahead of it? -/
def aloneTo (l : List Val) (i : Nat) : Bool := (List.range i).all fun a => !anyV (l.getD a default) (l.take a)
theorem aloneTo_succ {l : List Val} {i : Nat} {x : Val} (h : l[i]? = some x) : aloneTo l (i + 1) = (aloneTo l i && !anyV x (l.take i)) := by
  unfold aloneTo
  rw [List.range_succ, List.all_append]
  simp [List.getD, h]
theorem aloneTo_false {l : List Val} {i : Nat} (h : aloneTo l i = false) : ∀ j, i ≤ j → aloneTo l j = false := by
  intro j hj
  unfold aloneTo at *
  rw [List.all_eq_false] at h ⊢
  obtain ⟨x, h1, h2⟩ := h
  exact ⟨x, by rw [List.mem_range] at h1 ⊢; omega, h2⟩

set_option maxRecDepth 8000 in
set_option maxHeartbeats 4000000 in
theorem simple_c (t : TravD) (k : Int) (b : Bool) (n : Int) (f : Nat) (s : List UInt8) (B : Option Addr) (len c : Nat) (P : Option Addr) (pl pc : Nat) (T : Option Addr) (tl tc : Nat) (q : Int) (w : World) (ht : HasT w k b n f s B len c P pl pc T tl tc q t) :
    Calls Try.prog 23 #[travV k b n f s B len c P pl pc T tl tc q] w fun e w' => e = .returned (.bool (aloneTo t.path t.path.length)) ∧ Below w.heap.size w w' := by
  have hp := ht.hp
  have epl := ht.epl
  have hpc := ht.hpc
  have hpm := ht.hpm
  unfold maxLen at hpm
  subst epl
  clear ht
  go_enter Try.func23, Try.ntmps23
  go_upto_region 1 with fail
  obtain ⟨w1, hw1⟩ : ∃ w1, w1 = w.alloc (.cells #[.int .i64 k, .bool b, .int .i64 n, .float .f64 f, .string (st s), .slice B len c, .slice P t.path.length pc, .slice T tl tc, .int .i64 q] 34) := ⟨_, rfl⟩
  have hb1 : Below w.heap.size w w1 := hw1 ▸ below_alloc w _
  have hlt : w.heap.size < w1.heap.size := by rw [hw1]; simp
  have h6 : w1.cell? ⟨w.heap.size, 6, none⟩ = some (.slice P t.path.length pc) := by rw [hw1]; simp [go_sem]
  rw [← hw1]
  clear hw1
  go_wp2_with fail
  go_loopw [8] (fun a8 wr => ∃ i : Nat, a8 = .int .i64 i ∧ i ≤ t.path.length ∧ Hid (aloneTo t.path i = true) ∧ Below w1.heap.size w1 wr) (fun a _ => t.path.length - (intOf a).toNat)
  case atStart => exact ⟨0, rfl, Nat.zero_le _, rfl, Below.refl _ _⟩
  case round =>
    obtain ⟨i, rfl, hi, hno, hbr⟩ := hrel
    have hbw := hb1.trans (hbr.mono hb1.size)
    by_cases hil : i < t.path.length
    · have hil' : (i : Int) < t.path.length := by omega
      have hic : (i : Int) ≤ pc := by omega
      have h6r := (hbr.cell (p := ⟨w.heap.size, 6, none⟩) hlt).trans h6
      have hltr := Nat.lt_of_lt_of_le hlt hbr.size
      obtain ⟨ad, k', b', n', f', s', B', len', c', rfl, hx, hat⟩ := hp i t.path[i] (by simp)
      obtain ⟨q6, q0, q1, q2, q3, q4, q5⟩ := hat.keep hbw
      have hst := Lib.hid (aloneTo_succ (l := t.path) (i := i) (x := t.path[i]) (by simp))
      have wi : IntKind.i64.wrap ((i : Int) + 1) = (i : Int) + 1 := by rw [wrap_i64]; omega
      have hbx := below_alloc wr (.cells #[.int .i64 k', .bool b', .int .i64 n', .float .f64 f', .string (st s'), .slice B' len' c'] 31)
      have cc : Calls Try.prog 38 #[.slice (some ad) i pc, simpleF wr.heap.size] (wr.alloc (.cells #[.int .i64 k', .bool b', .int .i64 n', .float .f64 f', .string (st s'), .slice B' len' c'] 31)) fun e w' => e = .returned (.bool (anyV t.path[i] (t.path.take i))) ∧ Below (wr.alloc (.cells #[.int .i64 k', .bool b', .int .i64 n', .float .f64 f', .string (st s'), .slice B' len' c'] 31)).heap.size (wr.alloc (.cells #[.int .i64 k', .bool b', .int .i64 n', .float .f64 f', .string (st s'), .slice B' len' c'] 31)) w' := by
        have h := contains_c wr.heap.size t.path[i] k' b' n' f' s' B' len' c' (t.path.take i) (some ad) pc _ (Box.new wr k' b' n' f' s' B' len' c' 31) ((hx.keep hbw).keep hbx) (((Parts.take hp i).keep hbw).keep hbx) (by rw [List.length_take]; unfold maxLen; omega)
        rwa [List.length_take, Nat.min_eq_left hi] at h
      generalize t.path[i] = x at *
      clear hat hx hp
      cases he : anyV x (t.path.take i)
      · rw [he] at cc
        go_wp2_with ((with_reducible refine cc.mono ?_); rintro e w2 ⟨rfl, hb2⟩)
        refine ⟨⟨i + 1, rfl, hil, ?_, hbr.trans ((hbx.trans (hb2.mono hbx.size)).mono hbr.size)⟩, by simp [intOf]; omega⟩
        show _ = _
        rw [hst.out, hno.out, he]; rfl
      · rw [he] at cc
        have hF := Lib.hid (aloneTo_false (l := t.path) (i := i + 1) (by rw [hst.out, he]; simp) t.path.length hil)
        go_wp2_with ((with_reducible refine cc.mono ?_); rintro e w2 ⟨rfl, hb2⟩)
        go_ret
        exact ⟨ret_bool hF.out.symm, hbw.trans ((hbx.trans (hb2.mono hbx.size)).mono hbw.size)⟩
    · have hil' : ¬ (i : Int) < t.path.length := by omega
      have hf := hno.out
      rw [show i = t.path.length by omega] at hf
      have hF := Lib.hid hf
      clear hf hp hno
      go_wp2_with fail
      go_ret
      exact ⟨ret_bool hF.out.symm, hbw⟩
end Go.Proofs.Ytfccplkfdhpdgaa
