
/-
  val's getter: what it takes, in plain words; parts.
-/
import Derived.Test.YtkbacjlnfmibaaaGetA
import Derived.Test.YtkbacjlnfmibaaaValR
set_option linter.unusedSimpArgs false
set_option linter.unusedVariables false
namespace Go.Proofs.Ytkbacjlnfmibaaa
open Go.RowKit Go.Deep

abbrev zeroV : Val := .mk 0 false 0 0 [] []
/-- so many parts are taken, as long as there is no error -/
def partsF (f : List UInt8 → Val × List UInt8 × Int) : Nat → List UInt8 → Int → List Val → List Val × List UInt8 × Int
  | 0, s, e, acc => (acc, s, e)
  | n + 1, s, e, acc => if e = 0 then partsF f n (f s).2.1 (f s).2.2 (acc ++ [(f s).1]) else (acc, s, e)
def partsE (s : List UInt8) : Int := if 1000 < wide (tkS s 0 2) then flE (tkE s 0 2) 3 else tkE s 0 2
def partsV (f : List UInt8 → Val × List UInt8 × Int) (s : List UInt8) : List Val × List UInt8 × Int := partsF f (wide (tkS s 0 2)) (tkR s 0 2) (partsE s) []
/-- a value is taken off bytes: it, what is left, the first error; so many levels are left -/
def getF : Nat → List UInt8 → Val × List UInt8 × Int
  | 0, s => (zeroV, s, 3)
  | m + 1, s =>
    match s with
    | [] => (zeroV, [], 4)
    | c :: r =>
      if c.toNat = 0 then (zeroV, r, 0)
      else if c.toNat = 1 then (.mk 1 (wide (tkS r 0 1) == 1) 0 0 [] [], tkR r 0 1, if 1 < wide (tkS r 0 1) then flE (tkE r 0 1) 6 else tkE r 0 1)
      else if c.toNat = 2 ∨ c.toNat = 7 ∨ c.toNat = 8 then (.mk c.toNat false (wrap64 (wide (tkS r 0 8))) 0 [] [], tkR r 0 8, if c.toNat ≠ 2 ∧ wrap64 (wide (tkS r 0 8)) < 1 then flE (tkE r 0 8) 6 else tkE r 0 8)
      else if c.toNat = 3 then (.mk 3 false 0 (wide (tkS r 0 8)) [] [], tkR r 0 8, if canon (wide (tkS r 0 8)) ≠ wide (tkS r 0 8) then flE (tkE r 0 8) 6 else tkE r 0 8)
      else if c.toNat = 4 then
        (.mk 4 false 0 0 (tkS (tkR r 0 2) (if 500 < wide (tkS r 0 2) then flE (tkE r 0 2) 3 else tkE r 0 2) (wide (tkS r 0 2))) [],
          tkR (tkR r 0 2) (if 500 < wide (tkS r 0 2) then flE (tkE r 0 2) 3 else tkE r 0 2) (wide (tkS r 0 2)),
          tkE (tkR r 0 2) (if 500 < wide (tkS r 0 2) then flE (tkE r 0 2) 3 else tkE r 0 2) (wide (tkS r 0 2)))
      else if c.toNat = 5 ∨ c.toNat = 6 then (.mk c.toNat false 0 0 [] (partsV (getF m) r).1, (partsV (getF m) r).2.1, if c.toNat = 6 ∧ risesV (partsV (getF m) r).1 = false then flE (partsV (getF m) r).2.2 6 else (partsV (getF m) r).2.2)
      else (.mk c.toNat false 0 0 [] [], r, 6)

theorem tkS_len (s : List UInt8) (e : Int) (n : Nat) : (tkS s e n).length ≤ n := by
  unfold tkS
  split
  · simp; omega
  · simp
theorem tkR_len (s : List UInt8) (e : Int) (n : Nat) : (tkR s e n).length ≤ s.length := by
  unfold tkR
  split
  · simp
  · exact Nat.le_refl _
theorem wideN_all {l : List UInt8} (h : l.length ≤ 8) : wideN l 8 = (wide l : Int) := by
  unfold wideN
  rw [List.take_of_length_le h]
theorem wide2_lt (s : List UInt8) (e : Int) : wide (tkS s e 2) < 65536 := by
  have h := wide_lt (tkS s e 2)
  have h2 := tkS_len s e 2
  have h3 : 256 ^ (tkS s e 2).length ≤ 256 ^ 2 := Nat.pow_le_pow_right (by decide) h2
  omega
theorem partsF_len (f : List UInt8 → Val × List UInt8 × Int) (hf : ∀ s, (f s).2.1.length ≤ s.length) : ∀ (n : Nat) (s : List UInt8) (e : Int) (acc : List Val), (partsF f n s e acc).2.1.length ≤ s.length ∧ (partsF f n s e acc).1.length ≤ acc.length + n
  | 0, s, e, acc => ⟨Nat.le_refl _, Nat.le_refl _⟩
  | n + 1, s, e, acc => by
    rw [partsF]
    split
    · have h := partsF_len f hf n (f s).2.1 (f s).2.2 (acc ++ [(f s).1])
      have h2 := hf s
      simp at h
      omega
    · exact ⟨Nat.le_refl _, Nat.le_add_right _ _⟩
theorem getF_len : ∀ (m : Nat) (s : List UInt8), (getF m s).2.1.length ≤ s.length
  | 0, s => Nat.le_refl _
  | m + 1, s => by
    have ih := getF_len m
    cases s with
    | nil => exact Nat.le_refl _
    | cons c r =>
      rw [getF]
      have h1 := tkR_len r 0 1
      have h8 := tkR_len r 0 8
      have h2 := tkR_len r 0 2
      have h4 := tkR_len (tkR r 0 2) (if 500 < wide (tkS r 0 2) then flE (tkE r 0 2) 3 else tkE r 0 2) (wide (tkS r 0 2))
      have hp := (partsF_len (getF m) ih (wide (tkS r 0 2)) (tkR r 0 2) (partsE r) []).1
      simp only [List.length_cons]
      split
      · simp
      split
      · show (tkR r 0 1).length ≤ _; omega
      split
      · show (tkR r 0 8).length ≤ _; omega
      split
      · show (tkR r 0 8).length ≤ _; omega
      split
      · show (tkR (tkR r 0 2) _ _).length ≤ _; omega
      split
      · show (partsV (getF m) r).2.1.length ≤ _
        unfold partsV
        omega
      · simp

/-- a value in memory whose rows lie in blocks that are such -/
inductive HasP (P : Nat → Prop) (w : World) : Value → Val → Prop
  | mk {k : Int} {b : Bool} {n : Int} {f : Nat} {s : List UInt8} {l : List Val} {A : Option Addr} {cap : Nat} (el : Nat → Value) (hk : I64 k) (hn : I64 n) (hf : U64 f) (hs : s.length ≤ 140737488351232) (hb : l.length ≤ 140737488351232) (hl : l.length ≤ cap) (hm : cap ≤ maxLen)
      (h : ∀ i x, l[i]? = some x → HasP P w (el i) x)
      (hc : ∀ i, i < l.length → ∃ ad : Addr, A = some ad ∧ P ad.block ∧ ∀ j u, (el i).cells[j]? = some u → w.cell? (ad.add (i * 6 + j)) = some u) :
      HasP P w (valV k b n f s A l.length cap) (.mk k b n f s l)
theorem HasP.has {P : Nat → Prop} {w : World} {u : Value} {v : Val} (h : HasP P w u v) : Has w u v := by
  induction h with
  | mk el hk hn hf hs hb hl hm h hc ih =>
    refine .mk el hk hn hf hs hb hl hm ih fun i hi => ?_
    obtain ⟨ad, h1, _, h2⟩ := hc i hi
    exact ⟨ad, h1, h2⟩
theorem add_block (ad : Addr) (n : Nat) : (ad.add n).block = ad.block := by unfold Addr.add; split <;> rfl
theorem HasP.step {P Q : Nat → Prop} {w w' : World} {u : Value} {v : Val} (h : HasP P w u v) (hw : ∀ b, P b → b < w.heap.size → w'.heap[b]? = w.heap[b]?) (hq : ∀ b, P b → b < w.heap.size → Q b) : HasP Q w' u v := by
  induction h with
  | @mk k b n f s l A cap el hk hn hf hs hb hl hm h hc ih =>
    refine .mk el hk hn hf hs hb hl hm ih fun i hi => ?_
    obtain ⟨ad, h1, hp, h2⟩ := hc i hi
    have hlt : ad.block < w.heap.size := by
      obtain ⟨A', cap', he, _⟩ := (h i l[i] (by simp)).has.open
      have := cell_lt' (h2 0 _ (by rw [he]; rfl))
      rwa [add_block] at this
    refine ⟨ad, h1, hq _ hp hlt, fun j u hu => ?_⟩
    have e := World.cell?_of_block (w := w) (w' := w') (a := ad.add (i * 6 + j)) (by rw [add_block]; exact hw _ hp hlt)
    rw [e]
    exact h2 j u hu
/-- .. without rows -/
theorem HasP.flat (P : Nat → Prop) (w : World) {k : Int} {b : Bool} {n : Int} {f : Nat} {s : List UInt8} (hk : I64 k) (hn : I64 n) (hf : U64 f) (hs : s.length ≤ 140737488351232) : HasP P w (valV k b n f s none 0 0) (.mk k b n f s []) :=
  HasP.mk (P := P) (w := w) (k := k) (b := b) (n := n) (f := f) (s := s) (l := []) (A := none) (cap := 0) (fun _ => .agg #[]) hk hn hf hs (Nat.zero_le _) (Nat.zero_le _) (Nat.zero_le _) (fun i x hx => by cases hx) (fun i hi => absurd hi (Nat.not_lt_zero _))
/-- the parts of a slice whose rows lie in blocks that are such -/
def PartsP (P : Nat → Prop) (w : World) (A : Option Addr) (la : List Val) : Prop := ∀ (i : Nat) (x : Val), la[i]? = some x → ∃ ad k b n f s B len c, A = some ad ∧ P ad.block ∧ HasP P w (valV k b n f s B len c) x ∧ ValAt w (ad.add (i * 6)) k b n f s B len c
theorem PartsP.parts {P : Nat → Prop} {w : World} {A : Option Addr} {la : List Val} (h : PartsP P w A la) : Parts w A la := fun i x hx => by
  obtain ⟨ad, k, b, n, f, s, B, len, c, h1, _, h2, h3⟩ := h i x hx
  exact ⟨ad, k, b, n, f, s, B, len, c, h1, h2.has, h3⟩
theorem add_cell {ad : Addr} {i j : Nat} : ad.add (i * 6 + (j + 1)) = ⟨(ad.add (i * 6)).block, (ad.add (i * 6)).off + (j + 1), none⟩ := by
  rw [← Go.Deep.add_add]
  generalize ad.add (i * 6) = a
  simp [Addr.add]
theorem ValAt.cells {w : World} {ad : Addr} {i : Nat} {k : Int} {b : Bool} {n : Int} {f : Nat} {s : List UInt8} {B : Option Addr} {len c : Nat} (h : ValAt w (ad.add (i * 6)) k b n f s B len c) : ∀ j u, (valV k b n f s B len c).cells[j]? = some u → w.cell? (ad.add (i * 6 + j)) = some u := by
  intro j u hu
  have hu' : (valC k b n f s B len c)[j]? = some u := by simpa [Value.cells] using hu
  have hj : j < 6 := (List.getElem?_eq_some_iff.1 hu').1
  match j, hj, hu with
  | 0, _, hu => cases hu; exact h.c0
  | 1, _, hu => cases hu; rw [add_cell]; exact h.c1
  | 2, _, hu => cases hu; rw [add_cell]; exact h.c2
  | 3, _, hu => cases hu; rw [add_cell]; exact h.c3
  | 4, _, hu => cases hu; rw [add_cell]; exact h.c4
  | 5, _, hu => cases hu; rw [add_cell]; exact h.c5
theorem HasP.ofParts {P : Nat → Prop} {w : World} {A : Option Addr} {la : List Val} {cap : Nat} (h : PartsP P w A la) {k : Int} {b : Bool} {n : Int} {f : Nat} {s : List UInt8} (hk : I64 k) (hn : I64 n) (hf : U64 f) (hs : s.length ≤ 140737488351232) (hb : la.length ≤ 140737488351232) (hl : la.length ≤ cap) (hm : cap ≤ maxLen) : HasP P w (valV k b n f s A la.length cap) (.mk k b n f s la) := by
  obtain ⟨V, hV⟩ := choose_lt (α := Value) (n := la.length) (p := fun i u => (∀ x, la[i]? = some x → HasP P w u x) ∧ ∃ ad : Addr, A = some ad ∧ P ad.block ∧ ∀ j y, u.cells[j]? = some y → w.cell? (ad.add (i * 6 + j)) = some y) (fun i hi => by
    obtain ⟨ad, k, b, n, f, s, B, len, c, h1, hp, h2, h3⟩ := h i la[i] (by simp)
    refine ⟨valV k b n f s B len c, fun x hx => ?_, ad, h1, hp, h3.cells⟩
    rw [List.getElem?_eq_getElem hi] at hx
    cases hx
    exact h2)
  exact HasP.mk V hk hn hf hs hb hl hm (fun i x hx => (hV i (List.getElem?_eq_some_iff.1 hx).1).1 x hx) (fun i hi => (hV i hi).2)
def VRowP (P : Nat → Prop) (w : World) (ys : List Val) (xs : List Value) : Prop := xs.length = ys.length * 6 ∧ ∀ (i : Nat) (x : Val), ys[i]? = some x → ∃ k b n f s B len c, HasP P w (valV k b n f s B len c) x ∧ ∀ j u, (valC k b n f s B len c)[j]? = some u → xs[i * 6 + j]? = some u
theorem VRowP.nil (P : Nat → Prop) (w : World) : VRowP P w [] [] := ⟨rfl, fun i t h => by simp at h⟩
theorem VRowP.step {P Q : Nat → Prop} {w w' : World} {ys : List Val} {xs : List Value} (h : VRowP P w ys xs) (hw : ∀ b, P b → b < w.heap.size → w'.heap[b]? = w.heap[b]?) (hq : ∀ b, P b → b < w.heap.size → Q b) : VRowP Q w' ys xs := ⟨h.1, fun i t hi => by
  obtain ⟨k, b, n, f, s, B, len, c, h1, h2⟩ := h.2 i t hi
  exact ⟨k, b, n, f, s, B, len, c, h1.step hw hq, h2⟩⟩
theorem VRowP.snoc {P : Nat → Prop} {w : World} {ys : List Val} {xs : List Value} (h : VRowP P w ys xs) {k : Int} {b : Bool} {n : Int} {f : Nat} {s : List UInt8} {B : Option Addr} {len c : Nat} {x : Val} (hx : HasP P w (valV k b n f s B len c) x) :
    VRowP P w (ys ++ [x]) (xs ++ valC k b n f s B len c) := by
  refine ⟨by rw [List.length_append, List.length_append, h.1]; simp; omega, fun i t' hi => ?_⟩
  by_cases hl : i < ys.length
  · rw [List.getElem?_append_left hl] at hi
    obtain ⟨k, b, n, f, s, B, len, c, h1, h2⟩ := h.2 i t' hi
    refine ⟨k, b, n, f, s, B, len, c, h1, fun j u hu => ?_⟩
    have h3 := h2 j u hu
    rw [List.getElem?_append_left (List.getElem?_eq_some_iff.1 h3).1]
    exact h3
  · have hl2 : i = ys.length := by
      have := (List.getElem?_eq_some_iff.1 hi).1
      simp at this; omega
    subst hl2
    simp at hi
    subst hi
    refine ⟨k, b, n, f, s, B, len, c, hx, fun j u hu => ?_⟩
    rw [List.getElem?_append_right (by rw [h.1]; omega), h.1, show ys.length * 6 + j - ys.length * 6 = j by omega]
    exact hu
theorem PartsP.ofRow {P Q : Nat → Prop} {w : World} {base : Nat} {v : Value} {ys : List Val} {xs : List Value} (ho : w.ownsRow base 25 6 v ys.length xs) (hr : VRowP P w ys xs) (hpq : ∀ b, P b → Q b) (hbq : ∀ b, base ≤ b → Q b) : ∃ A cap, v = .slice A ys.length cap ∧ PartsP Q w A ys ∧ ys.length ≤ cap ∧ cap ≤ maxLen := by
  rcases ho.2 with ⟨hv, hn⟩ | ⟨g, cap, cur, hv, hb, hc, hn, hm, hs, ht⟩
  · have e : ys = [] := List.eq_nil_of_length_eq_zero hn
    subst e
    exact ⟨none, 0, hv, (fun i t h => by simp at h), Nat.le_refl _, Nat.zero_le _⟩
  · refine ⟨some ⟨g, 0, none⟩, cap, hv, fun i t hi => ?_, hn, hm⟩
    obtain ⟨k, b, n, f, s, B, len, c, h1, h2⟩ := hr.2 i t hi
    have hil : i < ys.length := (List.getElem?_eq_some_iff.1 hi).1
    have hcell : ∀ j u, (valC k b n f s B len c)[j]? = some u → w.cell? ⟨g, i * 6 + j, none⟩ = some u := fun j u hu => by
      have h3 := h2 j u hu
      rw [hv] at ho
      have hlt : i * 6 + j < ys.length * 6 := by have := (List.getElem?_eq_some_iff.1 h3).1; rw [hr.1] at this; exact this
      rw [ho.cellAt (i * 6 + j) hlt]
      exact h3
    have ha : (⟨g, 0, none⟩ : Addr).add (i * 6) = ⟨g, i * 6, none⟩ := by cases i with | zero => rfl | succ i => simp [Addr.add]
    have e0 := hcell 0 _ rfl
    refine ⟨⟨g, 0, none⟩, k, b, n, f, s, B, len, c, rfl, hbq g hb, h1.step (fun _ _ _ => rfl) (fun b hb _ => hpq b hb), ?_⟩
    rw [ha]
    exact ⟨cell_lt' e0, e0, hcell 1 _ rfl, hcell 2 _ rfl, hcell 3 _ rfl, hcell 4 _ rfl, hcell 5 _ rfl⟩

theorem g_own {a w w' : World} {g : Nat} {r : Option Nat} {o : Obj} (h : a.grownBy w (some g)) (k : (w.alloc o).grownBy w' r) (hr : ∀ j, r = some j → a.heap.size ≤ j) : a.grownBy w' (some g) :=
  ⟨k.os.trans h.os, k.tape.trans h.tape, k.output.trans h.output, Nat.le_trans h.size (Nat.le_trans (by simp) k.size), fun i hi hne => by
    rw [k.block i (by have := h.size; simp; omega) (fun e => by have := hr i e.symm; omega), Below.heap_alloc _ _ _ (by have := h.size; omega)]
    exact h.block i hi hne⟩
theorem GSt.own {w w' : World} {g B : Nat} {s : List UInt8} {e : Int} {r : Option Nat} {o : Obj} (h : GSt w g s e) (hga : g < B) (k : (w.alloc o).grownBy w' r) (hr : ∀ j, r = some j → B ≤ j) : GSt w' g s e := by
  have hlt := h.lt
  unfold GSt at h ⊢
  rw [k.block g (by simp; omega) (fun e => by have := hr g e.symm; omega), Below.heap_alloc _ _ _ hlt]
  exact h
def ValueEnds (g : Nat) (r : Val × List UInt8 × Int) (w : World) (e : Ending) (w' : World) : Prop := ∃ k b n f s B len c, e = .returned (valV k b n f s B len c) ∧ HasP (fun j => w.heap.size ≤ j) w' (valV k b n f s B len c) r.1 ∧ GSt w' g r.2.1 r.2.2 ∧ w.grownBy w' (some g)
def PartsG (g : Nat) (r : List Val × List UInt8 × Int) (w : World) (e : Ending) (w' : World) : Prop := ∃ A cap, e = .returned (.slice A (List.length r.1) cap) ∧ PartsP (fun j => w.heap.size ≤ j) w' A r.1 ∧ r.1.length ≤ cap ∧ cap ≤ maxLen ∧ r.1.length ≤ 70000 ∧ GSt w' g r.2.1 r.2.2 ∧ w.grownBy w' (some g)

set_option maxRecDepth 8000 in
set_option maxHeartbeats 4000000 in
theorem parts_c (g m : Nat) (d : Int) (hd0 : 0 ≤ d) (hd : d ≤ 13) (hval : ∀ (s : List UInt8) (w : World), GSt w g s 0 → s.length ≤ 140737488351232 → Calls Try.prog 45 #[.pointer (some ⟨g, 0, none⟩), .int .i64 (d + 1)] w (ValueEnds g (getF m s) w))
    (s : List UInt8) (w : World) (hg : GSt w g s 0) (hs : s.length ≤ 140737488351232) : Calls Try.prog 69 #[.pointer (some ⟨g, 0, none⟩), .int .i64 d] w (PartsG g (partsV (getF m) s) w) := by
  obtain ⟨i0, hi0, hz0, hz1, hz2⟩ := info_parts Try.info25
  have c1 : Calls Try.prog 66 #[.pointer (some ⟨g, 0, none⟩), .int .i64 2] w (TakeEnds g s 0 2 w) := take_c g s 0 2 w hg (by omega) hs
  have hglt := hg.lt
  have c2 : ∀ w', Calls Try.prog 22 #[.string (st (tkS s 0 2))] w' fun e w'' => e = .returned (.int .u64 ((wide (tkS s 0 2) : Nat) : Int)) ∧ w' = w'' := fun w' => by
    have := wide_c (tkS s 0 2) w' (by have := tkS_len s 0 2; unfold maxLen; omega)
    rwa [wideN_all (by have := tkS_len s 0 2; omega)] at this
  have hw2 := wide2_lt s 0
  have hpe : partsE s = if 1000 < wide (tkS s 0 2) then flE (tkE s 0 2) 3 else tkE s 0 2 := rfl
  have hpv : partsV (getF m) s = partsF (getF m) (wide (tkS s 0 2)) (tkR s 0 2) (partsE s) [] := rfl
  rw [hpv]
  have hr2 := tkR_len s 0 2
  obtain ⟨e1, he1⟩ : ∃ e1, e1 = tkE s 0 2 := ⟨_, rfl⟩
  have cf := fun w' (h : GSt w' g (tkR s 0 2) e1) => fail_c g (tkR s 0 2) e1 3 w' h
  generalize hN : wide (tkS s 0 2) = N at *
  have wN : IntKind.i64.wrap (N : Int) = (N : Int) := by rw [wrap_i64]; omega
  rw [← he1] at hpe
  have hN' := Lib.hid hN
  have hpe' := Lib.hid hpe
  have he1' := Lib.hid he1
  clear hN hpv hg hpe he1
  go_enter Try.func69, Try.ntmps69
  go_upto_region 2 with (first | ((with_reducible refine c1.mono ?_); rintro e w1 ⟨rfl, hg1, hb1⟩) | ((with_reducible refine (c2 _).mono ?_); rintro e w2 ⟨rfl, rfl⟩))
  rw [← he1'.out] at hg1
  have cf1 := cf w1 hg1
  clear c1 c2 cf
  have hgB := hb1.size
  generalize tkR s 0 2 = s1 at *
  generalize partsE s = e2 at *
  go_upto_if 13 with fail
  go_cut [] (fun wx => GSt wx g s1 e2 ∧ w1.grownBy wx (some g))
  case first =>
    by_cases h1000 : 1000 < N
    · have h1000' : (1000 : Int) < N := by omega
      go_wp2_with ((with_reducible refine cf1.mono ?_); rintro e w2 ⟨rfl, hg2, hb2⟩)
      ((with_reducible show Met _ _ _); refine Met.intro ?_; go_step; (repeat' apply Exists.intro); refine ⟨?_, rfl⟩)
      exact ⟨by rw [hpe'.out, if_pos h1000]; exact hg2, hb2⟩
    · have h1000' : ¬ (1000 : Int) < N := by omega
      go_wp2_with fail
      ((with_reducible show Met _ _ _); refine Met.intro ?_; go_step; (repeat' apply Exists.intro); refine ⟨?_, rfl⟩)
      exact ⟨by rw [hpe'.out, if_neg h1000]; exact hg1, g_refl _ _⟩
  case rest =>
    obtain ⟨hg2, hb2⟩ := hcut
    have hb02 := g_trans hb1 hb2
    have hB2 := hb02.size
    go_wp2_with fail
    go_loopw [6, 7] (fun a6 a7 wr => ∃ (i : Nat) (sc : List UInt8) (ec : Int) (ys : List Val) (xs : List Value), a7 = .int .i64 i ∧ i ≤ N ∧ ys.length ≤ i ∧ sc.length ≤ 140737488351232 ∧ Hid (partsF (getF m) N s1 e2 [] = partsF (getF m) (N - i) sc ec ys) ∧ GSt wr g sc ec ∧ wr.ownsRow w.heap.size 25 6 a6 ys.length xs ∧ VRowP (fun j => w.heap.size ≤ j ∧ some j ≠ a6.ownBlock) wr ys xs ∧ w.grownBy wr (some g)) (fun _ a _ => N - (intOf a).toNat)
    case atStart => exact ⟨0, s1, e2, [], [], rfl, Nat.zero_le _, Nat.zero_le _, by omega, rfl, hg2, World.ownsRow_nil _ _ _ _, VRowP.nil _ _, hb02⟩
    case round =>
      obtain ⟨i, sc, ec, ys, xs, rfl, hi, hyl, hsc, hpf, hgr, hown, hrow, hbr⟩ := hrel
      have r0 := hgr.c0
      have r1 := hgr.c1
      have r2 := hgr.lt
      by_cases hin : i < N
      · have hin' : (i : Int) < N := by omega
        by_cases hec : ec = 0
        · subst hec
          have cv := hval sc wr hgr hsc
          have wi : IntKind.i64.wrap ((i : Int) + 1) = (i : Int) + 1 := by rw [wrap_i64]; omega
          have hsc2 := getF_len m sc
          have hpf2 := Lib.hid (show partsF (getF m) N s1 e2 [] = partsF (getF m) (N - (i + 1)) (getF m sc).2.1 (getF m sc).2.2 (ys ++ [(getF m sc).1]) by
            rw [hpf.out, show N - i = (N - (i + 1)) + 1 by omega, partsF, if_pos rfl])
          clear hpf hval
          go_wp2_with (first | ((with_reducible refine cv.mono ?_); rintro e w4 ⟨k, b, n, f, s', B, len, c, rfl, hx4, hg4, hb4⟩; have hown4 := hown.kept hb4 (.inr (fun e => by have := (hown.lt g e).1; omega))) | (at_builtin; refine wpList_append_own_at _ rfl _ _ 23 rfl w.heap.size 25 i0 (.agg #[.int .i64 0, .bool false, .int .i64 0, .float .f64 0, .string ByteArray.empty, .slice none 0 0]) 6 72 Try.underlying23 hi0 hz0 hz1 hz2 rfl (by decide) _ _ _ rfl (hown4.alloc _) ⟨w4.heap.size, 0, none⟩ 1 1 (valC k b n f s' B len c) rfl rfl ?d1 ?d2 ?d3 ?d4 ?d5 ?_))
          case d1 =>
            intro j u hj
            match j, hj with
            | 0, hj => simp at hj; subst hj; simp [Addr.add, go_sem]
            | 1, hj => simp at hj; subst hj; simp [Addr.add, go_sem]
            | 2, hj => simp at hj; subst hj; simp [Addr.add, go_sem]
            | 3, hj => simp at hj; subst hj; simp [Addr.add, go_sem]
            | 4, hj => simp at hj; subst hj; simp [Addr.add, go_sem]
            | 5, hj => simp at hj; subst hj; simp [Addr.add, go_sem]
          case d2 => intro u hu; simp only [List.mem_cons, List.not_mem_nil, or_false] at hu; rcases hu with rfl | rfl | rfl | rfl | rfl | rfl <;> rfl
          case d3 => unfold maxLen; omega
          case d4 => omega
          case d5 => have := hbr.size; have := hb4.size; simp; omega
          intro v' w6 hown6 hgrow _ hat6
          have hat6' : v'.ownBlock = u6.ownBlock ∨ v'.ownBlock = some (w4.heap.size + 1) := by simpa using hat6
          have hlow : ∀ j, u6.ownBlock = some j → w.heap.size ≤ j := fun j hj => (hown.lt j hj).1
          have hupp : ∀ j, u6.ownBlock = some j → j < wr.heap.size := fun j hj => (hown.lt j hj).2
          have hg6 := hg4.own hglt hgrow hlow
          have hb6 := g_own (g_trans hbr hb4) hgrow hlow
          have hs4 := hb4.size
          have hsr := hbr.size
          have hrow6 : VRowP (fun j => w.heap.size ≤ j ∧ some j ≠ v'.ownBlock) w6 ys xs := hrow.step
            (fun j hj hlt => by rw [hgrow.block j (by simp; omega) hj.2, Below.heap_alloc _ _ _ (by omega)]; exact hb4.block j hlt (by simp; omega))
            (fun j hj hlt => ⟨hj.1, by
              rcases hat6' with h | h
              · rw [h]; exact hj.2
              · rw [h]; simp; omega⟩)
          have hx6 : HasP (fun j => w.heap.size ≤ j ∧ some j ≠ v'.ownBlock) w6 (valV k b n f s' B len c) (getF m sc).1 := hx4.step
            (fun j hj hlt => by rw [hgrow.block j (by simp; omega) (fun e => by have := hupp j e.symm; omega), Below.heap_alloc _ _ _ hlt])
            (fun j hj hlt => ⟨by omega, by
              rcases hat6' with h | h
              · rw [h]; exact fun e => by have := hupp j e.symm; omega
              · rw [h]; simp; omega⟩)
          have hrow7 := hrow6.snoc hx6
          have e7 := hgrow.size
          clear hgrow hown hown4 hat6 hat6' hrow hrow6 hx6 hx4 hg4 hlow hupp
          go_wp2_with fail
          refine ⟨⟨i + 1, _, _, ys ++ [(getF m sc).1], _, rfl, hin, by simp; omega, by omega, hpf2, hg6, by simpa using hown6, hrow7, hb6⟩, by simp [intOf]; omega⟩
        · have hec' : (ec == 0) = false := by simpa using hec
          have hF := Lib.hid (show partsF (getF m) N s1 e2 [] = (ys, sc, ec) by
            rw [hpf.out]
            cases N - i with
            | zero => rfl
            | succ q => rw [partsF, if_neg hec])
          have fin : PartsG g (partsF (getF m) N s1 e2 []) w (.returned u6) wr := by
            obtain ⟨A, cap, rfl, h1, h2, h3⟩ := PartsP.ofRow (Q := fun j => w.heap.size ≤ j) hown hrow (fun j hj => hj.1) (fun j hj => hj)
            exact ⟨A, cap, by rw [hF.out], by rw [hF.out]; exact h1, by rw [hF.out]; exact h2, h3, by rw [hF.out]; show ys.length ≤ _; omega, by rw [hF.out]; exact hgr, hbr⟩
          clear hpf hval hown hrow hF
          go_wp2_with fail
          go_ret
          exact fin
      · have hin' : ¬ (i : Int) < N := by omega
        have hF := Lib.hid (show partsF (getF m) N s1 e2 [] = (ys, sc, ec) by
          rw [hpf.out, show N - i = 0 by omega]; rfl)
        have fin : PartsG g (partsF (getF m) N s1 e2 []) w (.returned u6) wr := by
          obtain ⟨A, cap, rfl, h1, h2, h3⟩ := PartsP.ofRow (Q := fun j => w.heap.size ≤ j) hown hrow (fun j hj => hj.1) (fun j hj => hj)
          exact ⟨A, cap, by rw [hF.out], by rw [hF.out]; exact h1, by rw [hF.out]; exact h2, h3, by rw [hF.out]; show ys.length ≤ _; omega, by rw [hF.out]; exact hgr, hbr⟩
        clear hpf hval hown hrow hF
        go_wp2_with fail
        go_ret
        exact fin
end Go.Proofs.Ytkbacjlnfmibaaa
