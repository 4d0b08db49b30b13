
/-
  Predicates as trees in memory; opened from data.
-/
import Derived.Test.YtglcnnnjdkjggaaPrdA
import Derived.Test.YtglcnnnjdkjggaaPrt
set_option linter.unusedSimpArgs false
set_option linter.unusedVariables false
namespace Go.Proofs.Ytglcnnnjdkjggaa
open Go.ChangeShapes Go.WideShapes Go.ChangeAt Go.RowKit Go.Deep

inductive Pr where
  | mk (op : List UInt8) (l : List Val) (kids : List Pr)
def Pr.op : Pr → List UInt8 | .mk o _ _ => o
def Pr.l : Pr → List Val | .mk _ l _ => l
def Pr.kids : Pr → List Pr | .mk _ _ k => k
instance : Inhabited Pr := ⟨.mk [] [] []⟩
/-- what a predicate in memory is -/
inductive HasQ (w : World) : Value → Pr → Prop
  | mk {op : List UInt8} {l : List Val} {kids : List Pr} {A : Option Addr} {cap : Nat} {K : Option Addr} {kcap : Nat} (el : Nat → Value) (hs : op.length ≤ 140737488351232) (hp : Parts w A l) (hl : l.length ≤ cap) (hm : cap ≤ maxLen) (hkl : kids.length ≤ kcap) (hkm : kcap ≤ maxLen)
      (h : ∀ i x, kids[i]? = some x → HasQ w (el i) x)
      (hc : ∀ i, i < kids.length → ∃ ad : Addr, K = some ad ∧ ∀ j u, (el i).cells[j]? = some u → w.cell? (ad.add (i * 3 + j)) = some u) :
      HasQ w (predV op A l.length cap K kids.length kcap) (.mk op l kids)
theorem HasQ.keep {w w' : World} {u : Value} {q : Pr} (h : HasQ w u q) (hb : Below w.heap.size w w') : HasQ w' u q := by
  induction h with
  | mk el hs hp hl hm hkl hkm h hc ih =>
    refine .mk el hs (hp.keep hb) hl hm hkl hkm ih fun i hi => ?_
    obtain ⟨ad, h1, h2⟩ := hc i hi
    exact ⟨ad, h1, fun j u hu => (hb.cell (cell_lt' (h2 j u hu))).trans (h2 j u hu)⟩
/-- the three cells of a predicate at an address -/
structure PredAt (w : World) (a : Addr) (op : List UInt8) (A : Option Addr) (n c : Nat) (K : Option Addr) (kn kc : Nat) : Prop where
  lt : a.block < w.heap.size
  c0 : w.cell? a = some (.string (st op))
  c1 : w.cell? ⟨a.block, a.off + 1, none⟩ = some (.slice A n c)
  c2 : w.cell? ⟨a.block, a.off + 2, none⟩ = some (.slice K kn kc)
theorem PredAt.keep {w w' : World} {a : Addr} {op : List UInt8} {A : Option Addr} {n c : Nat} {K : Option Addr} {kn kc : Nat} (h : PredAt w a op A n c K kn kc) (hb : Below w.heap.size w w') : PredAt w' a op A n c K kn kc :=
  ⟨Nat.lt_of_lt_of_le h.lt hb.size, (hb.cell (p := a) h.lt).trans h.c0, (hb.cell (p := ⟨a.block, a.off + 1, none⟩) h.lt).trans h.c1, (hb.cell (p := ⟨a.block, a.off + 2, none⟩) h.lt).trans h.c2⟩
theorem HasQ.open {w : World} {u : Value} {q : Pr} (h : HasQ w u q) : ∃ A cap K kcap, u = predV q.op A q.l.length cap K q.kids.length kcap ∧ q.op.length ≤ 140737488351232 ∧ Parts w A q.l ∧ q.l.length ≤ cap ∧ cap ≤ maxLen ∧ q.kids.length ≤ kcap ∧ kcap ≤ maxLen ∧
    ∀ i x, q.kids[i]? = some x → ∃ ad op B n c J jn jc, K = some ad ∧ HasQ w (predV op B n c J jn jc) x ∧ PredAt w (ad.add (i * 3)) op B n c J jn jc := by
  cases h with
  | @mk op l kids A cap K kcap el hs hp hl hm hkl hkm h hc =>
    refine ⟨A, cap, K, kcap, rfl, hs, hp, hl, hm, hkl, hkm, fun i x hx => ?_⟩
    have hi : i < kids.length := (List.getElem?_eq_some_iff.1 hx).1
    obtain ⟨ad, h1, h2⟩ := hc i hi
    have hh := h i x hx
    generalize el i = e at *
    have ha : ∀ j, ad.add (i * 3 + (j + 1)) = ⟨(ad.add (i * 3)).block, (ad.add (i * 3)).off + (j + 1), none⟩ := fun j => by
      rw [← Go.Deep.add_add]
      generalize ad.add (i * 3) = a
      simp [Addr.add]
    cases hh with
    | mk =>
      have e0 := h2 0 _ rfl
      have e1 := h2 1 _ rfl
      have e2 := h2 2 _ rfl
      rw [ha 0] at e1
      rw [ha 1] at e2
      exact ⟨ad, _, _, _, _, _, _, _, h1, .mk _ ‹_› ‹_› ‹_› ‹_› ‹_› ‹_› ‹_› ‹_›, ⟨cell_lt' e0, e0, e1, e2⟩⟩
section
variable {H : Type} {enc : TypeId × Value → H} {W : World}
set_option maxRecDepth 8000 in
/-- a predicate that was read as data -/
theorem HasQ.ofTrod : ∀ (fuel : Nat) (cs : List Value) (x : DataW H × List MemPlace), DataW.trod enc Try.prog W 0 (fun _ => true) true fuel 25 cs = some x → (∀ n ∈ x.1.weights Try.prog 25, n ≤ reachBytes) → ∃ q, HasQ W (.agg cs.toArray) q := by
  intro fuel
  induction fuel using Nat.strongRecOn with
  | _ fuel ih =>
    intro cs x h hw
    have hc3 : Try.prog.cellsOf 25 = 3 := by kernel_rfl
    have c1 : Try.prog.cellsOf 9 = 1 := by kernel_rfl
    have c2 : Try.prog.cellsOf 22 = 1 := by kernel_rfl
    have c3 : Try.prog.cellsOf 23 = 1 := by kernel_rfl
    obtain ⟨xs, n, hn, hxs, hl, hlen, hfs⟩ := DataW.trod_struct Try.underlying25 h
    have hlen : xs.length = 3 := hlen
    rw [hc3] at hl
    match cs, hl with
    | [y0, y1, y2], _ =>
      match xs, hlen with
      | [x0, x1, x2], _ =>
        rw [hxs] at hw
        simp only [DataW.weights, Try.underlying25] at hw
        have hw0 := fun n (hn : n ∈ x0.1.weights Try.prog 9) => hw n (DataW.weights_mem_each (j := 0) rfl rfl n hn)
        have hw1 := fun n (hn : n ∈ x1.1.weights Try.prog 22) => hw n (DataW.weights_mem_each (j := 1) rfl rfl n hn)
        have hw2 := fun n (hn : n ∈ x2.1.weights Try.prog 23) => hw n (DataW.weights_mem_each (j := 2) rfl rfl n hn)
        have f0 := hfs 0 _ rfl
        have f1 := hfs 1 _ rfl
        have f2 := hfs 2 _ rfl
        simp [c1, c2, c3] at f0 f1 f2
        obtain ⟨s, rfl, hs0⟩ := trod_st Try.underlying9 f0
        have hs : s.length ≤ 140737488351232 := hw0 _ (by rw [hs0]; simp [DataW.weights])
        obtain ⟨A, cap, l, rfl, hp, hlc, hcm⟩ := Parts.ofTrod f1 hw1
        rcases slice_each Try.underlying23 (sz := 3) hc3 f2 hw2 with rfl | ⟨a, len, kcap, n', hn', rfl, hkl, hkm, hx⟩
        · exact ⟨.mk s l [], HasQ.mk (w := W) (op := s) (l := l) (kids := []) (A := A) (cap := cap) (K := none) (kcap := 0) (fun _ => .agg #[]) hs hp hlc hcm (Nat.zero_le _) (Nat.zero_le _) (fun i x hx => by cases hx) (fun i hi => absurd hi (Nat.not_lt_zero _))⟩
        · obtain ⟨V, hV⟩ := choose_lt (α := Pr × Value) (n := len) (p := fun i v => HasQ W v.2 v.1 ∧ ∀ j u, v.2.cells[j]? = some u → W.cell? (a.add (i * 3 + j)) = some u) (fun i hi => by
            obtain ⟨cs', y, hcl, ht, hwt, hat⟩ := hx i hi
            obtain ⟨q, hq⟩ := ih n' (by omega) cs' y ht hwt
            exact ⟨(q, .agg cs'.toArray), hq, fun j u hu => hat j u (by simpa [Value.cells] using hu)⟩)
          have hll : ((List.range len).map fun i => (V i).1).length = len := by simp
          refine ⟨.mk s l ((List.range len).map fun i => (V i).1), ?_⟩
          have hh := HasQ.mk (w := W) (op := s) (l := l) (kids := (List.range len).map fun i => (V i).1) (A := A) (cap := cap) (K := some a) (kcap := kcap) (fun i => (V i).2) hs hp hlc hcm (by rw [hll]; exact hkl) hkm ?_ ?_
          · rw [hll] at hh
            exact hh
          · intro i x hx
            have hi : i < len := by rw [← hll]; exact (List.getElem?_eq_some_iff.1 hx).1
            simp [hi] at hx
            subst hx
            exact (hV i hi).1
          · intro i hi
            rw [hll] at hi
            exact ⟨a, rfl, (hV i hi).2⟩
end
end Go.Proofs.Ytglcnnnjdkjggaa
