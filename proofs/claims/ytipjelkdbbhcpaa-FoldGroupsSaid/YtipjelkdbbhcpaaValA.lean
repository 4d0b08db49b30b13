
/-
  api.Value: what a value in memory is, read as a tree; opened from data that was handed in.
-/
import Derived.Test.YtipjelkdbbhcpaaNumF
import Derived.Test.YtipjelkdbbhcpaaBytes
import Derived.Deep.Slices
import Derived.ProofKit
import Derived.OpenShut
import Derived.Below
import Derived.SizedLaws
set_option linter.unusedSimpArgs false
set_option linter.unusedVariables false
namespace Go.Proofs.Ytipjelkdbbhcpaa
open Go.ChangeShapes Go.WideShapes Go.ChangeAt Go.RowKit Go.Deep

/-- a value, as a tree -/
inductive Val where
  | mk (k : Int) (b : Bool) (n : Int) (f : Nat) (s : List UInt8) (l : List Val)
def Val.k : Val → Int | .mk k _ _ _ _ _ => k
def Val.b : Val → Bool | .mk _ b _ _ _ _ => b
def Val.n : Val → Int | .mk _ _ n _ _ _ => n
def Val.f : Val → Nat | .mk _ _ _ f _ _ => f
def Val.s : Val → List UInt8 | .mk _ _ _ _ s _ => s
def Val.l : Val → List Val | .mk _ _ _ _ _ l => l
instance : Inhabited Val := ⟨.mk 0 false 0 0 [] []⟩

abbrev valV (k : Int) (b : Bool) (n : Int) (f : Nat) (s : List UInt8) (A : Option Addr) (len cap : Nat) : Value := .agg #[.int .i64 k, .bool b, .int .i64 n, .float .f64 f, .string (st s), .slice A len cap]
/-- what a value in memory is -/
inductive Has (w : World) : Value → Val → Prop
  | mk {k : Int} {b : Bool} {n : Int} {f : Nat} {s : List UInt8} {l : List Val} {A : Option Addr} {cap : Nat} (el : Nat → Value) (hk : I64 k) (hn : I64 n) (hf : U64 f) (hs : s.length ≤ 140737488351232) (hb : l.length ≤ 140737488351232) (hl : l.length ≤ cap) (hm : cap ≤ maxLen)
      (h : ∀ i x, l[i]? = some x → Has w (el i) x)
      (hc : ∀ i, i < l.length → ∃ ad : Addr, A = some ad ∧ ∀ j u, (el i).cells[j]? = some u → w.cell? (ad.add (i * 6 + j)) = some u) :
      Has w (valV k b n f s A l.length cap) (.mk k b n f s l)

theorem cell_lt' {w : World} {a : Addr} {v : Value} (h : w.cell? a = some v) : a.block < w.heap.size := by
  rcases Nat.lt_or_ge a.block w.heap.size with h1 | h1
  · exact h1
  · have e : w.heap[a.block]? = none := Array.getElem?_eq_none h1
    simp [World.cell?, e] at h
theorem Has.keep {w w' : World} {u : Value} {v : Val} (h : Has w u v) (hb : Below w.heap.size w w') : Has w' u v := by
  induction h with
  | mk el hk hn hf hs hbb hl hm h hc ih =>
    refine .mk el hk hn hf hs hbb hl hm ih fun i hi => ?_
    obtain ⟨ad, h1, h2⟩ := hc i hi
    exact ⟨ad, h1, fun j u hu => (hb.cell (cell_lt' (h2 j u hu))).trans (h2 j u hu)⟩
/-- the six cells of a value at an address, as the walk reads them -/
structure ValAt (w : World) (a : Addr) (k : Int) (b : Bool) (n : Int) (f : Nat) (s : List UInt8) (B : Option Addr) (len c : Nat) : Prop where
  lt : a.block < w.heap.size
  c0 : w.cell? a = some (.int .i64 k)
  c1 : w.cell? ⟨a.block, a.off + 1, none⟩ = some (.bool b)
  c2 : w.cell? ⟨a.block, a.off + 2, none⟩ = some (.int .i64 n)
  c3 : w.cell? ⟨a.block, a.off + 3, none⟩ = some (.float .f64 f)
  c4 : w.cell? ⟨a.block, a.off + 4, none⟩ = some (.string (st s))
  c5 : w.cell? ⟨a.block, a.off + 5, none⟩ = some (.slice B len c)
theorem ValAt.keep {w w' : World} {a : Addr} {k : Int} {b : Bool} {n : Int} {f : Nat} {s : List UInt8} {B : Option Addr} {len c : Nat} (h : ValAt w a k b n f s B len c) (hb : Below w.heap.size w w') : ValAt w' a k b n f s B len c :=
  ⟨Nat.lt_of_lt_of_le h.lt hb.size, (hb.cell (p := a) h.lt).trans h.c0, (hb.cell (p := ⟨a.block, a.off + 1, none⟩) h.lt).trans h.c1, (hb.cell (p := ⟨a.block, a.off + 2, none⟩) h.lt).trans h.c2, (hb.cell (p := ⟨a.block, a.off + 3, none⟩) h.lt).trans h.c3, (hb.cell (p := ⟨a.block, a.off + 4, none⟩) h.lt).trans h.c4, (hb.cell (p := ⟨a.block, a.off + 5, none⟩) h.lt).trans h.c5⟩
/-- a value's parts -/
theorem Has.open {w : World} {u : Value} {v : Val} (h : Has w u v) : ∃ A cap, u = valV v.k v.b v.n v.f v.s A v.l.length cap ∧ I64 v.k ∧ I64 v.n ∧ U64 v.f ∧ v.s.length ≤ 140737488351232 ∧ v.l.length ≤ 140737488351232 ∧ v.l.length ≤ cap ∧ cap ≤ maxLen ∧
    ∀ i x, v.l[i]? = some x → ∃ ad k b n f s B len c, A = some ad ∧ Has w (valV k b n f s B len c) x ∧ ValAt w (ad.add (i * 6)) k b n f s B len c := by
  cases h with
  | @mk k b n f s l A cap el hk hn hf hs hbb hl hm h hc =>
    refine ⟨A, cap, rfl, hk, hn, hf, hs, hbb, hl, hm, fun i x hx => ?_⟩
    have hi : i < l.length := (List.getElem?_eq_some_iff.1 hx).1
    obtain ⟨ad, h1, h2⟩ := hc i hi
    have hh := h i x hx
    generalize el i = e at *
    have ha : ∀ j, ad.add (i * 6 + (j + 1)) = ⟨(ad.add (i * 6)).block, (ad.add (i * 6)).off + (j + 1), none⟩ := fun j => by
      rw [← Go.Deep.add_add]
      generalize ad.add (i * 6) = a
      simp [Addr.add]
    cases hh with
    | mk =>
      have e0 := h2 0 _ rfl
      have e1 := h2 1 _ rfl
      have e2 := h2 2 _ rfl
      have e3 := h2 3 _ rfl
      have e4 := h2 4 _ rfl
      have e5 := h2 5 _ rfl
      rw [ha 0] at e1
      rw [ha 1] at e2
      rw [ha 2] at e3
      rw [ha 3] at e4
      rw [ha 4] at e5
      exact ⟨ad, _, _, _, _, _, _, _, _, h1, .mk _ ‹_› ‹_› ‹_› ‹_› ‹_› ‹_› ‹_› ‹_› ‹_›, ⟨cell_lt' e0, e0, e1, e2, e3, e4, e5⟩⟩

section
variable {H : Type} {enc : TypeId × Value → H} {W : World}
theorem trod_i64 {n t : Nat} {v : Value} {x : DataW H × List MemPlace} (ht : Try.prog.underlying t = some (.int .i64)) (h : DataW.trod enc Try.prog W 0 (fun _ => true) true n t [v] = some x) : ∃ m, v = .int .i64 m ∧ I64 m := by
  obtain ⟨m, h1, _, h2⟩ := DataW.trod_int ht h
  simp at h1
  exact ⟨m, h1, I64.ofWf h2⟩
theorem trod_u64 {n t : Nat} {v : Value} {x : DataW H × List MemPlace} (ht : Try.prog.underlying t = some (.float .f64)) (h : DataW.trod enc Try.prog W 0 (fun _ => true) true n t [v] = some x) : ∃ m, v = .float .f64 m ∧ U64 m := by
  cases n with
  | zero => simp [DataW.trod] at h
  | succ n =>
    cases v <;> simp [DataW.trod, ht] at h
    obtain ⟨⟨rfl, h1⟩, _⟩ := h
    exact ⟨_, rfl, U64.ofFloat h1⟩
theorem trod_bool1 {n t : Nat} {v : Value} {x : DataW H × List MemPlace} (ht : Try.prog.underlying t = some .bool) (h : DataW.trod enc Try.prog W 0 (fun _ => true) true n t [v] = some x) : ∃ m, v = .bool m := by
  cases n with
  | zero => simp [DataW.trod] at h
  | succ n => cases v <;> simp [DataW.trod, ht] at h; exact ⟨_, rfl⟩
theorem trod_st {n t : Nat} {v : Value} {x : DataW H × List MemPlace} (ht : Try.prog.underlying t = some .string) (h : DataW.trod enc Try.prog W 0 (fun _ => true) true n t [v] = some x) : ∃ b : List UInt8, v = .string (st b) ∧ x.1 = .lit (.string b) := by
  obtain ⟨s, h1, hx, h2⟩ := DataW.trod_string ht h
  refine ⟨s.data.toList, ?_, by rw [hx]⟩
  simp at h1
  rw [h1]
theorem weights_all {H : Type} {P : Program} {e : TypeId} : ∀ {ds : List (DataW H)} {d : DataW H} {n : Nat}, d ∈ ds → n ∈ d.weights P e → n ∈ DataW.weightsAll P e ds
  | d0 :: ds, d, n, hd, hn => by
    simp only [DataW.weightsAll, List.mem_append]
    rcases List.mem_cons.1 hd with rfl | h
    · exact .inl hn
    · exact .inr (weights_all h hn)
set_option maxRecDepth 8000 in
/-- a value that was read as data -/
theorem Has.ofTrod : ∀ (fuel : Nat) (cs : List Value) (x : DataW H × List MemPlace), DataW.trod enc Try.prog W 0 (fun _ => true) true fuel 27 cs = some x → (∀ n ∈ x.1.weights Try.prog 27, n ≤ reachBytes) → ∃ v, Has W (.agg cs.toArray) v := by
  intro fuel
  induction fuel using Nat.strongRecOn with
  | _ fuel ih =>
    intro cs x h hw
    have hc6 : Try.prog.cellsOf 27 = 6 := by kernel_rfl
    have c1 : Try.prog.cellsOf 3 = 1 := by kernel_rfl
    have c2 : Try.prog.cellsOf 4 = 1 := by kernel_rfl
    have c3 : Try.prog.cellsOf 2 = 1 := by kernel_rfl
    have c4 : Try.prog.cellsOf 25 = 1 := by kernel_rfl
    have c5 : Try.prog.cellsOf 9 = 1 := by kernel_rfl
    have c7 : Try.prog.cellsOf 22 = 1 := by kernel_rfl
    obtain ⟨xs, n, hn, hxs, hl, hlen, hfs⟩ := DataW.trod_struct Try.underlying27 h
    have hlen : xs.length = 6 := hlen
    rw [hc6] at hl
    match cs, hl with
    | [y0, y1, y2, y3, y4, y5], _ =>
      match xs, hlen with
      | [x0, x1, x2, x3, x4, x5], _ =>
        rw [hxs] at hw
        simp only [DataW.weights, Try.underlying27] at hw
        have hw4 := fun n (hn : n ∈ x4.1.weights Try.prog 9) => hw n (DataW.weights_mem_each (j := 4) rfl rfl n hn)
        have hw5 := fun n (hn : n ∈ x5.1.weights Try.prog 22) => hw n (DataW.weights_mem_each (j := 5) rfl rfl n hn)
        have f0 := hfs 0 _ rfl
        have f1 := hfs 1 _ rfl
        have f2 := hfs 2 _ rfl
        have f3 := hfs 3 _ rfl
        have f4 := hfs 4 _ rfl
        have f5 := hfs 5 _ rfl
        simp [c1, c2, c3, c4, c5, c7] at f0 f1 f2 f3 f4 f5
        obtain ⟨k, rfl, hk⟩ := trod_i64 Try.underlying3 f0
        obtain ⟨b, rfl⟩ := trod_bool1 Try.underlying4 f1
        obtain ⟨m, rfl, hm⟩ := trod_i64 Try.underlying2 f2
        obtain ⟨f, rfl, hf⟩ := trod_u64 Try.underlying25 f3
        obtain ⟨s, rfl, hs4⟩ := trod_st Try.underlying9 f4
        have hs : s.length ≤ 140737488351232 := hw4 _ (by rw [hs4]; simp [DataW.weights])
        rcases DataW.trod_slice Try.underlying22 f5 with ⟨h5, _⟩ | ⟨a, len, cap, elems, rest, n', hn', h5, hx5, _, hlc, hcm, hel, hes, _, _⟩
        · simp at h5
          subst h5
          exact ⟨.mk k b m f s [], Has.mk (w := W) (k := k) (b := b) (n := m) (f := f) (s := s) (l := []) (A := none) (cap := 0) (fun _ => .agg #[]) hk hm hf hs (Nat.zero_le _) (Nat.zero_le _) (Nat.zero_le _) (fun i x hx => by cases hx) (fun i hi => absurd hi (Nat.not_lt_zero _))⟩
        · simp at h5
          subst h5
          rw [hx5] at hw5
          simp only [DataW.weights, Try.underlying22] at hw5
          have hbv : 1 ≤ Try.prog.bytesOf 27 := of_decide_eq_true (by kernel_rfl)
          have hlenb : len ≤ 140737488351232 := by
            have h1 := hw5 _ (List.mem_cons_self)
            rw [List.length_map, hel] at h1
            have h2 := Nat.mul_le_mul_left (len + (rest.map (·.1)).length) hbv
            have h3 : reachBytes = 140737488351232 := rfl
            omega
          have hcell : ∀ i, i < len → ∃ v : Val × Value, Has W v.2 v.1 ∧ ∀ j u, v.2.cells[j]? = some u → W.cell? (a.add (i * 6 + j)) = some u := by
            intro i hi
            have h1 := hes i hi
            rw [List.getElem?_eq_getElem (by omega)] at h1
            obtain ⟨cs', h2, h3⟩ := Option.bind_eq_some_iff.1 h1
            obtain ⟨v, hv⟩ := ih n' (by omega) cs' _ h3 (fun m hm => hw5 m (List.mem_cons_of_mem _ (List.mem_append_left _ (weights_all (List.mem_map_of_mem (List.getElem_mem _)) hm))))
            rw [hc6] at h2
            obtain ⟨_, hcl, hat⟩ := World.cells?_some h2
            refine ⟨(v, .agg cs'.toArray), hv, fun j u hu => ?_⟩
            have hu' : cs'[j]? = some u := by simpa [Value.cells] using hu
            have hj : j < 6 := by rw [← hcl]; exact (List.getElem?_eq_some_iff.1 hu').1
            rw [← Go.Deep.add_add, hat j hj, hu']
          obtain ⟨V, hV⟩ := choose_lt (α := Val × Value) (n := len) (p := fun i v => Has W v.2 v.1 ∧ ∀ j u, v.2.cells[j]? = some u → W.cell? (a.add (i * 6 + j)) = some u) hcell
          have hll : ((List.range len).map fun i => (V i).1).length = len := by simp
          refine ⟨.mk k b m f s ((List.range len).map fun i => (V i).1), ?_⟩
          have hh := Has.mk (w := W) (k := k) (b := b) (n := m) (f := f) (s := s) (l := (List.range len).map fun i => (V i).1) (A := some a) (cap := cap) (fun i => (V i).2) hk hm hf hs (by rw [hll]; exact hlenb) (by rw [hll]; exact hlc) hcm ?_ ?_
          · rw [hll] at hh
            exact hh
          · intro i x hx
            have hi : i < len := by rw [← hll]; exact (List.getElem?_eq_some_iff.1 hx).1
            simp [hi] at hx
            subst hx
            exact (hV i hi).1
          · intro i hi
            rw [hll] at hi
            exact ⟨a, rfl, (hV i hi).2⟩
end
end Go.Proofs.Ytipjelkdbbhcpaa
