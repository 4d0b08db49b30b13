
/-
  Pages: what a page is in memory; a new one, its room, a record that is put behind the others.
-/
import Derived.Test.YtgcoepljlkahoaaPgA
import Derived.Laws.OwnMore
import Derived.Laws.AppendOwn
set_option linter.unusedSimpArgs false
set_option linter.unusedVariables false
namespace Go.Proofs.Ytgcoepljlkahoaa
open Go.RowKit

def flat : List Rec → List Value
  | [] => []
  | b :: l => .int .u64 (b.1 : Int) :: .string (st b.2) :: flat l
theorem flat_append (a b : List Rec) : flat (a ++ b) = flat a ++ flat b := by
  induction a with
  | nil => rfl
  | cons x a ih => simp [flat, ih]
theorem flat_len (l : List Rec) : (flat l).length = l.length * 2 := by
  induction l with
  | nil => rfl
  | cons x l ih => simp [flat, ih]; omega
theorem flat_get {l : List Rec} : ∀ {i : Nat} {b : Rec}, l[i]? = some b → (flat l)[i * 2]? = some (.int .u64 (b.1 : Int)) ∧ (flat l)[i * 2 + 1]? = some (.string (st b.2)) := by
  induction l with
  | nil => intro i b h; simp at h
  | cons x l ih =>
    intro i b h
    cases i with
    | zero => simp at h; subst h; exact ⟨rfl, rfl⟩
    | succ i =>
      have := ih (i := i) (b := b) (by simpa using h)
      have e : (i + 1) * 2 = i * 2 + 1 + 1 := by omega
      rw [e]
      exact this
/-- a page of these records: its block, and the row that it holds -/
structure PageAt (w : World) (base g : Nat) (v : Value) (l : List Rec) (used : Int) : Prop where
  lo : base ≤ g
  blk : w.heap[g]? = some (.cells #[v, .int .i64 used] 56)
  row : w.ownsRow base 53 2 v l.length (flat l)
theorem own_below {w w' : World} {base : Nat} {e : TypeId} {size : Nat} {v : Value} {n : Nat} {xs : List Value} (h : w.ownsRow base e size v n xs) (hb : Below w.heap.size w w') : w'.ownsRow base e size v n xs := by
  refine ⟨h.1, ?_⟩
  rcases h.2 with h | ⟨g, cap, cur, hv, hbg, hc, hr⟩
  · exact .inl h
  · exact .inr ⟨g, cap, cur, hv, hbg, (hb.block g (Array.getElem?_eq_some_iff.1 hc).1).trans hc, hr⟩
theorem PageAt.keep {w w' : World} {base g : Nat} {v : Value} {l : List Rec} {used : Int} (h : PageAt w base g v l used) (hb : Below w.heap.size w w') : PageAt w' base g v l used :=
  ⟨h.lo, (hb.block g (Array.getElem?_eq_some_iff.1 h.blk).1).trans h.blk, own_below h.row hb⟩
theorem PageAt.parts {w : World} {base g : Nat} {v : Value} {l : List Rec} {used : Int} (h : PageAt w base g v l used) : ∃ A cap, v = .slice A l.length cap ∧ l.length ≤ cap ∧ BodiesAt w A l ∧ v.ownBlock ≠ some g := by
  rcases h.row.2 with ⟨hv, hn⟩ | ⟨gb, cap, cur, hv, hbg, hc, hnc, hr⟩
  · refine ⟨none, 0, by rw [hv, hn], by omega, fun i b hi => ?_, by rw [hv]; simp [Value.ownBlock]⟩
    rw [List.getElem?_eq_none (by omega)] at hi
    cases hi
  · subst hv
    refine ⟨some ⟨gb, 0, none⟩, cap, rfl, hnc, fun i b hi => ⟨_, rfl, ?_⟩, fun e => ?_⟩
    · have hil := (List.getElem?_eq_some_iff.1 hi).1
      obtain ⟨h0, h1⟩ := flat_get hi
      have e : (⟨gb, 0, none⟩ : Addr).add (i * 2) = ⟨gb, i * 2, none⟩ := by simp [Addr.add]; intro h; exact h.symm
      rw [e]
      exact ⟨(Array.getElem?_eq_some_iff.1 hc).1, by rw [h.row.cellAt _ (by omega)]; exact h0, by rw [h.row.cellAt _ (by show i * 2 + 1 < _; omega)]; exact h1⟩
    · simp [Value.ownBlock] at e
      subst e
      have := h.blk
      rw [hc] at this
      simp at this
set_option maxRecDepth 8000 in
theorem new_c (base : Nat) (w : World) (hb : base ≤ w.heap.size) : Calls Try.prog 7 #[] w fun e w' => e = .returned (.pointer (some ⟨w.heap.size, 0, none⟩)) ∧ PageAt w' base w.heap.size (.slice none 0 0) [] 2 ∧ w.heap.size < w'.heap.size ∧ Below w.heap.size w w' := by
  go_enter Try.func7, Try.ntmps7
  go_wp2_with fail
  go_ret
  exact ⟨rfl, ⟨hb, alloc_here _ _, World.ownsRow_nil _ _ _ _⟩, by simp, below_alloc _ _⟩
set_option maxRecDepth 8000 in
theorem free_c (base g : Nat) (v : Value) (l : List Rec) (used : Int) (w : World) (hp : PageAt w base g v l used) (h0 : 0 ≤ used) (h1 : used ≤ 100000) : Calls Try.prog 9 #[.pointer (some ⟨g, 0, none⟩)] w fun e w' => e = .returned (.int .i64 (512 - used)) ∧ Below w.heap.size w w' := by
  have c1 : w.cell? ⟨g, 1, none⟩ = some (.int .i64 used) := cell_of hp.blk 1
  have hl := (Array.getElem?_eq_some_iff.1 hp.blk).1
  clear hp
  have hw : IntKind.i64.wrap (512 - used) = 512 - used := by rw [IntKind.wrap_i64]; omega
  go_enter Try.func9, Try.ntmps9
  go_wp2_with fail
  go_ret
  exact ⟨rfl, Below.refl _ _⟩
set_option maxRecDepth 8000 in
theorem place_c (base g : Nat) (v : Value) (l : List Rec) (used : Int) (id : Nat) (w : World) (hp : PageAt w base g v l used) (hr : Rises l) (hl : l.length ≤ 100000) : Calls Try.prog 22 #[.pointer (some ⟨g, 0, none⟩), .int .u64 (id : Int)] w (SearchEnds l id w) := by
  obtain ⟨A, cap, rfl, _, hb, _⟩ := hp.parts
  have c0 : w.cell? ⟨g, 0, none⟩ = some (.slice A l.length cap) := cell_of hp.blk 0
  have c1 : w.cell? ⟨g, 1, none⟩ = some (.int .i64 used) := cell_of hp.blk 1
  have hlt := (Array.getElem?_eq_some_iff.1 hp.blk).1
  have cs := search_c A cap l id w hb hr hl
  clear hp hb hr
  unfold SearchEnds at cs ⊢
  go_enter Try.func22, Try.ntmps22
  go_wp2_with ((with_reducible refine cs.mono ?_); rintro e w2 ⟨i, rfl, hP, hb2⟩)
  exact bodyPost_ret (v := .tuple #[.int .i64 (i : Int), .bool (isAt l id i)]) (by simp only [results, Try.results22]; go_simp) rfl ⟨i, rfl, hP, hb2⟩
/-- a record's bytes, where it is -/
def textAt (l : List Rec) (id i : Nat) : List UInt8 := match l[i]? with | some b => if b.1 == id then b.2 else [] | none => []
def GetEnds (l : List Rec) (id : Nat) (w : World) (e : Ending) (w' : World) : Prop := ∃ i : Nat, e = .returned (.tuple #[.string (st (textAt l id i)), .bool (isAt l id i)]) ∧ Place l id i ∧ Below w.heap.size w w'
set_option maxRecDepth 8000 in
theorem get_c (base g : Nat) (v : Value) (l : List Rec) (used : Int) (id : Nat) (w : World) (hp : PageAt w base g v l used) (hr : Rises l) (hl : l.length ≤ 100000) : Calls Try.prog 21 #[.pointer (some ⟨g, 0, none⟩), .int .u64 (id : Int)] w (GetEnds l id w) := by
  have cs := place_c base g v l used id w hp hr hl
  unfold SearchEnds at cs
  unfold GetEnds
  go_enter Try.func21, Try.ntmps21
  go_upto_region 4 with ((with_reducible refine cs.mono ?_); rintro e w2 ⟨i, rfl, hP, hb2⟩)
  have hp2 := hp.keep hb2
  obtain ⟨A, cap, rfl, _, hb, _⟩ := hp2.parts
  have c0 : w2.cell? ⟨g, 0, none⟩ = some (.slice A l.length cap) := cell_of hp2.blk 0
  have hlt := (Array.getElem?_eq_some_iff.1 hp2.blk).1
  clear cs
  cases hI : isAt l id i
  · have hT : textAt l id i = [] := by
      unfold isAt at hI
      unfold textAt
      cases h : l[i]? with
      | none => rfl
      | some b => rw [h] at hI; simp at hI; simp [hI]
    have hT := Lib.hid hT
    have hI := Lib.hid hI
    clear hp hp2 hb
    go_wp2_with fail
    exact bodyPost_ret (v := .tuple #[.string (st []), .bool false]) (by simp only [results, Try.results21]; go_simp) rfl ⟨i, by rw [hT.out, hI.out], hP, hb2⟩
  · unfold isAt at hI
    cases h : l[i]? with
    | none => rw [h] at hI; cases hI
    | some b =>
      have hT : textAt l id i = b.2 := by rw [h] at hI; unfold textAt; rw [h]; simp only [hI, if_true]
      have hI2 : isAt l id i = true := by unfold isAt; exact hI
      obtain ⟨ad, rfl, hB⟩ := hb i b h
      obtain ⟨q6, q0, q1⟩ := hB
      have hil : (i : Int) < l.length := by have := (List.getElem?_eq_some_iff.1 h).1; omega
      have hT := Lib.hid hT
      have hI2 := Lib.hid hI2
      clear hp hp2 hb hI h
      go_wp2_with fail
      exact bodyPost_ret (v := .tuple #[.string (st b.2), .bool true]) (by simp only [results, Try.results21]; go_simp) rfl ⟨i, by rw [hT.out, hI2.out], hP, hb2⟩
end Go.Proofs.Ytgcoepljlkahoaa
