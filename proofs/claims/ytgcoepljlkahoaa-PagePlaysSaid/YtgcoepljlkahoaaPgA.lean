
/-
  Pages: where a record stands (place, slices.BinarySearchFunc).
-/
import Derived.Test.YtgcoepljlkahoaaBytesR
import Derived.Test.YtgcoepljlkahoaaRel
import Derived.Deep.DeepCutAuto
import Derived.Deep.CutBlock
import Derived.Deep.Slices
import Derived.Laws.BitsLemmas
set_option linter.unusedSimpArgs false
set_option linter.unusedVariables false
namespace Go.Proofs.Ytgcoepljlkahoaa
open Go.RowKit

/-- a record: its number, its bytes -/
abbrev Rec := Nat × List UInt8
abbrev bodyV (b : Rec) : Value := .agg #[.int .u64 (b.1 : Int), .string (st b.2)]
/-- the two cells of a record at an address -/
structure BodyAt (w : World) (a : Addr) (b : Rec) : Prop where
  lt : a.block < w.heap.size
  c0 : w.cell? a = some (.int .u64 (b.1 : Int))
  c1 : w.cell? ⟨a.block, a.off + 1, none⟩ = some (.string (st b.2))
theorem BodyAt.keep {w w' : World} {a : Addr} {b : Rec} (h : BodyAt w a b) (hb : Below w.heap.size w w') : BodyAt w' a b :=
  ⟨Nat.lt_of_lt_of_le h.lt hb.size, (hb.cell (p := a) h.lt).trans h.c0, (hb.cell (p := ⟨a.block, a.off + 1, none⟩) h.lt).trans h.c1⟩
/-- records at their places -/
def BodiesAt (w : World) (A : Option Addr) (l : List Rec) : Prop := ∀ (i : Nat) (b : Rec), l[i]? = some b → ∃ ad, A = some ad ∧ BodyAt w (ad.add (i * 2)) b
theorem BodiesAt.keep {w w' : World} {A : Option Addr} {l : List Rec} (h : BodiesAt w A l) (hb : Below w.heap.size w w') : BodiesAt w' A l := fun i b hi => by
  obtain ⟨ad, h1, h2⟩ := h i b hi
  exact ⟨ad, h1, h2.keep hb⟩
/-- the numbers rise -/
def Rises (l : List Rec) : Prop := ∀ (i j : Nat) (a b : Rec), i < j → l[i]? = some a → l[j]? = some b → a.1 < b.1
def sgnN (a b : Nat) : Int := if a < b then -1 else if b < a then 1 else 0

theorem below_alloc (w : World) (o : Obj) : Below w.heap.size w (w.alloc o) := (Below.refl _ _).alloc (Nat.le_refl _) _
set_option maxRecDepth 8000 in
theorem less_c (b : Rec) (id : Nat) (w : World) : Calls Try.prog 34 #[bodyV b, .int .u64 (id : Int)] w fun e w' => e = .returned (.int .i64 (sgnN b.1 id)) ∧ Below w.heap.size w w' := by
  unfold sgnN
  by_cases h1 : b.1 < id
  · have h1' : (b.1 : Int) < id := by omega
    rw [if_pos h1]
    go_enter Try.func34, Try.ntmps34
    go_wp2_with fail
    go_ret
    exact ⟨rfl, below_alloc _ _⟩
  · have h1' : ¬ (b.1 : Int) < id := by omega
    rw [if_neg h1]
    by_cases h2 : id < b.1
    · have h2' : (id : Int) < b.1 := by omega
      rw [if_pos h2]
      go_enter Try.func34, Try.ntmps34
      go_wp2_with fail
      go_ret
      exact ⟨rfl, below_alloc _ _⟩
    · have h2' : ¬ (id : Int) < b.1 := by omega
      rw [if_neg h2]
      go_enter Try.func34, Try.ntmps34
      go_wp2_with fail
      go_ret
      exact ⟨rfl, below_alloc _ _⟩

/-- where a number stands, or would -/
structure Place (l : List Rec) (id i : Nat) : Prop where
  le : i ≤ l.length
  lo : ∀ (t : Nat) b, t < i → l[t]? = some b → b.1 < id
  hi : ∀ (t : Nat) b, i ≤ t → l[t]? = some b → id ≤ b.1
def isAt (l : List Rec) (id i : Nat) : Bool := match l[i]? with | some b => b.1 == id | none => false
def SearchEnds (l : List Rec) (id : Nat) (w : World) (e : Ending) (w' : World) : Prop := ∃ i : Nat, e = .returned (.tuple #[.int .i64 (i : Int), .bool (isAt l id i)]) ∧ Place l id i ∧ Below w.heap.size w w'

set_option maxRecDepth 8000 in
set_option maxHeartbeats 4000000 in
theorem search_c (A : Option Addr) (cap : Nat) (l : List Rec) (id : Nat) (w : World) (hp : BodiesAt w A l) (hr : Rises l) (hl : l.length ≤ 100000) :
    Calls Try.prog 33 #[.slice A l.length cap, .int .u64 (id : Int), .func (.func 34) #[] #[]] w (SearchEnds l id w) := by
  have lc := fun b w => less_c b id w
  go_enter Try.func33, Try.ntmps33
  go_wp2_with fail
  go_loopw [9, 10] (fun a9 a10 wr => ∃ i j : Nat, a9 = .int .i64 i ∧ a10 = .int .i64 j ∧ i ≤ j ∧ j ≤ l.length ∧ Hid ((∀ (t : Nat) b, t < i → l[t]? = some b → b.1 < id) ∧ (∀ (t : Nat) b, j ≤ t → l[t]? = some b → id ≤ b.1)) ∧ Below w.heap.size w wr) (fun a b _ => (intOf b).toNat - (intOf a).toNat)
  case atStart => exact ⟨0, l.length, rfl, rfl, Nat.zero_le _, Nat.le_refl _, Lib.hid ⟨fun t b h => absurd h (Nat.not_lt_zero _), fun t b h1 h2 => by rw [List.getElem?_eq_none h1] at h2; cases h2⟩, Below.refl _ _⟩
  case round =>
    obtain ⟨i, j, rfl, rfl, hij, hj, hinv, hbr⟩ := hrel
    by_cases hlt : i < j
    · have hlt' : (i : Int) < j := by omega
      have w1 : IntKind.i64.wrap ((i : Int) + j) = (i : Int) + j := by rw [IntKind.wrap_i64]; omega
      obtain ⟨m, hm⟩ : ∃ m, m = (i + j) / 2 := ⟨_, rfl⟩
      have hm1 : i ≤ m := by omega
      have hm2 : m < j := by omega
      have hmz : ((i : Int) + j) / 2 = (m : Int) := by omega
      have hml : (m : Int) < l.length := by omega
      have hmn : m < l.length := by omega
      have w2 : IntKind.i64.wrap ((m : Int) + 1) = (m : Int) + 1 := by rw [IntKind.wrap_i64]; omega
      have hget : l[m]? = some l[m] := by simp
      have hlow : l[m].1 < id → ∀ (t : Nat) b, t < m + 1 → l[t]? = some b → b.1 < id := fun h t b ht hb => by
        by_cases e : t = m
        · subst e
          rw [hget] at hb
          cases hb
          exact h
        · exact Nat.lt_trans (hr t m b l[m] (by omega) hb hget) h
      have hhigh : ¬ l[m].1 < id → ∀ (t : Nat) b, m ≤ t → l[t]? = some b → id ≤ b.1 := fun h t b ht hb => by
        by_cases e : t = m
        · subst e
          rw [hget] at hb
          cases hb
          omega
        · have := hr m t l[m] b (by omega) hget hb
          omega
      obtain ⟨ad, rfl, hb⟩ := hp m l[m] hget
      obtain ⟨q6, q0, q1⟩ := hb.keep hbr
      have lc1 := lc l[m] wr
      have hh := hinv
      clear hinv hb hp hr
      by_cases hs : l[m].1 < id
      · have hL := Lib.hid (hlow hs)
        rw [show sgnN l[m].1 id = -1 by simp [sgnN, hs]] at lc1
        generalize l[m] = x at *
        clear hlow hhigh hm hget
        go_wp2_with ((with_reducible refine lc1.mono ?_); rintro e w2 ⟨rfl, hb2⟩)
        exact ⟨⟨m + 1, j, rfl, rfl, by omega, hj, ⟨hL.out, hh.out.2⟩, hbr.trans (hb2.mono hbr.size)⟩, by simp [intOf]; omega⟩
      · have hH := Lib.hid (hhigh hs)
        have hs0 : ¬ sgnN l[m].1 id < 0 := by unfold sgnN; rw [if_neg hs]; split <;> omega
        generalize sgnN l[m].1 id = z at *
        generalize l[m] = x at *
        clear hlow hhigh hm hget
        go_wp2_with ((with_reducible refine lc1.mono ?_); rintro e w2 ⟨rfl, hb2⟩)
        exact ⟨⟨i, m, rfl, rfl, hm1, by omega, ⟨hh.out.1, hH.out⟩, hbr.trans (hb2.mono hbr.size)⟩, by simp [intOf]; omega⟩
    · have hlt' : ¬ (i : Int) < j := by omega
      obtain rfl : i = j := by omega
      have hP : Place l id i := ⟨hj, hinv.out.1, hinv.out.2⟩
      clear hinv
      by_cases hil : i < l.length
      · have hil' : (i : Int) < l.length := by omega
        have hget : l[i]? = some l[i] := by simp
        obtain ⟨ad, rfl, hb⟩ := hp i l[i] hget
        obtain ⟨q6, q0, q1⟩ := hb.keep hbr
        have lc1 := lc l[i] wr
        have hle := hP.hi i l[i] (Nat.le_refl _) hget
        have hA : isAt l id i = (l[i].1 == id) := by unfold isAt; rw [hget]
        have hz : (sgnN l[i].1 id == 0) = (l[i].1 == id) := by
          unfold sgnN
          by_cases e : l[i].1 = id
          · simp [e]
          · have : ¬ l[i].1 < id := by omega
            have h2 : id < l[i].1 := by omega
            simp [this, h2, e]
        rw [← hz] at hA
        have hA := Lib.hid hA
        clear hb hp hr hle hz hget
        generalize sgnN l[i].1 id = z at *
        generalize l[i] = x at *
        go_wp2_with ((with_reducible refine lc1.mono ?_); rintro e w2 ⟨rfl, hb2⟩)
        exact bodyPost_ret (v := .tuple #[.int .i64 (i : Int), .bool (z == 0)]) (by simp only [results, Try.results33]; go_simp) rfl ⟨i, by rw [hA.out], hP, hbr.trans (hb2.mono hbr.size)⟩
      · have hil' : ¬ (i : Int) < l.length := by omega
        have hA : isAt l id i = false := by unfold isAt; rw [List.getElem?_eq_none (by omega)]
        have hA := Lib.hid hA
        go_wp2_with fail
        exact bodyPost_ret (v := .tuple #[.int .i64 (i : Int), .bool false]) (by simp only [results, Try.results33]; go_simp) rfl ⟨i, by rw [hA.out], hP, hbr⟩
end Go.Proofs.Ytgcoepljlkahoaa
