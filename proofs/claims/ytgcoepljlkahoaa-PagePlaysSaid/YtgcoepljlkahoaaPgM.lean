
/-
  Pages: the reference's Put: bytes laid one by one into a row of 512.
-/
import Derived.Test.YtgcoepljlkahoaaPgE
import Derived.Test.YtgcoepljlkahoaaPgK
import Derived.Test.YtgcoepljlkahoaaInsA
import Derived.Laws.MakeOwn
import Derived.Lib.LazyBuf
set_option linter.unusedSimpArgs false
set_option linter.unusedVariables false
namespace Go.Proofs.Ytgcoepljlkahoaa
open Go.RowKit

abbrev u8V (x : UInt8) : Value := .int .u8 (x.toNat : Int)
abbrev byteC (D : List UInt8) : List Value := D.map u8V
/-- bytes laid over others -/
def layB (D : List UInt8) (o : Nat) (s : List UInt8) : List UInt8 := D.take o ++ s ++ D.drop (o + s.length)
theorem layB_puts (D : List UInt8) (o : Nat) (s : List UInt8) : puts (byteC D) o (byteC s) = byteC (layB D o s) := by
  unfold puts layB byteC
  rw [List.map_append, List.map_append, List.map_take, List.map_drop, List.length_map]
theorem layB_len {D : List UInt8} {o : Nat} {s : List UInt8} (h : o + s.length ≤ D.length) : (layB D o s).length = D.length := by
  unfold layB
  simp only [List.length_append, List.length_take, List.length_drop]
  omega
theorem layB_mid {X Y Z s : List UInt8} (h : Y.length = s.length) : layB (X ++ Y ++ Z) X.length s = X ++ s ++ Z := by
  have h1 : (X ++ Y ++ Z).take X.length = X := by rw [List.append_assoc, List.take_left]
  have h2 : (X ++ Y ++ Z).drop (X.length + s.length) = Z := by rw [← h, ← List.length_append, List.drop_left]
  unfold layB
  rw [h1, h2]
theorem repeatL_zero : ∀ n, Lib.repeatL [0] n = List.replicate n (0 : UInt8)
  | 0 => rfl
  | n + 1 => by rw [List.replicate_succ, Lib.repeatL, repeatL_zero n]; rfl
/-- the bytes with the first i records -/
def refD (l : List Rec) (i : Nat) : List UInt8 := (encF l.length (l.take i)).1 ++ List.replicate (512 - (encF l.length (l.take i)).1.length - (encF l.length (l.take i)).2.length) 0 ++ (encF l.length (l.take i)).2
theorem refD_all (l : List Rec) : refD l l.length = encL l := by
  unfold refD encL
  rw [List.take_length, repeatL_zero]
theorem refD_none (l : List Rec) : refD l 0 = layB (List.replicate 512 0) 0 (twoL (l.length : Int)) := by
  show twoL (l.length : Int) ++ List.replicate (512 - 2 - 0) 0 ++ [] = [] ++ twoL (l.length : Int) ++ (List.replicate 512 0).drop 2
  rw [List.drop_replicate, List.append_nil, List.nil_append]
theorem usedN_take (l : List Rec) (i : Nat) : usedN (l.take i) ≤ usedN l := by
  have h1 := sumL_take_le l i
  have h2 : (l.take i).length ≤ l.length := by rw [List.length_take]; omega
  unfold usedN
  omega
theorem refD_len {l : List Rec} (hu : usedN l ≤ 512) (i : Nat) : (refD l i).length = 512 := by
  have h1 := encF_len l.length (l.take i)
  have h2 := usedN_take l i
  unfold refD
  rw [List.length_append, List.length_append, List.length_replicate]
  unfold usedN at h2 hu
  omega
theorem refD_step {l : List Rec} {i : Nat} {b : Rec} (h : l[i]? = some b) (hu : usedN l ≤ 512) :
    refD l (i + 1) = layB (layB (refD l i) (atN l i) b.2) (2 + 12 * i) (slotL b (sumL (l.take (i + 1)))) := by
  have hi := (List.getElem?_eq_some_iff.1 h).1
  have h1 := encF_len l.length (l.take i)
  have h2 := usedN_take l (i + 1)
  have hs := encF_take (n := l.length) h
  have hsum := (used_take h).2
  have hlt : (l.take i).length = i := by rw [List.length_take]; omega
  have hlt2 : (l.take (i + 1)).length = i + 1 := by rw [List.length_take]; omega
  unfold refD
  rw [hs]
  unfold atN
  unfold usedN at h2 hu
  rw [hlt2] at h2
  rw [hlt] at h1
  generalize encF l.length (l.take i) = E at *
  obtain ⟨H, B⟩ := E
  simp only [encStep] at *
  rw [hsum] at h2 ⊢
  obtain ⟨hH, hB⟩ := h1
  have hsl : (slotL b (sumL (l.take i) + b.2.length)).length = 12 := by simp [slotL, eightL, twoL]
  obtain ⟨z, hz⟩ : ∃ z, z = 512 - (H.length + 12) - (b.2.length + B.length) := ⟨_, rfl⟩
  have e1 : 512 - H.length - B.length = 12 + z + b.2.length := by omega
  have e2 : 512 - (sumL (l.take i) + b.2.length) = (H ++ List.replicate (12 + z) (0 : UInt8)).length := by rw [List.length_append, List.length_replicate]; omega
  have e3 : 2 + 12 * i = H.length := by omega
  have e4 : H ++ List.replicate (512 - H.length - B.length) (0 : UInt8) ++ B = (H ++ List.replicate (12 + z) 0) ++ List.replicate b.2.length 0 ++ B := by
    rw [e1, ← List.replicate_append_replicate]
    simp only [List.append_assoc]
  rw [e4, e2, layB_mid (by rw [List.length_replicate])]
  have e5 : H ++ List.replicate (12 + z) (0 : UInt8) ++ b.2 ++ B = H ++ List.replicate 12 0 ++ (List.replicate z 0 ++ (b.2 ++ B)) := by
    rw [← List.replicate_append_replicate]
    simp only [List.append_assoc]
  rw [e5, e3, layB_mid (by rw [List.length_replicate, hsl])]
  have e6 : ((b.2 ++ B).length : Int) = ((sumL (l.take i) + b.2.length : Nat) : Int) := by rw [List.length_append]; omega
  rw [e6]
  have e7 : 512 - (H ++ (eightL (b.1 : Int) ++ twoL (512 - ((sumL (l.take i) + b.2.length : Nat) : Int)) ++ twoL (b.2.length : Int))).length - (b.2 ++ B).length = z := by
    simp only [List.length_append, eightL_len, twoL_len]
    omega
  rw [e7]
  simp only [slotL, List.append_assoc]
def ByteRow (base g : Nat) (D : List UInt8) (w : World) : Prop := w.ownsRow base 5 1 (.slice (some ⟨g, 0, none⟩) 512 512) 512 (byteC D)
theorem bytes_one (D : List UInt8) : ∀ u ∈ byteC D, u.oneCell' = true := fun u hu => by
  obtain ⟨x, _, rfl⟩ := List.mem_map.1 hu
  rfl
theorem byte_size : ∀ w, (Go.sizeOf 5).run Try.prog w = .ok 1 w := by
  have h : (Try.prog.info? 5).map (·.size) = some 1 := by kernel_rfl
  intro w
  obtain ⟨i, hi, h2⟩ := Option.map_eq_some_iff.1 h
  simp [Go.sizeOf, typeInfo, hi, h2]
theorem bytes_info : (Try.prog.info? 5).map (fun i => (i.zero, i.size, i.bytes)) = some (some (.int .u8 0), 1, 1) := by kernel_rfl
theorem byte_row {base g : Nat} {D : List UInt8} {w : World} (h : ByteRow base g D w) (o : Nat) (s : List UInt8) (cap : Nat) (hD : D.length = 512) (hs : o + s.length ≤ 512) (n : Nat) (hn : s.length ≤ n) :
    (Builtin.copy_ #[27, 9] 3 #[.slice (some ⟨g, o, none⟩) n cap, .string (st s)]).run Try.prog w = .ok (goInt (s.length : Nat)) (w.setCells g o (byteC s)) ∧ ByteRow base g (layB D o s) (w.setCells g o (byteC s)) ∧ w.grownBy (w.setCells g o (byteC s)) (some g) := by
  unfold ByteRow at *
  have hl : (byteC D).length = 512 := by rw [List.length_map]; exact hD
  obtain ⟨o1, g1⟩ := own_puts (byteC s) o h (by rw [hl, List.length_map]; exact hs)
  rw [layB_puts] at o1
  have hz : (st s).size = s.length := by simp [ByteArray.size]
  have hr := Go.run_copy_string (P := Try.prog) w 27 9 3 5 g o n cap (st s) Try.underlying27 byte_size (by rw [hz]; exact hn)
    (fun j hj => own_there h (o + j) (by rw [hl]; rw [hz] at hj; omega)) (fun j hj => own_unfrozen h (o + j))
  rw [hz] at hr
  refine ⟨?_, o1, g1⟩
  rw [hr]
theorem strOf_bytes (D : List UInt8) : strOfNums (D.map fun x => (x.toNat : Int)) = st D := by
  apply ByteArray.ext
  unfold strOfNums
  simp [Function.comp_def]
theorem byte_conv {base g : Nat} {D : List UInt8} {w : World} (h : ByteRow base g D w) (hD : D.length = 512) : (convert 27 9 (.slice (some ⟨g, 0, none⟩) 512 512)).run Try.prog w = .ok (.string (st D)) w := by
  have hl : (byteC D).length = 512 := by rw [List.length_map]; exact hD
  have := run_convert_bytes_arg (P := Try.prog) w 27 5 Try.underlying27 Try.underlying5 g 0 512 512 (D.map fun x => (x.toNat : Int)) (by rw [List.length_map]; exact hD) (fun i hi => by
    rw [Nat.zero_add, h.cellAt i (by omega)]
    simp [List.getD_eq_getElem?_getD, List.getElem?_eq_getElem (show i < D.length by omega)]) 9 Try.underlying9
  rw [strOf_bytes] at this
  exact this
theorem byte_make (w : World) : ∃ w', (Instr.makeSlice 27 (.int .i64 512) (.int .i64 512)).run Try.prog w = .ok (.slice (some ⟨w.heap.size, 0, none⟩) 512 512) w' ∧ ByteRow w.heap.size w.heap.size (List.replicate 512 0) w' ∧ Below w.heap.size w w' := by
  obtain ⟨i, hi, hz0, hz1, hz2⟩ := info_parts bytes_info
  obtain ⟨K, hK⟩ : ∃ K : Nat, K = 512 := ⟨_, rfl⟩
  have h := run_makeSlice (P := Try.prog) (w := w) 27 5 i (.int .u8 0) Try.underlying27 hi hz0 .i64 .i64 K K (by omega) (by omega) (by rw [hz1]; omega) (by rw [hz2]; omega) (by omega)
  rw [hz1] at h
  simp only [Int.toNat_natCast, Nat.mul_one, Value.cells] at h
  have hc : madeCells #[.int .u8 0] K = (byteC (List.replicate K 0)).toArray := by
    apply Array.toList_inj.1
    rw [toList_madeCells_one]
    simp
  rw [hc] at h
  have hrow : (w.alloc (.cells (byteC (List.replicate K 0)).toArray 5)).ownsRow w.heap.size 5 1 (.slice (some ⟨w.heap.size, 0, none⟩) K K) K (byteC (List.replicate K 0)) := by
    refine ⟨by simp, .inr ⟨w.heap.size, K, _, rfl, Nat.le_refl _, alloc_here _ _, Nat.le_refl _, by unfold maxLen; omega, by simp, by simp⟩⟩
  refine ⟨w.alloc (.cells (byteC (List.replicate K 0)).toArray 5), ?_, ?_, below_alloc _ _⟩
  · subst hK
    exact h
  · subst hK
    exact hrow
end Go.Proofs.Ytgcoepljlkahoaa
