
/-
  Pages: a page's bytes are read again: what lies where in them.
-/
import Derived.Test.YtgcoepljlkahoaaPgD
set_option linter.unusedSimpArgs false
set_option linter.unusedVariables false
namespace Go.Proofs.Ytgcoepljlkahoaa
open Go.RowKit

theorem below_of_same {P : Program} {f : FuncId} {args : Array Value} {w : World} {v : Value} (h : Calls P f args w fun e w' => e = .returned v ∧ w = w') : Calls P f args w fun e w'' => e = .returned v ∧ Below w.heap.size w w'' :=
  h.mono fun _ _ h => ⟨h.1, h.2 ▸ Below.refl _ _⟩
theorem st_extract (l : List UInt8) (a b : Nat) : (⟨l.toArray⟩ : ByteArray).extract a b = ⟨((l.take b).drop a).toArray⟩ := by
  apply ByteArray.ext
  simp [ByteArray.data_extract, List.extract_eq_take_drop, List.drop_take]
attribute [go_sem] st_extract
theorem byte_toNat (n : Int) (h : 0 ≤ n) : ((byte n).toNat : Int) = n % 256 := by
  unfold byte
  rw [UInt8.toNat_ofNat']
  omega
theorem wide8 (n : Int) (h0 : 0 ≤ n) (h1 : n ≤ 18446744073709551615) : wideN (eightL n) 8 = n := by
  unfold wideN wide eightL
  simp only [List.take_succ_cons, List.take_zero, List.foldl_cons, List.foldl_nil]
  have e := fun (k : Int) (hk : 0 ≤ k) => byte_toNat k hk
  have e0 := e (n / 72057594037927936 % 256) (by omega)
  have e1 := e (n / 281474976710656 % 256) (by omega)
  have e2 := e (n / 1099511627776 % 256) (by omega)
  have e3 := e (n / 4294967296 % 256) (by omega)
  have e4 := e (n / 16777216 % 256) (by omega)
  have e5 := e (n / 65536 % 256) (by omega)
  have e6 := e (n / 256 % 256) (by omega)
  have e7 := e (n % 256) (by omega)
  clear e
  have d1 : n / 256 = n / 65536 * 256 + n / 256 % 256 := by omega
  have d2 : n / 65536 = n / 16777216 * 256 + n / 65536 % 256 := by omega
  have d3 : n / 16777216 = n / 4294967296 * 256 + n / 16777216 % 256 := by omega
  have d4 : n / 4294967296 = n / 1099511627776 * 256 + n / 4294967296 % 256 := by omega
  have d5 : n / 1099511627776 = n / 281474976710656 * 256 + n / 1099511627776 % 256 := by omega
  have d6 : n / 281474976710656 = n / 72057594037927936 * 256 + n / 281474976710656 % 256 := by omega
  have d7 : n / 72057594037927936 % 256 = n / 72057594037927936 := by omega
  have d0 : n = n / 256 * 256 + n % 256 := by omega
  rw [Int.emod_emod_of_dvd _ (Int.dvd_refl 256)] at e0 e1 e2 e3 e4 e5 e6 e7
  replace e0 := e0.trans d7
  generalize (byte (n / 72057594037927936 % 256)).toNat = b0 at *
  generalize (byte (n / 281474976710656 % 256)).toNat = b1 at *
  generalize (byte (n / 1099511627776 % 256)).toNat = b2 at *
  generalize (byte (n / 4294967296 % 256)).toNat = b3 at *
  generalize (byte (n / 16777216 % 256)).toNat = b4 at *
  generalize (byte (n / 65536 % 256)).toNat = b5 at *
  generalize (byte (n / 256 % 256)).toNat = b6 at *
  generalize (byte (n % 256)).toNat = b7 at *
  generalize n / 72057594037927936 = y7 at *
  generalize n / 281474976710656 % 256 = m6 at *
  generalize n / 281474976710656 = y6 at *
  generalize n / 1099511627776 % 256 = m5 at *
  generalize n / 1099511627776 = y5 at *
  generalize n / 4294967296 % 256 = m4 at *
  generalize n / 4294967296 = y4 at *
  generalize n / 16777216 % 256 = m3 at *
  generalize n / 16777216 = y3 at *
  generalize n / 65536 % 256 = m2 at *
  generalize n / 65536 = y2 at *
  generalize n / 256 % 256 = m1 at *
  generalize n / 256 = y1 at *
  generalize n % 256 = m0 at *
  clear d7
  omega
theorem wide2 (n : Int) (h0 : 0 ≤ n) (h1 : n < 65536) : wideN (twoL n) 8 = n := by
  unfold wideN wide twoL
  simp only [List.take_succ_cons, List.take_nil, List.take_zero, List.foldl_cons, List.foldl_nil]
  have e0 := byte_toNat (n / 256 % 256) (by omega)
  have e1 := byte_toNat (n % 256) (by omega)
  omega
theorem foldl_enc : ∀ (l : List Rec) (p : List UInt8 × List UInt8), ∃ X Y, l.foldl encStep p = (p.1 ++ X, Y ++ p.2)
  | [], p => ⟨[], [], by simp⟩
  | b :: l, p => by
    obtain ⟨X, Y, h⟩ := foldl_enc l (encStep p b)
    refine ⟨eightL (b.1 : Int) ++ twoL (512 - ((b.2 ++ p.2).length : Int)) ++ twoL (b.2.length : Int) ++ X, Y ++ b.2, h.trans ?_⟩
    simp only [encStep, List.append_assoc]
def slotL (b : Rec) (back : Nat) : List UInt8 := eightL (b.1 : Int) ++ twoL (512 - (back : Int)) ++ twoL (b.2.length : Int)
theorem enc_split {n : Nat} {l : List Rec} {i : Nat} {b : Rec} (h : l[i]? = some b) : ∃ X Y, encF n l = ((encF n (l.take i)).1 ++ slotL b (sumL (l.take (i + 1))) ++ X, Y ++ (b.2 ++ (encF n (l.take i)).2)) := by
  obtain ⟨hi, rfl⟩ := List.getElem?_eq_some_iff.1 h
  have e : l = l.take (i + 1) ++ l.drop (i + 1) := (List.take_append_drop _ _).symm
  obtain ⟨X, Y, hXY⟩ := foldl_enc (l.drop (i + 1)) (encF n (l.take (i + 1)))
  refine ⟨X, Y, ?_⟩
  have h1 : encF n l = (l.drop (i + 1)).foldl encStep (encF n (l.take (i + 1))) := by
    conv => lhs; rw [e]
    unfold encF
    rw [List.foldl_append]
  rw [h1, hXY, encF_take h]
  have h2 := (encF_len n (l.take (i + 1))).2
  rw [encF_take h] at h2
  simp only [encStep, slotL] at h2 ⊢
  rw [← h2]
theorem enc_len {l : List Rec} (hu : usedN l ≤ 512) : (encL l).length = 512 := by
  have h := encF_len l.length l
  unfold encL
  rw [List.length_append, List.length_append, Lib.repeatL_length]
  unfold usedN at hu
  simp only [List.length_singleton, Nat.mul_one]
  omega
theorem enc_two (l : List Rec) : (encL l).take 2 = twoL (l.length : Int) := by
  obtain ⟨X, Y, h⟩ := foldl_enc l (twoL (l.length : Int), [])
  unfold encL encF
  rw [h]
  simp [twoL]
/-- the place of the i-th record's bytes -/
def atN (l : List Rec) (i : Nat) : Nat := 512 - sumL (l.take (i + 1))
theorem enc_slot {l : List Rec} {i : Nat} {b : Rec} (h : l[i]? = some b) (hu : usedN l ≤ 512) :
    ((encL l).drop (2 + 12 * i)).take 8 = eightL (b.1 : Int) ∧ (((encL l).drop (2 + 12 * i)).take 10).drop 8 = twoL (atN l i : Int) ∧ (((encL l).drop (2 + 12 * i)).take 12).drop 10 = twoL (b.2.length : Int) ∧ ((encL l).take (atN l i + b.2.length)).drop (atN l i) = b.2 ∧ atN l i + b.2.length ≤ 512 := by
  obtain ⟨X, Y, hs⟩ := enc_split (n := l.length) h
  have hi := (List.getElem?_eq_some_iff.1 h).1
  have hsum : sumL (l.take (i + 1)) = sumL (l.take i) + b.2.length := by
    obtain ⟨hi, rfl⟩ := List.getElem?_eq_some_iff.1 h
    rw [List.take_succ_eq_append_getElem hi]
    simp only [sumL, List.map_append, List.map_cons, List.map_nil, List.sum_append, List.sum_cons, List.sum_nil]
    omega
  have hle := sumL_take_le l (i + 1)
  have hl1 : (encF l.length (l.take i)).1.length = 2 + 12 * i := by rw [(encF_len _ _).1, List.length_take]; omega
  have hl2 : (encF l.length (l.take i)).2.length = sumL (l.take i) := (encF_len _ _).2
  have hat : ((atN l i : Nat) : Int) = 512 - (sumL (l.take (i + 1)) : Int) := by unfold atN usedN at *; omega
  have hlen := enc_len hu
  have hd : (encL l).drop (2 + 12 * i) = slotL b (sumL (l.take (i + 1))) ++ (X ++ (Lib.repeatL [0] (512 - (encF l.length l).1.length - (encF l.length l).2.length) ++ (encF l.length l).2)) := by
    have e : encL l = (encF l.length (l.take i)).1 ++ (slotL b (sumL (l.take (i + 1))) ++ (X ++ (Lib.repeatL [0] (512 - (encF l.length l).1.length - (encF l.length l).2.length) ++ (encF l.length l).2))) := by
      conv => lhs; unfold encL; rw [show (encF l.length l).1 = (encF l.length (l.take i)).1 ++ slotL b (sumL (l.take (i + 1))) ++ X by rw [hs]]
      rw [show (encF l.length l).1 = (encF l.length (l.take i)).1 ++ slotL b (sumL (l.take (i + 1))) ++ X by rw [hs]]
      simp only [List.append_assoc]
    rw [e, List.drop_left' hl1]
  generalize X ++ (Lib.repeatL [0] (512 - (encF l.length l).1.length - (encF l.length l).2.length) ++ (encF l.length l).2) = Z at hd
  rw [hd]
  refine ⟨by simp [slotL, eightL], by rw [hat]; simp [slotL, eightL, twoL], by simp [slotL, eightL, twoL], ?_, by unfold atN usedN at *; omega⟩
  have e : encL l = ((encF l.length l).1 ++ Lib.repeatL [0] (512 - (encF l.length l).1.length - (encF l.length l).2.length) ++ Y) ++ (b.2 ++ (encF l.length (l.take i)).2) := by
    conv => lhs; unfold encL
    have : (encF l.length l).2 = Y ++ (b.2 ++ (encF l.length (l.take i)).2) := by rw [hs]
    rw [this]
    simp only [List.append_assoc]
  have hpre : ((encF l.length l).1 ++ Lib.repeatL [0] (512 - (encF l.length l).1.length - (encF l.length l).2.length) ++ Y).length = atN l i := by
    have := congrArg List.length e
    have e5 : (b.2 ++ (encF l.length (l.take i)).2).length = b.2.length + sumL (l.take i) := by rw [List.length_append, hl2]
    rw [hlen, List.length_append, e5] at this
    unfold atN
    omega
  generalize (encF l.length l).1 ++ Lib.repeatL [0] (512 - (encF l.length l).1.length - (encF l.length l).2.length) ++ Y = Q at e hpre
  rw [e, ← hpre, List.take_append, List.drop_append]
  simp
end Go.Proofs.Ytgcoepljlkahoaa
