
/-
  Keys: the plain laws. Numbers as bytes in their order; names whose noughts are doubled; spans.
-/
import Derived.Test.YteldgdlpfailgaaDoorNumG
import Derived.Test.YteldgdlpfailgaaDoorBytesR
import Derived.Test.YteldgdlpfailgaaDoorTra
set_option linter.unusedSimpArgs false
set_option linter.unusedVariables false
namespace Go.Proofs.YteldgdlpfailgaaDoor
open Go.RowKit

abbrev lessB (a b : List UInt8) : Bool := Go.Op.bytesLess a b
theorem lessB_cons (a b : UInt8) (x y : List UInt8) : lessB (a :: x) (b :: y) = (decide (a < b) || (a == b && lessB x y)) := rfl
theorem lessB_self : ∀ x : List UInt8, lessB x x = false
  | [] => rfl
  | a :: x => by rw [lessB_cons, lessB_self x]; simp
theorem wide_from (l : List UInt8) : ∀ n : Nat, l.foldl (fun n c => n * 256 + c.toNat) n = n * 256 ^ l.length + wide l := by
  induction l with
  | nil => intro n; simp [wide]
  | cons c l ih =>
    intro n
    have h1 := ih (n * 256 + c.toNat)
    have h2 := ih (0 * 256 + c.toNat)
    show List.foldl _ (n * 256 + c.toNat) l = n * 256 ^ (l.length + 1) + List.foldl _ (0 * 256 + c.toNat) l
    rw [h1, h2, Nat.pow_succ, Nat.add_mul, Nat.zero_mul, Nat.zero_add, Nat.mul_assoc, Nat.mul_comm 256]
    omega
theorem wide_cons (c : UInt8) (l : List UInt8) : wide (c :: l) = c.toNat * 256 ^ l.length + wide l := by
  have := wide_from l (0 * 256 + c.toNat)
  rw [Nat.zero_mul, Nat.zero_add] at this
  show List.foldl _ (0 * 256 + c.toNat) l = _
  rw [Nat.zero_mul, Nat.zero_add]
  exact this
/-- bytes of one length are ordered as the numbers that they are; then what follows them -/
theorem less_wide : ∀ (a b p q : List UInt8), a.length = b.length → lessB (a ++ p) (b ++ q) = (decide (wide a < wide b) || (decide (wide a = wide b) && lessB p q))
  | [], [], p, q, _ => by simp [wide]
  | [], _ :: _, _, _, h => by simp at h
  | _ :: _, [], _, _, h => by simp at h
  | x :: a, y :: b, p, q, h => by
    have hl : a.length = b.length := by simpa using h
    have ih := less_wide a b p q hl
    show lessB (x :: (a ++ p)) (y :: (b ++ q)) = _
    rw [lessB_cons, ih, wide_cons, wide_cons, hl]
    have ha := wide_lt a
    have hb := wide_lt b
    rw [hl] at ha
    generalize 256 ^ b.length = M at *
    generalize wide a = r at *
    generalize wide b = s at *
    rcases Nat.lt_trichotomy x.toNat y.toNat with hlt | heq | hgt
    · have h1 : x < y := UInt8.lt_iff_toNat_lt.2 hlt
      have h2 : (x.toNat + 1) * M ≤ y.toNat * M := Nat.mul_le_mul_right _ hlt
      rw [Nat.add_mul, Nat.one_mul] at h2
      have h3 : x.toNat * M + r < y.toNat * M + s := by omega
      simp [h1, h3]
    · have h1 : x = y := UInt8.toNat_inj.1 heq
      subst h1
      have h4 : ¬ x < x := by simp
      simp [h4]
    · have h1 : ¬ x < y := fun h => by have := UInt8.lt_iff_toNat_lt.1 h; omega
      have h2 : (y.toNat + 1) * M ≤ x.toNat * M := Nat.mul_le_mul_right _ hgt
      rw [Nat.add_mul, Nat.one_mul] at h2
      have h3 : ¬ x.toNat * M + r < y.toNat * M + s := by omega
      have h5 : ¬ x.toNat * M + r = y.toNat * M + s := by omega
      have h6 : x ≠ y := fun h => by rw [h] at hgt; omega
      simp [h1, h3, h5, h6]
theorem byte_is (k : Int) (h0 : 0 ≤ k) : ((byte k).toNat : Int) = k % 256 := by
  unfold byte
  rw [UInt8.toNat_ofNat']
  omega
theorem wide8 (n : Int) (h0 : 0 ≤ n) (h1 : n ≤ 18446744073709551615) : wideN (eightL n) 8 = n := by
  unfold wideN wide eightL
  simp only [List.take_succ_cons, List.take_zero, List.foldl_cons, List.foldl_nil]
  have e := fun (k : Int) (hk : 0 ≤ k) => byte_is k hk
  have e0 := e (n / 72057594037927936 % 256) (by omega)
  have e1 := e (n / 281474976710656 % 256) (by omega)
  have e2 := e (n / 1099511627776 % 256) (by omega)
  have e3 := e (n / 4294967296 % 256) (by omega)
  have e4 := e (n / 16777216 % 256) (by omega)
  have e5 := e (n / 65536 % 256) (by omega)
  have e6 := e (n / 256 % 256) (by omega)
  have e7 := e (n % 256) (by omega)
  clear e
  have d1 : n / 256 = n / 65536 * 256 + n / 256 % 256 := by omega
  have d2 : n / 65536 = n / 16777216 * 256 + n / 65536 % 256 := by omega
  have d3 : n / 16777216 = n / 4294967296 * 256 + n / 16777216 % 256 := by omega
  have d4 : n / 4294967296 = n / 1099511627776 * 256 + n / 4294967296 % 256 := by omega
  have d5 : n / 1099511627776 = n / 281474976710656 * 256 + n / 1099511627776 % 256 := by omega
  have d6 : n / 281474976710656 = n / 72057594037927936 * 256 + n / 281474976710656 % 256 := by omega
  have d7 : n / 72057594037927936 % 256 = n / 72057594037927936 := by omega
  have d0 : n = n / 256 * 256 + n % 256 := by omega
  rw [Int.emod_emod_of_dvd _ (Int.dvd_refl 256)] at e0 e1 e2 e3 e4 e5 e6 e7
  replace e0 := e0.trans d7
  generalize (byte (n / 72057594037927936 % 256)).toNat = b0 at *
  generalize (byte (n / 281474976710656 % 256)).toNat = b1 at *
  generalize (byte (n / 1099511627776 % 256)).toNat = b2 at *
  generalize (byte (n / 4294967296 % 256)).toNat = b3 at *
  generalize (byte (n / 16777216 % 256)).toNat = b4 at *
  generalize (byte (n / 65536 % 256)).toNat = b5 at *
  generalize (byte (n / 256 % 256)).toNat = b6 at *
  generalize (byte (n % 256)).toNat = b7 at *
  generalize n / 72057594037927936 = y7 at *
  generalize n / 281474976710656 % 256 = m6 at *
  generalize n / 281474976710656 = y6 at *
  generalize n / 1099511627776 % 256 = m5 at *
  generalize n / 1099511627776 = y5 at *
  generalize n / 4294967296 % 256 = m4 at *
  generalize n / 4294967296 = y4 at *
  generalize n / 16777216 % 256 = m3 at *
  generalize n / 16777216 = y3 at *
  generalize n / 65536 % 256 = m2 at *
  generalize n / 65536 = y2 at *
  generalize n / 256 % 256 = m1 at *
  generalize n / 256 = y1 at *
  generalize n % 256 = m0 at *
  clear d7
  omega
theorem wide_eight (n : Nat) (h : n < 18446744073709551616) : wide (eightL n) = n := by
  have := wide8 n (by omega) (by omega)
  unfold wideN at this
  rw [List.take_of_length_le (by simp [eightL])] at this
  omega
theorem wide_two (n : Int) (h0 : 0 ≤ n) (h : n < 65536) : (wide (twoL n) : Int) = n := by
  have hb : ∀ m : Int, 0 ≤ m → m < 256 → ((byte m).toNat : Int) = m := fun m h0 h1 => by
    unfold byte
    rw [UInt8.toNat_ofNat']
    omega
  unfold twoL
  rw [wide_cons, wide_cons]
  simp only [List.length_cons, List.length_nil, wide, List.foldl_nil]
  have h1 := hb (n / 256 % 256) (by omega) (by omega)
  have h2 := hb (n % 256) (by omega) (by omega)
  generalize (byte (n / 256 % 256)).toNat = u at *
  generalize (byte (n % 256)).toNat = v at *
  simp
  omega

/-- the key of an int64, of a float -/
def keyI (n : Int) : List UInt8 := 3 :: (eightL (key (part n)) ++ (twoL (over n) ++ [2]))
def keyD (f : Nat) : List UInt8 := 3 :: (eightL (key f) ++ ([0, 0] ++ [3]))
theorem less_eight (x y : Nat) (hx : x < 18446744073709551616) (hy : y < 18446744073709551616) (p q : List UInt8) : lessB (3 :: (eightL x ++ p)) (3 :: (eightL y ++ q)) = (decide (x < y) || (decide (x = y) && lessB p q)) := by
  rw [lessB_cons, less_wide _ _ _ _ (by simp [eightL]), wide_eight x hx, wide_eight y hy]
  have h4 : ¬ (3 : UInt8) < 3 := by decide
  simp [h4]
theorem key_u (n : Int) (h : I64 n) : key (part n) < 18446744073709551616 := key_lt (u64_part h).lt
theorem less_two (a b : Int) (ha : 0 ≤ a ∧ a < 1025) (hb : 0 ≤ b ∧ b < 1025) (p q : List UInt8) : lessB (twoL a ++ p) (twoL b ++ q) = (decide (a < b) || (decide (a = b) && lessB p q)) := by
  have h1 := wide_two a ha.1 (by omega)
  have h2 := wide_two b hb.1 (by omega)
  rw [less_wide _ _ _ _ (by simp [twoL])]
  congr 1
  · simp only [decide_eq_decide]; omega
  · congr 1
    simp only [decide_eq_decide]; omega
theorem keyI_less {a b : Int} (ha : I64 a) (hb : I64 b) : lessB (keyI a) (keyI b) = decide (a < b) := by
  obtain ⟨_, a0, a1⟩ := over_eq ha
  obtain ⟨_, b0, b1⟩ := over_eq hb
  unfold keyI
  rw [less_eight _ _ (key_u a ha) (key_u b hb), less_two _ _ ⟨a0, a1⟩ ⟨b0, b1⟩, lessB_self]
  have h := part_lt ha hb
  have hc := cmpF_le (part a) (part b)
  simp only [Bool.and_false, Bool.or_false]
  rw [Bool.eq_iff_iff]
  simp only [Bool.or_eq_true, Bool.and_eq_true, decide_eq_true_eq]
  rw [h, hc.1, hc.2.1]
theorem keyI_eq {a b : Int} (ha : I64 a) (hb : I64 b) : (keyI a == keyI b) = (a == b) := by
  by_cases h : a = b
  · subst h; simp
  · have h1 : (a == b) = false := by simpa using h
    have h2 : keyI a ≠ keyI b := fun e => by
      have h3 := keyI_less ha hb
      have h4 := keyI_less hb ha
      rw [e, lessB_self] at h3
      rw [e, lessB_self] at h4
      have := of_decide_eq_false h3.symm
      have := of_decide_eq_false h4.symm
      omega
    rw [h1]
    simpa using h2
theorem keyI_mix {a : Int} {f : Nat} (ha : I64 a) (hf : U64 f) : lessB (keyI a) (keyD f) = decide (mixF a f < 0) := by
  obtain ⟨_, a0, a1⟩ := over_eq ha
  unfold keyI keyD
  rw [less_eight _ _ (key_u a ha) (key_lt hf.lt)]
  have h0 : ([0, 0] : List UInt8) = twoL 0 := by decide
  rw [h0, less_two _ _ ⟨a0, a1⟩ ⟨by omega, by omega⟩]
  have h2 : lessB [2] [3] = true := by decide
  have hm := mix_le (f := f) ha
  have hn := mix_ne a f
  have hn' : mixF a f ≠ 0 := by simpa using hn
  rw [h2, Bool.eq_iff_iff]
  simp only [Bool.or_eq_true, Bool.and_eq_true, decide_eq_true_eq, and_true]
  constructor
  · rintro (h | ⟨h, h3 | h3⟩)
    · have := hm.2 (.inl h); omega
    · omega
    · have := hm.2 (.inr ⟨h, h3⟩); omega
  · intro h
    rcases hm.1 (by omega) with h | ⟨h, h3⟩
    · exact .inl h
    · exact .inr ⟨h, .inr h3⟩
theorem keyI_len (n : Int) : (keyI n).length = 12 := by simp [keyI, eightL, twoL]
theorem keyD_len (f : Nat) : (keyD f).length = 12 := by simp [keyD, eightL]
theorem keyI_keyD (n : Int) (f : Nat) : keyI n ≠ keyD f := fun h => by
  have := congrArg (fun l : List UInt8 => l[11]?) h
  simp [keyI, keyD, eightL, twoL] at this

/-- a name, its noughts doubled -/
def escL : List UInt8 → List UInt8
  | [] => []
  | c :: s => if c = 0 then 0 :: 1 :: escL s else c :: escL s
def nameL (s : List UInt8) : List UInt8 := escL s ++ [0, 0]
theorem nameL_nil : nameL [] = [0, 0] := rfl
theorem nameL_zero (s : List UInt8) : nameL (0 :: s) = 0 :: 1 :: nameL s := by simp [nameL, escL]
theorem nameL_cons {c : UInt8} (h : c ≠ 0) (s : List UInt8) : nameL (c :: s) = c :: nameL s := by simp [nameL, escL, h]
theorem pos_of {c : UInt8} (h : c ≠ 0) : (0 : UInt8) < c := by
  rw [UInt8.lt_iff_toNat_lt]
  have : c.toNat ≠ 0 := fun e => h (UInt8.toNat_inj.1 e)
  simpa using Nat.pos_of_ne_zero this
theorem name_less : ∀ a b : List UInt8, lessB (nameL a) (nameL b) = lessB a b
  | [], [] => by decide
  | [], c :: b => by
    by_cases h : c = 0
    · subst h; rw [nameL_nil, nameL_zero]; rfl
    · rw [nameL_nil, nameL_cons h, lessB_cons]
      have := pos_of h
      simp [this]
      rfl
  | c :: a, [] => by
    by_cases h : c = 0
    · subst h; rw [nameL_nil, nameL_zero]; rfl
    · rw [nameL_nil, nameL_cons h, lessB_cons]
      have h1 : ¬ c < 0 := by simp
      have h2 : (c == 0) = false := by simpa using h
      simp [h1, h2]
      rfl
  | x :: a, y :: b => by
    have ih := name_less a b
    by_cases hx : x = 0
    · subst hx
      by_cases hy : y = 0
      · subst hy
        rw [nameL_zero, nameL_zero, lessB_cons, lessB_cons, ih, lessB_cons]
        simp
      · rw [nameL_zero, nameL_cons hy, lessB_cons, lessB_cons]
        have := pos_of hy
        simp [this]
    · by_cases hy : y = 0
      · subst hy
        rw [nameL_zero, nameL_cons hx, lessB_cons, lessB_cons]
        have h1 : ¬ x < 0 := by simp
        have h2 : (x == 0) = false := by simpa using hx
        simp [h1, h2]
      · rw [nameL_cons hx, nameL_cons hy, lessB_cons, lessB_cons, ih]
/-- no name's key begins with another one's -/
theorem name_part : ∀ (a b : List UInt8), nameL a <+: nameL b → a = b
  | [], [], _ => rfl
  | [], c :: b, h => by
    exfalso
    by_cases hc : c = 0
    · subst hc
      rw [nameL_nil, nameL_zero, List.cons_prefix_cons, List.cons_prefix_cons] at h
      exact absurd h.2.1 (by decide)
    · rw [nameL_nil, nameL_cons hc, List.cons_prefix_cons] at h
      exact hc h.1.symm
  | c :: a, [], h => by
    exfalso
    by_cases hc : c = 0
    · subst hc
      rw [nameL_nil, nameL_zero, List.cons_prefix_cons, List.cons_prefix_cons] at h
      exact absurd h.2.1 (by decide)
    · rw [nameL_nil, nameL_cons hc, List.cons_prefix_cons] at h
      exact hc h.1
  | x :: a, y :: b, h => by
    by_cases hx : x = 0
    · subst hx
      by_cases hy : y = 0
      · subst hy
        rw [nameL_zero, nameL_zero, List.cons_prefix_cons, List.cons_prefix_cons] at h
        rw [name_part a b h.2.2]
      · rw [nameL_zero, nameL_cons hy, List.cons_prefix_cons] at h
        exact absurd h.1.symm hy
    · by_cases hy : y = 0
      · subst hy
        rw [nameL_zero, nameL_cons hx, List.cons_prefix_cons] at h
        exact absurd h.1 hx
      · rw [nameL_cons hx, nameL_cons hy, List.cons_prefix_cons] at h
        rw [h.1, name_part a b h.2]
theorem name_eq (a b : List UInt8) : (nameL a == nameL b) = (a == b) := by
  by_cases h : a = b
  · subst h; simp
  · have h1 : (a == b) = false := by simpa using h
    rw [h1]
    simpa using fun e => h (name_part a b (by rw [e]; exact List.prefix_refl _))

/-- the end of the span of all that begins so: [] where there is none -/
def endL (s : List UInt8) : Nat → List UInt8
  | 0 => []
  | i + 1 => if s.getD i 0 < 255 then s.take i ++ [s.getD i 0 + 1] else endL s i
theorem endL_cons (x : UInt8) (s : List UInt8) : ∀ n : Nat, endL (x :: s) (n + 1) = if endL s n = [] then (if x < 255 then [x + 1] else []) else x :: endL s n
  | 0 => by
    unfold endL
    simp [endL]
  | n + 1 => by
    have ih := endL_cons x s n
    have e1 : endL (x :: s) (n + 1 + 1) = if s.getD n 0 < 255 then x :: (s.take n ++ [s.getD n 0 + 1]) else endL (x :: s) (n + 1) := by
      conv => lhs; unfold endL
      simp
    have e2 : endL s (n + 1) = if s.getD n 0 < 255 then s.take n ++ [s.getD n 0 + 1] else endL s n := by
      conv => lhs; unfold endL
    rw [e1, e2, ih]
    by_cases h : s.getD n 0 < 255
    · rw [if_pos h, if_pos h, if_neg (by simp)]
    · rw [if_neg h, if_neg h]
/-- a span has just what begins so -/
theorem span_law : ∀ s k : List UInt8, (!lessB k s && ((endL s s.length).isEmpty || lessB k (endL s s.length))) = decide (s <+: k)
  | [], k => by
    have h1 : lessB k [] = false := by cases k <;> rfl
    rw [h1]
    simp [endL]
  | x :: s, [] => by
    have h1 : lessB [] (x :: s) = true := rfl
    rw [h1]
    simp
  | x :: s, y :: k => by
    have ih := span_law s k
    have hp : decide (x :: s <+: y :: k) = (decide (x = y) && decide (s <+: k)) := by
      rw [Bool.eq_iff_iff]
      simp only [decide_eq_true_eq, Bool.and_eq_true, List.cons_prefix_cons]
    rw [hp, ← ih, lessB_cons, show (x :: s).length = s.length + 1 from rfl, endL_cons]
    generalize endL s s.length = E at *
    rcases Nat.lt_trichotomy y.toNat x.toNat with hlt | heq | hgt
    · have h1 : y < x := UInt8.lt_iff_toNat_lt.2 hlt
      have h2 : x ≠ y := fun h => by rw [h] at hlt; omega
      simp [h1, h2]
    · have h1 : y = x := UInt8.toNat_inj.1 heq
      subst h1
      have h2 : ¬ y < y := by simp
      by_cases hE : E = []
      · subst hE
        by_cases hy : y < 255
        · have h3 : y < y + 1 := by
            rw [UInt8.lt_iff_toNat_lt] at hy ⊢
            have : (255 : UInt8).toNat = 255 := rfl
            rw [UInt8.toNat_add]
            have : (1 : UInt8).toNat = 1 := rfl
            omega
          rw [if_pos rfl, if_pos hy, lessB_cons]
          simp [h2, h3]
        · rw [if_pos rfl, if_neg hy]
          simp [h2]
      · have h3 : E.isEmpty = false := by cases E <;> simp_all
        rw [if_neg hE, lessB_cons, h3]
        simp [h2]
    · have h1 : ¬ y < x := fun h => by have := UInt8.lt_iff_toNat_lt.1 h; omega
      have h2 : x ≠ y := fun h => by rw [h] at hgt; omega
      have h3 : y ≠ x := Ne.symm h2
      by_cases hE : E = []
      · subst hE
        have hy : x < 255 := by
          rw [UInt8.lt_iff_toNat_lt]
          have : (255 : UInt8).toNat = 255 := rfl
          have := y.toNat_lt
          omega
        have h4 : (x + 1).toNat = x.toNat + 1 := by
          rw [UInt8.toNat_add]
          have : (1 : UInt8).toNat = 1 := rfl
          have := y.toNat_lt
          omega
        have h5 : ¬ y < x + 1 := fun h => by have := UInt8.lt_iff_toNat_lt.1 h; omega
        have h6 : lessB k [] = false := by cases k <;> rfl
        rw [if_pos rfl, if_pos hy, lessB_cons, h6]
        simp [h1, h2, h5]
      · rw [if_neg hE, lessB_cons]
        simp [h1, h2, h3]
theorem prefix_take (s k : List UInt8) : decide (s <+: k) = (decide (s.length ≤ k.length) && (k.take s.length == s)) := by
  rw [Bool.eq_iff_iff]
  simp only [decide_eq_true_eq, Bool.and_eq_true, beq_iff_eq]
  rw [List.prefix_iff_eq_take]
  constructor
  · intro h
    refine ⟨?_, h.symm⟩
    have := congrArg List.length h
    rw [List.length_take] at this
    omega
  · exact fun h => h.2.symm
end Go.Proofs.YteldgdlpfailgaaDoor
