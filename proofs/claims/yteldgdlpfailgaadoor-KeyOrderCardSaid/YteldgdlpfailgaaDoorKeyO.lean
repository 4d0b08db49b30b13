
/-
  Keys are ordered as their values are: the plain law.
-/
import Derived.Test.YteldgdlpfailgaaDoorKeyE
set_option linter.unusedSimpArgs false
set_option linter.unusedVariables false
namespace Go.Proofs.YteldgdlpfailgaaDoor
open Go.RowKit

theorem Lies.f {k : Int} {b : Bool} {n : Int} {f : Nat} {s : List UInt8} {l : List Val} (h : Lies (.mk k b n f s l)) : U64 f := by
  obtain ⟨w, u, h⟩ := h
  obtain ⟨A, cap, _, _, _, hf, _⟩ := h.open
  exact hf
/-- names, and what follows them -/
theorem name_tail : ∀ a b p q : List UInt8, lessB (nameL a ++ p) (nameL b ++ q) = (lessB a b || (a == b && lessB p q))
  | [], [], p, q => by
    rw [nameL_nil]
    show lessB (0 :: 0 :: p) (0 :: 0 :: q) = _
    rw [lessB_cons, lessB_cons]
    simp [lessB_self]
  | [], c :: b, p, q => by
    by_cases h : c = 0
    · subst h; rw [nameL_nil, nameL_zero]; rfl
    · rw [nameL_nil, nameL_cons h]
      show lessB (0 :: (0 :: p)) (c :: (nameL b ++ q)) = _
      rw [lessB_cons]
      have := pos_of h
      simp [this]
      rfl
  | c :: a, [], p, q => by
    by_cases h : c = 0
    · subst h; rw [nameL_nil, nameL_zero]; rfl
    · rw [nameL_nil, nameL_cons h]
      show lessB (c :: (nameL a ++ p)) (0 :: (0 :: q)) = _
      rw [lessB_cons]
      have h1 : ¬ c < 0 := by simp
      have h2 : (c == 0) = false := by simpa using h
      simp [h1, h2]
      rfl
  | x :: a, y :: b, p, q => by
    have ih := name_tail a b p q
    by_cases hx : x = 0
    · subst hx
      by_cases hy : y = 0
      · subst hy
        rw [nameL_zero, nameL_zero]
        show lessB (0 :: 1 :: (nameL a ++ p)) (0 :: 1 :: (nameL b ++ q)) = _
        rw [lessB_cons, lessB_cons, ih, lessB_cons]
        simp
      · rw [nameL_zero, nameL_cons hy]
        show lessB (0 :: (1 :: (nameL a ++ p))) (y :: (nameL b ++ q)) = _
        rw [lessB_cons, lessB_cons]
        have := pos_of hy
        simp [this]
    · by_cases hy : y = 0
      · subst hy
        rw [nameL_zero, nameL_cons hx]
        show lessB (x :: (nameL a ++ p)) (0 :: (1 :: (nameL b ++ q))) = _
        rw [lessB_cons, lessB_cons]
        have h1 : ¬ x < 0 := by simp
        have h2 : (x == 0) = false := by simpa using hx
        simp [h1, h2]
      · rw [nameL_cons hx, nameL_cons hy]
        show lessB (x :: (nameL a ++ p)) (y :: (nameL b ++ q)) = _
        rw [lessB_cons, lessB_cons, ih]
        cases h3 : (x == y)
        · rw [List.cons_beq_cons, h3]; simp
        · rw [List.cons_beq_cons, h3]; simp [Bool.or_assoc]
/-- what a value's key is ordered as, and what follows it -/
def Goes (a b : Val) : Prop := ∀ p q : List UInt8, lessB (keyV a ++ p) (keyV b ++ q) = (decide (cmpV a b < 0) || (decide (cmpV a b = 0) && lessB p q))
theorem goes_list : ∀ (la lb : List Val), (∀ x ∈ la, ∀ y ∈ lb, Goes x y) → ∀ p q : List UInt8, lessB (keyVL la ++ 0 :: p) (keyVL lb ++ 0 :: q) = (decide (cmpVL la lb < 0) || (decide (cmpVL la lb = 0) && lessB p q))
  | [], [], _, p, q => by
    simp [keyVL, cmpVL, lessB_cons]
  | [], y :: lb, _, p, q => by
    rw [keyVL, keyVL, cmpVL]
    show lessB (0 :: p) (1 :: _) = _
    rw [lessB_cons]
    simp
  | x :: la, [], _, p, q => by
    rw [keyVL, keyVL, cmpVL]
    show lessB (1 :: _) (0 :: q) = _
    rw [lessB_cons]
    simp
  | x :: la, y :: lb, h, p, q => by
    have ih := goes_list la lb (fun u hu v hv => h u (List.mem_cons_of_mem _ hu) v (List.mem_cons_of_mem _ hv)) p q
    have hx := h x (by simp) y (by simp) (keyVL la ++ 0 :: p) (keyVL lb ++ 0 :: q)
    rw [keyVL, keyVL, cmpVL]
    simp only [List.cons_append, List.append_assoc]
    rw [lessB_cons, hx, ih]
    by_cases hz : cmpV x y = 0
    · simp [hz]
    · simp [hz]
theorem cls_less {a b : Int} (ha : 0 ≤ a ∧ a ≤ 8) (hb : 0 ≤ b ∧ b ≤ 8) : (decide (clsB a < clsB b) = decide (rcls a < rcls b)) ∧ ((clsB a == clsB b) = decide (rcls a = rcls b)) := by
  rcases cls_byte ha.1 ha.2 with rfl | rfl | rfl | rfl | rfl | rfl | rfl | rfl | rfl <;> rcases cls_byte hb.1 hb.2 with rfl | rfl | rfl | rfl | rfl | rfl | rfl | rfl | rfl <;> exact ⟨by decide, by decide⟩
theorem shape_n {k : Int} {b : Bool} {n : Int} {f : Nat} {s : List UInt8} {l : List Val} (h : shape k b n f s l = true) : (k ≠ 2 → k ≠ 7 → k ≠ 8 → n = 0) ∧ (k = 7 ∨ k = 8 → 1 ≤ n) := by
  unfold shape at h
  simp only [Bool.and_eq_true, Bool.or_eq_true, decide_eq_true_eq, beq_iff_eq, Bool.not_eq_true'] at h
  obtain ⟨⟨⟨⟨⟨_, h1⟩, h2⟩, _⟩, _⟩, _⟩ := h
  refine ⟨fun a b c => ?_, fun h78 => ?_⟩
  · rcases h1 with ((h1 | h1) | h1) | h1 <;> omega
  · rcases h2 with h2 | h2
    · rcases h78 with rfl | rfl <;> simp at h2
    · exact h2
theorem less_eight' (x y : Int) (hx : 0 ≤ x ∧ x < 18446744073709551616) (hy : 0 ≤ y ∧ y < 18446744073709551616) (p q : List UInt8) : lessB (eightL x ++ p) (eightL y ++ q) = (decide (x < y) || (decide (x = y) && lessB p q)) := by
  have h := less_eight x.toNat y.toNat (by omega) (by omega) p q
  rw [lessB_cons, Int.toNat_of_nonneg hx.1, Int.toNat_of_nonneg hy.1] at h
  have h4 : ¬ (3 : UInt8) < 3 := by decide
  have e1 : decide (x.toNat < y.toNat) = decide (x < y) := by simp only [decide_eq_decide]; omega
  have e2 : decide (x.toNat = y.toNat) = decide (x = y) := by simp only [decide_eq_decide]; omega
  rw [e1, e2] at h
  simpa [h4] using h
theorem numI_tail {a b : Int} (ha : I64 a) (hb : I64 b) (p q : List UInt8) : lessB (eightL (key (part a)) ++ (twoL (over a) ++ (2 :: p))) (eightL (key (part b)) ++ (twoL (over b) ++ (2 :: q))) = (decide (a < b) || (decide (a = b) && lessB p q)) := by
  obtain ⟨_, a0, a1⟩ := over_eq ha
  obtain ⟨_, b0, b1⟩ := over_eq hb
  have ka := key_u a ha
  have kb := key_u b hb
  rw [less_eight' _ _ (by omega) (by omega), less_two _ _ ⟨a0, a1⟩ ⟨b0, b1⟩, lessB_cons]
  have h := part_lt ha hb
  have h' := part_lt hb ha
  have hc := cmpF_le (part a) (part b)
  have hd := cmpF_le (part b) (part a)
  have h4 : ¬ (2 : UInt8) < 2 := by decide
  cases lessB p q
  · simp only [h4, decide_false, Bool.false_or, Bool.and_false, Bool.or_false]
    rw [Bool.eq_iff_iff]
    simp only [Bool.or_eq_true, Bool.and_eq_true, decide_eq_true_eq]
    rw [h, hc.1, hc.2.1]
    omega
  · simp only [h4, decide_false, Bool.false_or, Bool.and_true, beq_self_eq_true]
    rw [Bool.eq_iff_iff]
    simp only [Bool.or_eq_true, Bool.and_eq_true, decide_eq_true_eq]
    have e : (a < b ∨ a = b) ↔ ¬ b < a := by omega
    rw [e, h', hd.1, hd.2.1]
    omega
theorem numM_tail {a : Int} {f : Nat} (ha : I64 a) (hf : U64 f) (p q : List UInt8) : lessB (eightL (key (part a)) ++ (twoL (over a) ++ (2 :: p))) (eightL (key f) ++ (0 :: 0 :: 3 :: q)) = decide (mixF a f < 0) := by
  obtain ⟨_, a0, a1⟩ := over_eq ha
  have ka := key_u a ha
  have kf := key_lt hf.lt
  have h0 : (0 :: 0 :: 3 :: q : List UInt8) = twoL 0 ++ (3 :: q) := by
    have : ([0, 0] : List UInt8) = twoL 0 := by decide
    rw [← this]; rfl
  rw [h0, less_eight' _ _ (by omega) (by omega), less_two _ _ ⟨a0, a1⟩ ⟨by omega, by omega⟩, lessB_cons]
  have h2 : (decide ((2 : UInt8) < 3)) = true := by decide
  have hm := mix_le (f := f) ha
  have hn := mix_ne a f
  have hn' : mixF a f ≠ 0 := by simpa using hn
  rw [h2, Bool.eq_iff_iff]
  simp only [Bool.or_eq_true, Bool.and_eq_true, decide_eq_true_eq, Bool.true_or, and_true]
  constructor
  · rintro (h | ⟨h, h3 | h3⟩)
    · have := hm.2 (.inl (by omega)); omega
    · omega
    · have := hm.2 (.inr ⟨by omega, h3⟩); omega
  · intro h
    rcases hm.1 (by omega) with h | ⟨h, h3⟩
    · exact .inl (by omega)
    · exact .inr ⟨by omega, .inr h3⟩
theorem numW_tail {a : Int} {f : Nat} (ha : I64 a) (hf : U64 f) (p q : List UInt8) : lessB (eightL (key f) ++ (0 :: 0 :: 3 :: q)) (eightL (key (part a)) ++ (twoL (over a) ++ (2 :: p))) = decide (- mixF a f < 0) := by
  obtain ⟨_, a0, a1⟩ := over_eq ha
  have ka := key_u a ha
  have kf := key_lt hf.lt
  have h0 : (0 :: 0 :: 3 :: q : List UInt8) = twoL 0 ++ (3 :: q) := by
    have : ([0, 0] : List UInt8) = twoL 0 := by decide
    rw [← this]; rfl
  rw [h0, less_eight' _ _ (by omega) (by omega), less_two _ _ ⟨by omega, by omega⟩ ⟨a0, a1⟩, lessB_cons]
  have h2 : (decide ((3 : UInt8) < 2)) = false := by decide
  have h3 : ((3 : UInt8) == 2) = false := by decide
  have hm := mix_ge (f := f) ha
  have hn := mix_ne a f
  have hn' : mixF a f ≠ 0 := by simpa using hn
  rw [h2, h3, Bool.eq_iff_iff]
  simp only [Bool.or_eq_true, Bool.and_eq_true, decide_eq_true_eq, Bool.false_or, Bool.false_and, Bool.false_eq_true, and_false, or_false]
  have e : (- mixF a f < 0) ↔ - mixF a f ≤ 0 := by omega
  rw [e, hm]
  omega
theorem numF_tail {f g : Nat} (hf : U64 f) (hg : U64 g) (p q : List UInt8) : lessB (eightL (key f) ++ (0 :: 0 :: 3 :: p)) (eightL (key g) ++ (0 :: 0 :: 3 :: q)) = (decide (cmpF f g < 0) || (decide (cmpF f g = 0) && lessB p q)) := by
  have kf := key_lt hf.lt
  have kg := key_lt hg.lt
  rw [less_eight' _ _ (by omega) (by omega), lessB_cons, lessB_cons, lessB_cons]
  have hc := cmpF_le f g
  have h4 : ¬ (3 : UInt8) < 3 := by decide
  have h5 : ¬ (0 : UInt8) < 0 := by decide
  have e1 : decide ((key f : Int) < key g) = decide (cmpF f g < 0) := by simp only [decide_eq_decide]; rw [hc.1]; omega
  have e2 : decide ((key f : Int) = key g) = decide (cmpF f g = 0) := by simp only [decide_eq_decide]; rw [hc.2.1]; omega
  rw [e1, e2]
  simp [h4, h5]
theorem goes_of : ∀ (z : Nat) (a b : Val) (d e : Nat), wsz a ≤ z → Lies a → Lies b → checkV a d = 0 → checkV b e = 0 → Goes a b := by
  intro z
  induction z with
  | zero =>
    intro a b d e h
    have := wsz_pos a
    omega
  | succ z ih =>
    intro a b d e hz ha hb ca cb p q
    obtain ⟨ka, ba, na, fa, sa, la⟩ := a
    obtain ⟨kb, bb, nb, fb, sb, lb⟩ := b
    have fia := fine_of ca
    have fib := fine_of cb
    have ra := shape_range fia.sh
    have rb := shape_range fib.sh
    have na' := shape_n fia.sh
    have nb' := shape_n fib.sh
    have hcl := cls_less ra rb
    have ia := ha.n
    have ib := hb.n
    have ja := ha.f
    have jb := hb.f
    rw [keyV, keyV, List.cons_append, List.cons_append, lessB_cons, hcl.1, hcl.2]
    by_cases hr : rcls ka = rcls kb
    · rw [decide_eq_true hr, decide_eq_false (by omega : ¬ rcls ka < rcls kb), Bool.false_or, Bool.true_and]
      by_cases hk2 : ka = 2 ∨ ka = 3
      · have hb2 : kb = 2 ∨ kb = 3 := by unfold rcls at hr; split at hr <;> split at hr <;> omega
        rcases hk2 with rfl | rfl <;> rcases hb2 with rfl | rfl
        · have hv : cmpV (.mk 2 ba na fa sa la) (.mk 2 bb nb fb sb lb) = sgnI na nb := by simp [cmpV]
          rw [hv]
          have ht := numI_tail ia ib p q
          have e1 : decide (sgnI na nb < 0) = decide (na < nb) := by simp only [decide_eq_decide]; unfold sgnI; split <;> (try split) <;> omega
          have e2 : decide (sgnI na nb = 0) = decide (na = nb) := by simp only [decide_eq_decide]; unfold sgnI; split <;> (try split) <;> omega
          rw [e1, e2, ← ht]
          simp
        · have hv : cmpV (.mk 2 ba na fa sa la) (.mk 3 bb nb fb sb lb) = mixF na fb := by simp [cmpV, rcls]
          have hn := mix_ne na fb
          have hn' : mixF na fb ≠ 0 := by simpa using hn
          rw [hv, decide_eq_false hn', Bool.false_and, Bool.or_false, ← numM_tail ia jb p q]
          simp
        · have hv : cmpV (.mk 3 ba na fa sa la) (.mk 2 bb nb fb sb lb) = - mixF nb fa := by simp [cmpV, rcls]
          have hn := mix_ne nb fa
          have hn' : mixF nb fa ≠ 0 := by simpa using hn
          rw [hv, decide_eq_false (by omega : ¬ - mixF nb fa = 0), Bool.false_and, Bool.or_false, ← numW_tail ib ja q p]
          simp
        · have hv : cmpV (.mk 3 ba na fa sa la) (.mk 3 bb nb fb sb lb) = cmpF fa fb := by simp [cmpV]
          rw [hv, ← numF_tail ja jb p q]
          simp
      · have hkb : kb = ka := by unfold rcls at hr; split at hr <;> split at hr <;> omega
        subst hkb
        by_cases k1 : kb = 1
        · subst k1
          have hv : cmpV (.mk 1 ba na fa sa la) (.mk 1 bb nb fb sb lb) = (if ba = bb then 0 else if bb then -1 else 1) := by simp [cmpV]
          rw [hv, if_pos rfl, if_pos rfl]
          cases ba <;> cases bb <;> simp [lessB_cons]
        by_cases k4 : kb = 4
        · subst k4
          have hv : cmpV (.mk 4 ba na fa sa la) (.mk 4 bb nb fb sb lb) = Go.Lib.compareBytes sa sb := by simp [cmpV]
          rw [hv, if_neg (by omega), if_neg (by omega), if_neg (by omega), if_pos rfl, if_neg (by omega), if_neg (by omega), if_neg (by omega), if_pos rfl, name_tail, ← eq_cmp, ← less_cmp]
        by_cases k56 : kb = 5 ∨ kb = 6
        · have hv : cmpV (.mk kb ba na fa sa la) (.mk kb bb nb fb sb lb) = cmpVL la lb := by
            rcases k56 with h | h <;> simp [cmpV, h]
          rw [hv, if_neg k1, if_neg (by omega), if_neg (by omega), if_neg k4, if_pos k56, if_neg k1, if_neg (by omega), if_neg (by omega), if_neg k4, if_pos k56]
          have := goes_list la lb (fun x hx y hy => by
            obtain ⟨lx, sx⟩ := ha.part x hx
            obtain ⟨ly, sy⟩ := hb.part y hy
            exact ih x y (d + 1) (e + 1) (by omega) lx ly (fia.parts x hx) (fib.parts y hy)) p q
          rw [← this]
          simp
        have hv : cmpV (.mk kb ba na fa sa la) (.mk kb bb nb fb sb lb) = sgnI na nb := by
          have n2 : kb ≠ 2 := by omega
          have n3 : kb ≠ 3 := by omega
          have n5 : kb ≠ 5 := by omega
          have n6 : kb ≠ 6 := by omega
          simp [cmpV, k1, n2, n3, k4, n5, n6]
        have e1 : decide (sgnI na nb < 0) = decide (na < nb) := by simp only [decide_eq_decide]; unfold sgnI; split <;> (try split) <;> omega
        have e2 : decide (sgnI na nb = 0) = decide (na = nb) := by simp only [decide_eq_decide]; unfold sgnI; split <;> (try split) <;> omega
        rw [hv, e1, e2]
        have i1 := ia.1
        have i2 := ia.2
        have i3 := ib.1
        have i4 := ib.2
        by_cases k78 : kb = 7 ∨ kb = 8
        · have p1 := na'.2 k78
          have p2 := nb'.2 k78
          rw [if_neg k1, if_neg (by omega), if_neg (by omega), if_neg k4, if_neg k56, if_pos k78, if_neg k1, if_neg (by omega), if_neg (by omega), if_neg k4, if_neg k56, if_pos k78]
          have m1 : na % 18446744073709551616 = na := by omega
          have m2 : nb % 18446744073709551616 = nb := by omega
          rw [m1, m2, less_eight' _ _ (by omega) (by omega)]
        · have z1 := na'.1 (by omega) (by omega) (by omega)
          have z2 := nb'.1 (by omega) (by omega) (by omega)
          subst z1 z2
          rw [if_neg k1, if_neg (by omega), if_neg (by omega), if_neg k4, if_neg k56, if_neg k78]
          have n2 : kb ≠ 2 := by omega
          have n3 : kb ≠ 3 := by omega
          have n5 : kb ≠ 5 := by omega
          have n6 : kb ≠ 6 := by omega
          have n7 : kb ≠ 7 := by omega
          have n8 : kb ≠ 8 := by omega
          simp [k1, n2, n3, k4, n5, n6, n7, n8]
    · have hv := cmpV_apart hr ba bb na nb fa fb sa sb la lb
      rw [hv, decide_eq_false hr]
      by_cases hlt : rcls ka < rcls kb
      · rw [if_pos hlt]; simp [hlt]
      · rw [if_neg hlt]; simp [hlt]
/-- keys are ordered as their values are -/
theorem keyV_less {a b : Val} (h : Goes a b) : lessB (keyV a) (keyV b) = decide (cmpV a b < 0) := by
  have := h [] []
  rw [List.append_nil, List.append_nil, lessB_self, Bool.and_false, Bool.or_false] at this
  exact this
theorem keyV_same {a b : Val} (h : Goes a b) (h' : Goes b a) : keyV a = keyV b → cmpV a b = 0 := fun e => by
  have h1 := keyV_less h
  have h2 := keyV_less h'
  rw [e, lessB_self] at h1
  rw [e, lessB_self, cmpV_anti] at h2
  have := of_decide_eq_false h1.symm
  have := of_decide_eq_false h2.symm
  omega
theorem prefix_less (x y : List UInt8) (h : x <+: y) : ∃ q, x ++ q = y := h
/-- what is the same has the same key; and no key begins with another one's -/
theorem keyV_part {a b : Val} (h : Goes a b) (h' : Goes b a) (hp : keyV a <+: keyV b) : cmpV a b = 0 := by
  obtain ⟨q, hq⟩ := hp
  have h1 := h (q ++ [0]) [0]
  have h2 := h' [] q
  rw [hq, List.append_nil, lessB_self, cmpV_anti] at h2
  have h3 := h q []
  rw [hq, List.append_nil, lessB_self] at h3
  have h4 := (Bool.or_eq_false_iff.1 h2.symm).1
  have h5 := (Bool.or_eq_false_iff.1 h3.symm).1
  have := of_decide_eq_false h4
  have := of_decide_eq_false h5
  omega
theorem less_total : ∀ x y : List UInt8, lessB x y = false → lessB y x = false → x = y
  | [], [], _, _ => rfl
  | [], _ :: _, h, _ => by cases h
  | _ :: _, [], _, h => by cases h
  | a :: x, b :: y, h1, h2 => by
    rw [lessB_cons] at h1 h2
    rw [Bool.or_eq_false_iff] at h1 h2
    have e : a = b := UInt8.le_antisymm (UInt8.not_lt.1 (of_decide_eq_false h2.1)) (UInt8.not_lt.1 (of_decide_eq_false h1.1))
    subst e
    have h3 := h1.2
    have h4 := h2.2
    rw [beq_self_eq_true, Bool.true_and] at h3 h4
    rw [less_total x y h3 h4]
theorem keyV_eq {a b : Val} (h : Goes a b) (h' : Goes b a) : (keyV a == keyV b) = decide (cmpV a b = 0) := by
  by_cases hz : cmpV a b = 0
  · have h1 := keyV_less h
    have h2 := keyV_less h'
    rw [cmpV_anti, hz] at h2
    rw [hz] at h1
    have := less_total _ _ h1 h2
    rw [this, hz]
    simp
  · rw [decide_eq_false hz]
    simpa using fun e => hz (keyV_same h h' e)
end Go.Proofs.YteldgdlpfailgaaDoor
