
/-
  Bytes and back: what is put is got again.
-/
import Derived.Test.YtkbacjlnfmibaaaGetB
import Derived.Test.YtkbacjlnfmibaaaValP
import Derived.Test.YtkbacjlnfmibaaaValS
set_option linter.unusedSimpArgs false
set_option linter.unusedVariables false
namespace Go.Proofs.Ytkbacjlnfmibaaa
open Go.RowKit

mutual
/-- a value whose floats are of the one form -/
def normV : Val → Val
  | .mk k b n f s l => .mk k b n (canon f) s (normVL l)
def normVL : List Val → List Val
  | [] => []
  | v :: l => normV v :: normVL l
end
theorem normVL_len : ∀ l : List Val, (normVL l).length = l.length
  | [] => rfl
  | v :: l => by simp [normVL, normVL_len l]
theorem normVL_get : ∀ (l : List Val) (i : Nat) (h : i < l.length), (normVL l)[i]? = some (normV l[i])
  | v :: l, 0, h => by simp [normVL]
  | v :: l, i + 1, h => by
    have := normVL_get l i (by simpa using h)
    simpa [normVL] using this
theorem cmpF_canon (x y : Nat) : cmpF (canon x) (canon y) = cmpF x y := by unfold cmpF; rw [key_canon, key_canon]
theorem cmpF_canonR (x y : Nat) : cmpF x (canon y) = cmpF x y := by unfold cmpF; rw [key_canon]
theorem mixF_canon (n : Int) (x : Nat) : mixF n (canon x) = mixF n x := by unfold mixF; rw [cmpF_canonR]
mutual
theorem cmpV_norm : ∀ a b : Val, cmpV (normV a) (normV b) = cmpV a b
  | .mk ka ba na fa sa la, .mk kb bb nb fb sb lb => by
    have h := cmpVL_norm la lb
    simp only [normV, cmpV, mixF_canon, cmpF_canon, h]
theorem cmpVL_norm : ∀ la lb : List Val, cmpVL (normVL la) (normVL lb) = cmpVL la lb
  | [], [] => by simp [normVL, cmpVL]
  | [], _ :: _ => by simp [normVL, cmpVL]
  | _ :: _, [] => by simp [normVL, cmpVL]
  | a :: la, b :: lb => by
    simp only [normVL, cmpVL, cmpV_norm a b, cmpVL_norm la lb]
end
theorem norm_getD {l : List Val} {i : Nat} (h : i < l.length) : (normVL l).getD i default = normV (l.getD i default) := by
  rw [List.getD_eq_getElem?_getD, normVL_get l i h, getD_at h]
  rfl
theorem upToB_norm (l : List Val) : ∀ m, m ≤ (l.length - 1) / 2 → upToB (normVL l) m = upToB l m
  | 0, _ => rfl
  | m + 1, h => by
    rw [upToB, upToB, upToB_norm l m (by omega), norm_getD (by omega), norm_getD (by omega), cmpV_norm]
theorem risesV_norm (l : List Val) : risesV (normVL l) = risesV l := by
  unfold risesV
  rw [normVL_len, upToB_norm l _ (Nat.le_refl _)]
/-- the numbers of a value are such as its types hold -/
inductive Sound : Val → Prop
  | mk {k : Int} {b : Bool} {n : Int} {f : Nat} {s : List UInt8} {l : List Val} (hn : I64 n) (hf : U64 f) (hl : ∀ x ∈ l, Sound x) : Sound (.mk k b n f s l)
theorem Has.sound {w : World} {u : Value} {v : Val} (h : Has w u v) : Sound v := by
  induction h with
  | mk el hk hn hf hs hb hl hm h hc ih =>
    refine .mk hn hf fun x hx => ?_
    obtain ⟨i, hi⟩ := List.getElem?_of_mem hx
    exact ih i x hi
theorem tk_app (p x : List UInt8) (n : Nat) (h : p.length = n) : tkE (p ++ x) 0 n = 0 ∧ tkS (p ++ x) 0 n = p ∧ tkR (p ++ x) 0 n = x := by
  have e : tkE (p ++ x) 0 n = 0 := by
    unfold tkE
    rw [if_pos rfl, if_neg (by rw [List.length_append]; omega)]
  refine ⟨e, ?_, ?_⟩
  · unfold tkS; rw [e, if_pos rfl, ← h, List.take_left']; rfl
  · unfold tkR; rw [e, if_pos rfl, ← h, List.drop_left']; rfl
theorem byte_nat (k : Int) (h0 : 0 ≤ k) : ((byte k).toNat : Int) = k % 256 := by
  unfold byte
  rw [UInt8.toNat_ofNat']
  omega
theorem eight_wide (n : Int) (h0 : 0 ≤ n) (h1 : n ≤ 18446744073709551615) : wideN (eightL n) 8 = n := by
  unfold wideN wide eightL
  simp only [List.take_succ_cons, List.take_zero, List.foldl_cons, List.foldl_nil]
  have e := fun (k : Int) (hk : 0 ≤ k) => byte_nat k hk
  have e0 := e (n / 72057594037927936 % 256) (by omega)
  have e1 := e (n / 281474976710656 % 256) (by omega)
  have e2 := e (n / 1099511627776 % 256) (by omega)
  have e3 := e (n / 4294967296 % 256) (by omega)
  have e4 := e (n / 16777216 % 256) (by omega)
  have e5 := e (n / 65536 % 256) (by omega)
  have e6 := e (n / 256 % 256) (by omega)
  have e7 := e (n % 256) (by omega)
  clear e
  have d1 : n / 256 = n / 65536 * 256 + n / 256 % 256 := by omega
  have d2 : n / 65536 = n / 16777216 * 256 + n / 65536 % 256 := by omega
  have d3 : n / 16777216 = n / 4294967296 * 256 + n / 16777216 % 256 := by omega
  have d4 : n / 4294967296 = n / 1099511627776 * 256 + n / 4294967296 % 256 := by omega
  have d5 : n / 1099511627776 = n / 281474976710656 * 256 + n / 1099511627776 % 256 := by omega
  have d6 : n / 281474976710656 = n / 72057594037927936 * 256 + n / 281474976710656 % 256 := by omega
  have d7 : n / 72057594037927936 % 256 = n / 72057594037927936 := by omega
  have d0 : n = n / 256 * 256 + n % 256 := by omega
  rw [Int.emod_emod_of_dvd _ (Int.dvd_refl 256)] at e0 e1 e2 e3 e4 e5 e6 e7
  replace e0 := e0.trans d7
  generalize (byte (n / 72057594037927936 % 256)).toNat = b0 at *
  generalize (byte (n / 281474976710656 % 256)).toNat = b1 at *
  generalize (byte (n / 1099511627776 % 256)).toNat = b2 at *
  generalize (byte (n / 4294967296 % 256)).toNat = b3 at *
  generalize (byte (n / 16777216 % 256)).toNat = b4 at *
  generalize (byte (n / 65536 % 256)).toNat = b5 at *
  generalize (byte (n / 256 % 256)).toNat = b6 at *
  generalize (byte (n % 256)).toNat = b7 at *
  generalize n / 72057594037927936 = y7 at *
  generalize n / 281474976710656 % 256 = m6 at *
  generalize n / 281474976710656 = y6 at *
  generalize n / 1099511627776 % 256 = m5 at *
  generalize n / 1099511627776 = y5 at *
  generalize n / 4294967296 % 256 = m4 at *
  generalize n / 4294967296 = y4 at *
  generalize n / 16777216 % 256 = m3 at *
  generalize n / 16777216 = y3 at *
  generalize n / 65536 % 256 = m2 at *
  generalize n / 65536 = y2 at *
  generalize n / 256 % 256 = m1 at *
  generalize n / 256 = y1 at *
  generalize n % 256 = m0 at *
  clear d7
  omega
theorem wide_eightL (n : Int) (h0 : 0 ≤ n) (h1 : n ≤ 18446744073709551615) : (wide (eightL n) : Int) = n := by
  have h := eight_wide n h0 h1
  rwa [wideN_all (by simp [eightL])] at h
theorem wide_twoL (n : Nat) (h : n < 65536) : wide (twoL n) = n := by
  unfold wide twoL
  simp only [List.foldl_cons, List.foldl_nil]
  have e6 := byte_nat ((n : Int) / 256 % 256) (by omega)
  have e7 := byte_nat ((n : Int) % 256) (by omega)
  omega
theorem partsF_all {f : List UInt8 → Val × List UInt8 × Int} : ∀ (l : List Val) (x : List UInt8) (acc : List Val), (∀ v ∈ l, ∀ y, f (putV v ++ y) = (normV v, y, 0)) → partsF f l.length (putVL l ++ x) 0 acc = (acc ++ normVL l, x, 0)
  | [], x, acc, _ => by simp [partsF, putVL, normVL]
  | v :: l, x, acc, h => by
    have h1 := h v (by simp) (putVL l ++ x)
    have h2 := partsF_all l x (acc ++ [normV v]) (fun y hy => h y (List.mem_cons_of_mem _ hy))
    rw [List.length_cons, partsF, if_pos rfl, putVL, List.append_assoc, h1]
    simp only [h2, normVL, List.append_assoc, List.cons_append, List.nil_append]
theorem canon_zero : canon 0 = 0 := by decide
theorem wrap_wide {n : Int} (h : I64 n) : wrap64 (wide (eightL (n % 18446744073709551616))) = n := by
  rw [wide_eightL (n % 18446744073709551616) (by omega) (by omega)]
  have h1 := h.lo
  have h2 := h.hi
  unfold wrap64
  omega
theorem put_k0 (x : List UInt8) : putV (.mk 0 false 0 0 [] []) ++ x = 0 :: x := by
  rw [putV, if_pos rfl, show byte ((0 : Int) % 256) = 0 from rfl, List.cons_append]
  rfl
theorem put_k1 (b : Bool) (x : List UInt8) : putV (.mk 1 b 0 0 [] []) ++ x = 1 :: ([if b then 1 else 0] ++ x) := by
  rw [putV, if_neg (by decide), if_pos rfl, show byte ((1 : Int) % 256) = 1 from rfl, List.cons_append]
theorem put_k2 (n : Int) (x : List UInt8) : putV (.mk 2 false n 0 [] []) ++ x = 2 :: (eightL (n % 18446744073709551616) ++ x) := by
  rw [putV, if_neg (by decide), if_neg (by decide), if_pos (by decide), show byte ((2 : Int) % 256) = 2 from rfl, List.cons_append]
theorem put_k3 (f : Nat) (x : List UInt8) : putV (.mk 3 false 0 f [] []) ++ x = 3 :: (eightL (canon f) ++ x) := by
  rw [putV, if_neg (by decide), if_neg (by decide), if_neg (by decide), if_pos rfl, show byte ((3 : Int) % 256) = 3 from rfl, List.cons_append]
theorem put_k4 (s x : List UInt8) : putV (.mk 4 false 0 0 s []) ++ x = 4 :: (twoL s.length ++ (s ++ x)) := by
  rw [putV, if_neg (by decide), if_neg (by decide), if_neg (by decide), if_neg (by decide), if_pos rfl, show byte ((4 : Int) % 256) = 4 from rfl, List.cons_append, List.append_assoc]
theorem put_k5 (l : List Val) (x : List UInt8) : putV (.mk 5 false 0 0 [] l) ++ x = 5 :: (twoL l.length ++ (putVL l ++ x)) := by
  rw [putV, if_neg (by decide), if_neg (by decide), if_neg (by decide), if_neg (by decide), if_neg (by decide), show byte ((5 : Int) % 256) = 5 from rfl, List.cons_append, List.append_assoc]
theorem put_k6 (l : List Val) (x : List UInt8) : putV (.mk 6 false 0 0 [] l) ++ x = 6 :: (twoL l.length ++ (putVL l ++ x)) := by
  rw [putV, if_neg (by decide), if_neg (by decide), if_neg (by decide), if_neg (by decide), if_neg (by decide), show byte ((6 : Int) % 256) = 6 from rfl, List.cons_append, List.append_assoc]
theorem put_k7 (n : Int) (x : List UInt8) : putV (.mk 7 false n 0 [] []) ++ x = 7 :: (eightL (n % 18446744073709551616) ++ x) := by
  rw [putV, if_neg (by decide), if_neg (by decide), if_pos (by decide), show byte ((7 : Int) % 256) = 7 from rfl, List.cons_append]
theorem put_k8 (n : Int) (x : List UInt8) : putV (.mk 8 false n 0 [] []) ++ x = 8 :: (eightL (n % 18446744073709551616) ++ x) := by
  rw [putV, if_neg (by decide), if_neg (by decide), if_pos (by decide), show byte ((8 : Int) % 256) = 8 from rfl, List.cons_append]
set_option maxHeartbeats 2000000 in
theorem getF_put (z : Nat) : ∀ v : Val, wsz v ≤ z → ∀ d m : Nat, d + m = 14 → checkV v d = 0 → Sound v → ∀ x, getF m (putV v ++ x) = (normV v, x, 0) := by
  induction z with
  | zero => intro v h; have := wsz_pos v; omega
  | succ z ih =>
    intro v hz d m hdm hck hsd x
    obtain ⟨k, b, n, f, s, l⟩ := v
    have hf := fine_of hck
    have hsh := hf.sh
    obtain ⟨hn, hfu, hsl⟩ := hsd
    have hd := hf.deep
    obtain ⟨m, rfl⟩ : ∃ q, m = q + 1 := ⟨m - 1, by omega⟩
    have hpart : ∀ y ∈ l, ∀ q, getF m (putV y ++ q) = (normV y, q, 0) := by
      intro y hy q
      obtain ⟨i, hi⟩ := List.getElem?_of_mem hy
      have hw := wsz_part (v := .mk k b n f s l) (x := y) (i := i) hi
      exact ih y (by omega) (d + 1) m (by omega) (hf.parts y hy) (hsl y hy) q
    have hr := shape_range hsh
    have hs5 := hf.hs
    have hl1 := hf.hl
    have hup := hf.up
    clear ih hf hck
    unfold shape at hsh
    simp only [Bool.and_eq_true, Bool.or_eq_true, Bool.not_eq_true', beq_iff_eq, decide_eq_true_eq, List.isEmpty_iff] at hsh
    obtain ⟨⟨⟨⟨⟨⟨⟨_, _⟩, sb⟩, sn⟩, s7⟩, sf⟩, ss⟩, sl⟩ := hsh
    have hcl := canon_lt hfu.lt
    rcases (show k = 0 ∨ k = 1 ∨ k = 2 ∨ k = 3 ∨ k = 4 ∨ k = 5 ∨ k = 6 ∨ k = 7 ∨ k = 8 by omega) with rfl | rfl | rfl | rfl | rfl | rfl | rfl | rfl | rfl
    · obtain rfl : b = false := by simpa using sb
      obtain rfl : n = 0 := by simpa using sn
      obtain rfl : f = 0 := by simpa using sf
      obtain rfl : s = [] := by simpa using ss
      obtain rfl : l = [] := by simpa using sl
      have e := put_k0 x
      rw [e, getF, if_pos (by decide)]
      simp [normV, normVL, canon_zero]
    · obtain rfl : n = 0 := by simpa using sn
      obtain rfl : f = 0 := by simpa using sf
      obtain rfl : s = [] := by simpa using ss
      obtain rfl : l = [] := by simpa using sl
      have e := put_k1 b x
      obtain ⟨t1, t2, t3⟩ := tk_app [if b then 1 else 0] x 1 rfl
      rw [e, getF, if_neg (by decide), if_pos (by decide), t1, t2, t3]
      cases b <;> simp [normV, normVL, canon_zero, wide]
    · obtain rfl : b = false := by simpa using sb
      obtain rfl : f = 0 := by simpa using sf
      obtain rfl : s = [] := by simpa using ss
      obtain rfl : l = [] := by simpa using sl
      have e := put_k2 n x
      obtain ⟨t1, t2, t3⟩ := tk_app (eightL (n % 18446744073709551616)) x 8 rfl
      have hwr := wrap_wide hn
      rw [e, getF, if_neg (by decide), if_neg (by decide), if_pos (by decide), t1, t2, t3, hwr, if_neg (by simp)]
      simp [normV, normVL, canon_zero]
    · obtain rfl : b = false := by simpa using sb
      obtain rfl : n = 0 := by simpa using sn
      obtain rfl : s = [] := by simpa using ss
      obtain rfl : l = [] := by simpa using sl
      have e := put_k3 f x
      obtain ⟨t1, t2, t3⟩ := tk_app (eightL (canon f)) x 8 rfl
      have hw : wide (eightL (canon f)) = canon f := by have := wide_eightL (canon f) (by omega) (by omega); omega
      rw [e, getF, if_neg (by decide), if_neg (by decide), if_neg (by decide), if_pos (by decide), t1, t2, t3, hw, if_neg (by rw [canon_canon]; simp)]
      simp [normV, normVL]
    · obtain rfl : b = false := by simpa using sb
      obtain rfl : n = 0 := by simpa using sn
      obtain rfl : f = 0 := by simpa using sf
      obtain rfl : l = [] := by simpa using sl
      have e := put_k4 s x
      obtain ⟨t1, t2, t3⟩ := tk_app (twoL s.length) (s ++ x) 2 rfl
      obtain ⟨q1, q2, q3⟩ := tk_app s x s.length rfl
      have hw := wide_twoL s.length (by omega)
      rw [e, getF, if_neg (by decide), if_neg (by decide), if_neg (by decide), if_neg (by decide), if_pos (by decide), t1, t2, t3, hw, if_neg (by omega), q1, q2, q3]
      simp [normV, normVL, canon_zero]
    · obtain rfl : b = false := by simpa using sb
      obtain rfl : n = 0 := by simpa using sn
      obtain rfl : f = 0 := by simpa using sf
      obtain rfl : s = [] := by simpa using ss
      have e := put_k5 l x
      obtain ⟨t1, t2, t3⟩ := tk_app (twoL l.length) (putVL l ++ x) 2 rfl
      have hw := wide_twoL l.length (by omega)
      have hp : partsV (getF m) (twoL l.length ++ (putVL l ++ x)) = (normVL l, x, 0) := by
        unfold partsV partsE
        rw [t1, t2, t3, hw, if_neg (by omega), partsF_all l x [] hpart]
        rfl
      rw [e, getF, if_neg (by decide), if_neg (by decide), if_neg (by decide), if_neg (by decide), if_neg (by decide), if_pos (by decide), hp, if_neg (fun h => absurd h.1 (by decide))]
      simp [normV, canon_zero]
    · obtain rfl : b = false := by simpa using sb
      obtain rfl : n = 0 := by simpa using sn
      obtain rfl : f = 0 := by simpa using sf
      obtain rfl : s = [] := by simpa using ss
      have e := put_k6 l x
      obtain ⟨t1, t2, t3⟩ := tk_app (twoL l.length) (putVL l ++ x) 2 rfl
      have hw := wide_twoL l.length (by omega)
      have hp : partsV (getF m) (twoL l.length ++ (putVL l ++ x)) = (normVL l, x, 0) := by
        unfold partsV partsE
        rw [t1, t2, t3, hw, if_neg (by omega), partsF_all l x [] hpart]
        rfl
      have hrv : risesV (normVL l) = true := by rw [risesV_norm]; exact hup rfl
      rw [e, getF, if_neg (by decide), if_neg (by decide), if_neg (by decide), if_neg (by decide), if_neg (by decide), if_pos (by decide), hp, if_neg (by simp [hrv])]
      simp [normV, canon_zero]
    · obtain rfl : b = false := by simpa using sb
      obtain rfl : f = 0 := by simpa using sf
      obtain rfl : s = [] := by simpa using ss
      obtain rfl : l = [] := by simpa using sl
      have e := put_k7 n x
      obtain ⟨t1, t2, t3⟩ := tk_app (eightL (n % 18446744073709551616)) x 8 rfl
      have h1n : 1 ≤ n := by simpa using s7
      have hwr := wrap_wide hn
      rw [e, getF, if_neg (by decide), if_neg (by decide), if_pos (by decide), t1, t2, t3, hwr, if_neg (by omega)]
      simp [normV, normVL, canon_zero]
    · obtain rfl : b = false := by simpa using sb
      obtain rfl : f = 0 := by simpa using sf
      obtain rfl : s = [] := by simpa using ss
      obtain rfl : l = [] := by simpa using sl
      have e := put_k8 n x
      obtain ⟨t1, t2, t3⟩ := tk_app (eightL (n % 18446744073709551616)) x 8 rfl
      have h1n : 1 ≤ n := by simpa using s7
      have hwr := wrap_wide hn
      rw [e, getF, if_neg (by decide), if_neg (by decide), if_pos (by decide), t1, t2, t3, hwr, if_neg (by omega)]
      simp [normV, normVL, canon_zero]
mutual
theorem same_norm : ∀ a b : Val, sameV a b = true ↔ normV a = normV b
  | .mk ka ba na fa sa la, .mk kb bb nb fb sb lb => by
    have h := same_normL la lb
    simp only [sameV, normV, Bool.and_eq_true, beq_iff_eq, Val.mk.injEq, h]
    exact ⟨fun ⟨⟨⟨⟨⟨h1, h2⟩, h3⟩, h4⟩, h5⟩, h6⟩ => ⟨h1, h2, h3, h4, h5, h6⟩, fun ⟨h1, h2, h3, h4, h5, h6⟩ => ⟨⟨⟨⟨⟨h1, h2⟩, h3⟩, h4⟩, h5⟩, h6⟩⟩
theorem same_normL : ∀ la lb : List Val, sameVL la lb = true ↔ normVL la = normVL lb
  | [], [] => by simp [sameVL, normVL]
  | [], _ :: _ => by simp [sameVL, normVL]
  | _ :: _, [] => by simp [sameVL, normVL]
  | a :: la, b :: lb => by
    simp only [sameVL, normVL, Bool.and_eq_true, List.cons.injEq, same_norm a b, same_normL la lb]
end
mutual
theorem put_norm : ∀ a : Val, putV (normV a) = putV a
  | .mk k b n f s l => by
    have h := put_normL l
    simp only [normV, putV, canon_canon, normVL_len, h]
theorem put_normL : ∀ l : List Val, putVL (normVL l) = putVL l
  | [] => rfl
  | a :: l => by simp only [normVL, putVL, put_norm a, put_normL l]
end
/-- no value's bytes begin with those of another one -/
theorem put_apart {a b : Val} (ha : checkV a 1 = 0) (hb : checkV b 1 = 0) (sa : Sound a) (sb : Sound b) (x : List UInt8) (h : putV b = putV a ++ x) : x = [] ∧ sameV a b = true := by
  have h1 := getF_put _ a (Nat.le_refl _) 1 13 rfl ha sa x
  have h2 := getF_put _ b (Nat.le_refl _) 1 13 rfl hb sb []
  rw [List.append_nil, h, h1] at h2
  simp only [Prod.mk.injEq, and_true] at h2
  exact ⟨h2.2, (same_norm a b).2 h2.1⟩
theorem put_same {a b : Val} (h : sameV a b = true) : putV a = putV b := by
  rw [← put_norm a, ← put_norm b, (same_norm a b).1 h]
end Go.Proofs.Ytkbacjlnfmibaaa
