
/-
  Which predicates may be, of any: pred.check.
-/
import Derived.Test.YtglcnnnjdkjggaaPrq
import Derived.Test.YtglcnnnjdkjggaaPrw
set_option linter.unusedSimpArgs false
set_option linter.unusedVariables false
namespace Go.Proofs.Ytglcnnnjdkjggaa
open Go.RowKit

mutual
def qsz : Pr → Nat
  | .mk _ _ kids => 1 + qszL kids
def qszL : List Pr → Nat
  | [] => 0
  | q :: l => qsz q + qszL l
end
theorem qszL_get {l : List Pr} : ∀ {i : Nat} {x : Pr}, l[i]? = some x → qsz x ≤ qszL l := by
  induction l with
  | nil => intro i x h; simp at h
  | cons y l ih =>
    intro i x h
    cases i with
    | zero => simp at h; subst h; simp [qszL]
    | succ i => have := ih (i := i) (x := x) (by simpa using h); simp [qszL]; omega
theorem qsz_part {q x : Pr} {i : Nat} (h : q.kids[i]? = some x) : qsz x < qsz q := by
  cases q with
  | mk op l kids => have := qszL_get (l := kids) h; simp [qsz]; omega
/-- do a predicate's numbers of values and of predicates suit its name? -/
def shapeQ (op : List UInt8) (nl nk : Nat) : Bool :=
  decide (nl ≤ 12) && (if op = [97, 110, 100] ∨ op = [111, 114] then decide (nl = 0) && decide (nk = 2) else if op = [110, 111, 116] then decide (nl = 0) && decide (nk = 1) else predsB op && decide (nk = 0) && (decide (predsN op < 0) || decide ((nl : Int) = predsN op)))
mutual
/-- may a predicate within so many others be? -/
def checkQ : Pr → Nat → Bool
  | .mk op l kids, d => decide (d ≤ 80) && shapeQ op l.length kids.length && !anyBad l && checkQL kids (d + 1)
def checkQL : List Pr → Nat → Bool
  | [], _ => true
  | q :: l, d => checkQ q d && checkQL l d
end
theorem checkQL_append (a b : List Pr) (d : Nat) : checkQL (a ++ b) d = (checkQL a d && checkQL b d) := by
  induction a with
  | nil => simp [checkQL]
  | cons q a ih => simp [checkQL, ih, Bool.and_assoc]
theorem checkQL_take {l : List Pr} {i : Nat} {x : Pr} (h : l[i]? = some x) (d : Nat) : checkQL (l.take (i + 1)) d = (checkQL (l.take i) d && checkQ x d) := by
  obtain ⟨hi, rfl⟩ := List.getElem?_eq_some_iff.1 h
  rw [List.take_succ_eq_append_getElem hi, checkQL_append]
  simp [checkQL]
theorem checkQL_pre {l : List Pr} {d : Nat} (i : Nat) (h : checkQL (l.take i) d = false) : checkQL l d = false := by
  have e := checkQL_append (l.take i) (l.drop i) d
  rw [List.take_append_drop, h] at e
  simpa using e
/-- predicates at their places -/
def KidsAt (w : World) (K : Option Addr) (kids : List Pr) : Prop := ∀ (i : Nat) (x : Pr), kids[i]? = some x → ∃ ad op B n c J jn jc, K = some ad ∧ HasQ w (predV op B n c J jn jc) x ∧ PredAt w (ad.add (i * 3)) op B n c J jn jc
theorem KidsAt.keep {w w' : World} {K : Option Addr} {kids : List Pr} (h : KidsAt w K kids) (hb : Below w.heap.size w w') : KidsAt w' K kids := fun i x hx => by
  obtain ⟨ad, op, B, n, c, J, jn, jc, h1, h2, h3⟩ := h i x hx
  exact ⟨ad, op, B, n, c, J, jn, jc, h1, h2.keep hb, h3.keep hb⟩
abbrev kidF (g : Nat) : Value := .func (.func 26) #[] #[.pointer (some ⟨g, 0, none⟩)]
set_option maxRecDepth 8000 in
theorem kid_c (g d : Nat) (q : Pr) (op : List UInt8) (B : Option Addr) (n c : Nat) (J : Option Addr) (jn jc : Nat) (w : World) (hd : d ≤ 80) (hg : w.cell? ⟨g, 0, none⟩ = some (.int .i64 d))
    (cr : ∀ w', Below w.heap.size w w' → Calls Try.prog 15 #[predV op B n c J jn jc, .int .i64 ((d : Int) + 1)] w' fun e w'' => e = .returned (.bool (checkQ q (d + 1))) ∧ Below w'.heap.size w' w'') :
    Calls Try.prog 26 #[predV op B n c J jn jc, .pointer (some ⟨g, 0, none⟩)] w fun e w' => e = .returned (.bool (!checkQ q (d + 1))) ∧ Below w.heap.size w w' := by
  have hgl := World.block_lt_of_cell? w ⟨g, 0, none⟩ hg
  have wi : IntKind.i64.wrap ((d : Int) + 1) = (d : Int) + 1 := by rw [wrap_i64]; omega
  have hgl : g < w.heap.size := hgl
  generalize checkQ q (d + 1) = r at *
  go_enter Try.func26, Try.ntmps26
  go_upto_region 1 with fail
  obtain ⟨w1, hw1⟩ : ∃ w1, w1 = w.alloc (.cells #[.string (st op), .slice B n c, .slice J jn jc] 25) := ⟨_, rfl⟩
  have bk : Below w.heap.size w w1 := hw1 ▸ below_alloc w _
  have x0 : w1.cell? ⟨w.heap.size, 0, none⟩ = some (.string (st op)) := by rw [hw1]; simp [go_sem]
  have x1 : w1.cell? ⟨w.heap.size, 1, none⟩ = some (.slice B n c) := by rw [hw1]; simp [go_sem]
  have x2 : w1.cell? ⟨w.heap.size, 2, none⟩ = some (.slice J jn jc) := by rw [hw1]; simp [go_sem]
  have x6 : w.heap.size < w1.heap.size := by rw [hw1]; simp
  rw [← hw1]
  clear hw1
  have hg2 := (bk.cell (p := ⟨g, 0, none⟩) hgl).trans hg
  have hg3 : g < w1.heap.size := by omega
  have c1 := cr w1 bk
  clear cr hg
  go_wp2_with ((with_reducible refine c1.mono ?_); rintro e w2 ⟨rfl, hb2⟩)
  go_ret
  exact ⟨rfl, bk.trans (hb2.mono bk.size)⟩
set_option maxRecDepth 8000 in
set_option maxHeartbeats 4000000 in
theorem indexKid_c (g d : Nat) (kids : List Pr) (K : Option Addr) (cap : Nat) (w : World) (hd : d ≤ 80) (hg : w.cell? ⟨g, 0, none⟩ = some (.int .i64 d)) (hp : KidsAt w K kids) (hl : kids.length ≤ maxLen)
    (cr : ∀ (i : Nat) (x : Pr), kids[i]? = some x → ∀ (u : Value) (w' : World), HasQ w' u x → Calls Try.prog 15 #[u, .int .i64 ((d : Int) + 1)] w' fun e w'' => e = .returned (.bool (checkQ x (d + 1))) ∧ Below w'.heap.size w' w'') :
    Calls Try.prog 42 #[.slice K kids.length cap, kidF g] w (IndexEnds (!checkQL kids (d + 1)) w) := by
  unfold maxLen at hl
  have hgl := World.block_lt_of_cell? w ⟨g, 0, none⟩ hg
  go_enter Try.func42, Try.ntmps42
  go_wp2_with fail
  go_loopw [8] (fun a8 wr => ∃ i : Nat, a8 = .int .i64 i ∧ i ≤ kids.length ∧ Hid (checkQL (kids.take i) (d + 1) = true) ∧ Below w.heap.size w wr) (fun a _ => kids.length - (intOf a).toNat)
  case atStart => exact ⟨0, rfl, Nat.zero_le _, rfl, Below.refl _ _⟩
  case round =>
    obtain ⟨i, rfl, hi, hno, hbr⟩ := hrel
    by_cases hil : i < kids.length
    · have hil' : (i : Int) < kids.length := by omega
      obtain ⟨ad, op, B, n, c, J, jn, jc, rfl, hx, hat⟩ := hp i kids[i] (by simp)
      obtain ⟨q6, q0, q1, q2⟩ := hat.keep hbr
      have hxr := hx.keep hbr
      have cs := kid_c g d kids[i] op B n c J jn jc wr hd ((hbr.cell (p := ⟨g, 0, none⟩) hgl).trans hg) fun w' h => cr i kids[i] (by simp) _ w' (hxr.keep h)
      have hst := Lib.hid (checkQL_take (l := kids) (i := i) (x := kids[i]) (by simp) (d + 1))
      have wi : IntKind.i64.wrap ((i : Int) + 1) = (i : Int) + 1 := by rw [wrap_i64]; omega
      have hle : checkQL (kids.take (i + 1)) (d + 1) = false → checkQL kids (d + 1) = false := checkQL_pre (i + 1)
      generalize kids[i] = x at *
      clear hat hx hxr hp cr
      cases he : checkQ x (d + 1)
      · rw [he] at cs
        have hyes := Lib.hid (hle (by rw [hst.out, he]; simp))
        clear hle hg
        go_wp2_with ((with_reducible refine cs.mono ?_); rintro e w2 ⟨rfl, hb2⟩)
        go_ret
        exact ⟨_, rfl, by rw [hyes.out]; simp, hbr.trans (hb2.mono hbr.size)⟩
      · rw [he] at cs
        clear hle hg
        go_wp2_with ((with_reducible refine cs.mono ?_); rintro e w2 ⟨rfl, hb2⟩)
        refine ⟨⟨i + 1, rfl, hil, ?_, hbr.trans (hb2.mono hbr.size)⟩, by simp [intOf]; omega⟩
        show _ = _
        rw [hst.out, hno.out, he]; rfl
    · have hil' : ¬ (i : Int) < kids.length := by omega
      have hf := hno.out
      rw [List.take_of_length_le (by omega)] at hf
      have hF := Lib.hid hf
      clear hf hp hno cr hg
      go_wp2_with fail
      go_ret
      exact ⟨_, rfl, by rw [hF.out]; rfl, hbr⟩
set_option maxRecDepth 8000 in
theorem containsKid_c (g d : Nat) (kids : List Pr) (K : Option Addr) (cap : Nat) (w : World) (hd : d ≤ 80) (hg : w.cell? ⟨g, 0, none⟩ = some (.int .i64 d)) (hp : KidsAt w K kids) (hl : kids.length ≤ maxLen)
    (cr : ∀ (i : Nat) (x : Pr), kids[i]? = some x → ∀ (u : Value) (w' : World), HasQ w' u x → Calls Try.prog 15 #[u, .int .i64 ((d : Int) + 1)] w' fun e w'' => e = .returned (.bool (checkQ x (d + 1))) ∧ Below w'.heap.size w' w'') :
    Calls Try.prog 25 #[.slice K kids.length cap, kidF g] w fun e w' => e = .returned (.bool (!checkQL kids (d + 1))) ∧ Below w.heap.size w w' := by
  have cs : Calls Try.prog 42 #[.slice K kids.length cap, kidF g] w fun e w' => ∃ r : Int, e = .returned (.int .i64 r) ∧ decide (0 ≤ r) = (!checkQL kids (d + 1)) ∧ Below w.heap.size w w' := indexKid_c g d kids K cap w hd hg hp hl cr
  clear hp hg cr
  generalize (!checkQL kids (d + 1)) = r0 at *
  go_enter Try.func25, Try.ntmps25
  go_wp2_with ((with_reducible refine cs.mono ?_); rintro e w2 ⟨r, rfl, hd, hb2⟩)
  go_ret
  exact ⟨rfl, hb2⟩
end Go.Proofs.Ytglcnnnjdkjggaa
