
/-
  A region that draws its order, whose operations read, whose callees end in 'Below', and which lays rows that it turns to strings at once ('string([]byte{..})'):
  one walk of the lexical order serves every order. The walk's frame holds, in the place of such a row's slice, its cells ('.agg').
-/
import Derived.Deep.QuietTactic
import Derived.Below
import Derived.KernelRfl
set_option linter.unusedSimpArgs false
set_option linter.unusedVariables false
namespace Go.Proofs.Ytipjelkdbbhcpaa
open Go.RowKit

/-- a world in which nothing of w has turned -/
structure In (v : World) where
  w : World
  h : Below v.heap.size v w
instance {v : World} : Inhabited (In v) := ⟨⟨v, ⟨rfl, rfl, rfl, Nat.le_refl _, fun _ _ => rfl⟩⟩⟩
theorem In.cell {v : World} (p : In v) (a : Addr) (h : a.block < v.heap.size) : p.w.cell? a = v.cell? a := p.h.cell h
theorem In.frozen {v : World} (p : In v) (a : Addr) (h : a.block < v.heap.size) : p.w.frozen? a = v.frozen? a := p.h.frozen h
/-- .. where w is what the call began in, with blocks of its own -/
theorem In.back {w0 v : World} (p : In v) (h : Below w0.heap.size w0 v) : Below w0.heap.size w0 p.w := h.trans (p.h.mono h.size)
theorem In.back1 {w : World} {o : Obj} (p : In (w.alloc o)) : Below w.heap.size w p.w := p.back ((Below.refl _ _).alloc (Nat.le_refl _) _)
theorem In.back2 {w : World} {o o' : Obj} (p : In (w.alloc o)) (q : In (p.w.alloc o')) : Below w.heap.size w q.w := q.back (p.back1.alloc p.back1.size _)
theorem back_set {w0 v : World} (h : Below w0.heap.size w0 v) {b : Nat} (k : Nat) (hb : w0.heap.size ≤ b) (u : Value) : Below w0.heap.size w0 (v.setCell ⟨b, k, none⟩ u) := h.setCell hb u
theorem In.of {v w : World} (h : Below v.heap.size v w) : ∃ p : In v, w = p.w := ⟨⟨w, h⟩, rfl⟩
theorem In.of2 {v w : World} (p : In v) (h : Below p.w.heap.size p.w w) : ∃ q : In v, w = q.w := ⟨⟨w, p.h.trans (h.mono p.h.size)⟩, rfl⟩
theorem In.size_lt {v : World} (p : In v) {n : Nat} (h : n < v.heap.size) : (n < p.w.heap.size) = True := by simp [Nat.lt_of_lt_of_le h p.h.size]
theorem In.size_ne {v : World} (p : In v) {n : Nat} (h : n < v.heap.size) : (n = p.w.heap.size) = False := by simp [Nat.ne_of_lt (Nat.lt_of_lt_of_le h p.h.size)]
theorem In.size_en {v : World} (p : In v) {n : Nat} (h : n < v.heap.size) : (p.w.heap.size = n) = False := by simp [Nat.ne_of_gt (Nat.lt_of_lt_of_le h p.h.size)]
theorem In.size_ltk {v : World} (p : In v) {n k : Nat} (h : n < v.heap.size) : (n < p.w.heap.size + k) = True := by simp; exact Nat.lt_of_lt_of_le h (Nat.le_trans p.h.size (Nat.le_add_right _ _))
theorem In.size_nek {v : World} (p : In v) {n k : Nat} (h : n < v.heap.size) : (n = p.w.heap.size + k) = False := by simp; exact Nat.ne_of_lt (Nat.lt_of_lt_of_le h (Nat.le_trans p.h.size (Nat.le_add_right _ _)))
attribute [go_sem] In.cell In.frozen In.size_lt In.size_ne In.size_en In.size_ltk In.size_nek

def waitsOn (o : Oper) (i : Nat) : Bool := o.after.any fun e => Region.binds .any e && e.on == i
def isMake (o : Oper) : Bool := match o.op with | .buildSlice .. => true | .alloc .. => true | _ => false
def isConv (gs : List Tmp) (o : Oper) : Bool := match o.op with | .convert _ _ (.tmp t) => gs.contains t | _ => false

def convMade (ops : Array Oper) (o : Oper) (i : Nat) : Bool := match o.op with
  | .convert _ _ (.tmp t) => (List.range i).any fun j => match ops[j]? with | some oj => isMake oj && oj.dst == some t | none => false
  | _ => false

def flowB (ops : Array Oper) (gs : List Tmp) (n : Nat) (last : Bool) : Bool :=
  Region.noSelect ops && (decide gs.Nodup && gs.all fun g => ops.any fun o => isMake o && o.dst == some g) && (!last || (decide (0 < ops.size) && (List.range (ops.size - 1)).all fun i => (List.range ops.size).any fun j => match ops[j]? with | some oj => waitsOn oj i | none => false)) &&
  (List.range ops.size).all fun i => match ops[i]? with
    | none => true
    | some oi =>
      oi.after.all (fun e => !Region.binds .any e || decide (e.on < i)) &&
      (if isConv gs oi then oi.guard.isNone && convMade ops oi i else (last && decide (i + 1 = ops.size)) || gs.all fun g => !(oi.looksAt ops).contains g) &&
      (if isMake oi then oi.guard.isNone && oi.dst.any gs.contains else oi.dst.all fun d => !gs.contains d) &&
      (match oi.dst with
      | none => true
      | some d => decide (d < n) && (List.range ops.size).all fun j => i == j || match ops[j]? with
        | none => true
        | some oj => oj.dst != some d && (!(oj.looksAt ops).contains d || (decide (i < j) && waitsOn oj i) || (decide (j < i) && waitsOn oi j)))

structure FlowOk (ops : Array Oper) (gs : List Tmp) (n : Nat) (last : Bool) : Prop where
  sink : last = true → 0 < ops.size ∧ ∀ i, i + 1 < ops.size → ∃ (j : Nat) (oj : Oper), ops[j]? = some oj ∧ waitsOn oj i = true
  nodup : gs.Nodup
  made : ∀ g ∈ gs, ∃ (i : Nat) (o : Oper), ops[i]? = some o ∧ isMake o = true ∧ o.dst = some g
  sel : ∀ (i : Nat) (o : Oper) cs b, ops[i]? = some o → o.op ≠ .select cs b
  low : ∀ i o j, ops[i]? = some o → waitsOn o j = true → j < i
  cguard : ∀ (i : Nat) o, ops[i]? = some o → isConv gs o = true → o.guard = none
  cmake : ∀ (i : Nat) o, ops[i]? = some o → isConv gs o = true → ∃ (s d : TypeId) (t : Tmp) (j : Nat) (oj : Oper), o.op = .convert s d (.tmp t) ∧ j < i ∧ ops[j]? = some oj ∧ isMake oj = true ∧ oj.dst = some t
  cold : ∀ (i : Nat) o, ops[i]? = some o → isConv gs o = false → (last = true → i + 1 ≠ ops.size) → ∀ g ∈ gs, g ∉ o.looksAt ops
  mguard : ∀ (i : Nat) o, ops[i]? = some o → isMake o = true → o.guard = none ∧ ∃ d, o.dst = some d ∧ d ∈ gs
  mcold : ∀ (i : Nat) o d, ops[i]? = some o → isMake o = false → o.dst = some d → d ∉ gs
  room : ∀ (i : Nat) o d, ops[i]? = some o → o.dst = some d → d < n
  lone : ∀ (i j : Nat) oi oj d, i ≠ j → ops[i]? = some oi → ops[j]? = some oj → oi.dst = some d → oj.dst ≠ some d
  read : ∀ (i j : Nat) oi oj d, i ≠ j → ops[i]? = some oi → ops[j]? = some oj → oi.dst = some d → d ∈ oj.looksAt ops → (i < j ∧ waitsOn oj i = true) ∨ (j < i ∧ waitsOn oi j = true)

theorem flowOk_of {ops : Array Oper} {gs : List Tmp} {n : Nat} {last : Bool} (h : flowB ops gs n last = true) : FlowOk ops gs n last := by
  unfold flowB at h
  rw [Bool.and_eq_true, Bool.and_eq_true, Bool.and_eq_true, Bool.and_eq_true] at h
  obtain ⟨⟨⟨hs, hnd, hmd⟩, hsink⟩, h⟩ := h
  rw [List.all_eq_true] at h
  have lt : ∀ (i : Nat) o, ops[i]? = some o → i ∈ List.range ops.size := fun i o ho => by
    rw [List.mem_range]; exact (Array.getElem?_eq_some_iff.1 ho).1
  have H : ∀ (i : Nat) o, ops[i]? = some o → _ := fun i o ho => by
    have := h i (lt i o ho)
    rw [ho] at this
    simp only [Bool.and_eq_true] at this
    exact this
  refine ⟨fun hl => ?_, by simpa using hnd, fun g hg => ?_, fun i o cs b ho => Region.noSelect_spec hs i o cs b ho, ?_, ?_, ?_, ?_, ?_, ?_, ?_, ?_, ?_⟩
  · subst hl
    simp only [Bool.not_true, Bool.false_or, Bool.and_eq_true, decide_eq_true_eq, List.all_eq_true, List.any_eq_true, List.mem_range] at hsink
    refine ⟨hsink.1, fun i hi => ?_⟩
    obtain ⟨j, hj, h2⟩ := hsink.2 i (by omega)
    cases hoj : ops[j]? with
    | none => rw [hoj] at h2; cases h2
    | some oj => rw [hoj] at h2; exact ⟨j, oj, hoj, h2⟩
  · rw [List.all_eq_true] at hmd
    have := hmd g hg
    rw [Array.any_eq_true] at this
    obtain ⟨i, hi, h2⟩ := this
    rw [Bool.and_eq_true, beq_iff_eq] at h2
    exact ⟨i, ops[i], by simp, h2.1, h2.2⟩
  · intro i o j ho hw
    obtain ⟨⟨⟨h1, _⟩, _⟩, _⟩ := H i o ho
    unfold waitsOn at hw
    rw [Array.any_eq_true] at hw
    obtain ⟨k, hk, he⟩ := hw
    rw [Bool.and_eq_true, beq_iff_eq] at he
    rw [Array.all_eq_true] at h1
    have := h1 k hk
    simp only [he.1, Bool.not_true, Bool.false_or, decide_eq_true_eq] at this
    omega
  · intro i o ho hc
    obtain ⟨⟨⟨_, h1⟩, _⟩, _⟩ := H i o ho
    rw [hc] at h1
    simp only [if_true, Bool.and_eq_true] at h1
    simpa using h1.1
  · intro i o ho hc
    obtain ⟨⟨⟨_, h1⟩, _⟩, _⟩ := H i o ho
    rw [hc] at h1
    simp only [if_true, Bool.and_eq_true] at h1
    have h2 := h1.2
    unfold convMade at h2
    split at h2
    · rename_i s d t hop
      rw [List.any_eq_true] at h2
      obtain ⟨j, hj, h3⟩ := h2
      rw [List.mem_range] at hj
      cases hoj : ops[j]? with
      | none => rw [hoj] at h3; cases h3
      | some oj =>
        rw [hoj] at h3
        simp only [Bool.and_eq_true, beq_iff_eq] at h3
        exact ⟨s, d, t, j, oj, hop, hj, hoj, h3.1, h3.2⟩
    · cases h2
  · intro i o ho hc hno g hg
    obtain ⟨⟨⟨_, h1⟩, _⟩, _⟩ := H i o ho
    rw [hc] at h1
    simp only [Bool.false_eq_true, if_false, Bool.or_eq_true, Bool.and_eq_true, decide_eq_true_eq, List.all_eq_true] at h1
    rcases h1 with h1 | h1
    · exact absurd h1.2 (hno h1.1)
    · simpa using h1 g hg
  · intro i o ho hc
    obtain ⟨⟨⟨_, _⟩, h1⟩, _⟩ := H i o ho
    rw [hc] at h1
    simp only [if_true, Bool.and_eq_true, Option.any_eq_true] at h1
    obtain ⟨h1, d, hd, hg⟩ := h1
    exact ⟨by simpa using h1, d, hd, by simpa using hg⟩
  · intro i o d ho hc hd
    obtain ⟨⟨⟨_, _⟩, h1⟩, _⟩ := H i o ho
    rw [hc] at h1
    simpa [hd] using h1
  · intro i o d ho hd
    obtain ⟨_, h1⟩ := H i o ho
    rw [hd] at h1
    simp only [Bool.and_eq_true, decide_eq_true_eq] at h1
    exact h1.1
  · intro i j oi oj d hij hi hj hd
    obtain ⟨_, h1⟩ := H i oi hi
    rw [hd] at h1
    simp only [Bool.and_eq_true, decide_eq_true_eq, List.all_eq_true] at h1
    have := h1.2 j (lt j oj hj)
    simp only [hj, Bool.or_eq_true, beq_iff_eq, hij, false_or, Bool.and_eq_true, bne_iff_ne, ne_eq] at this
    exact this.1
  · intro i j oi oj d hij hi hj hd hr
    obtain ⟨_, h1⟩ := H i oi hi
    rw [hd] at h1
    simp only [Bool.and_eq_true, decide_eq_true_eq, List.all_eq_true] at h1
    have := h1.2 j (lt j oj hj)
    simp only [hj, Bool.or_eq_true, beq_iff_eq, hij, false_or, Bool.and_eq_true, bne_iff_ne, ne_eq, decide_eq_true_eq] at this
    have h3 := this.2
    have hc : (oj.looksAt ops).contains d = true := by simpa using hr
    rw [hc] at h3
    simpa using h3

/-- One operation of the lexical walk, in the class C. -/
def stepF (P : Program) (gs : List Tmp) (C : World → Prop) (o : Oper) (a : Act) (next : Value → Prop) : Prop :=
  if isMake o then
    match o.op with
    | .alloc _ => ∃ cs : Array Value, (∀ w, C w → ∃ T, (execOp a.eval o).run P w = .ok (.value (.pointer (some ⟨w.heap.size, 0, none⟩))) (w.alloc (.cells cs T))) ∧ next (.tuple cs)
    | _ => ∃ cs : Array Value, (∀ w, C w → ∃ T, (execOp a.eval o).run P w = .ok (.value (.slice (some ⟨w.heap.size, 0, none⟩) cs.size cs.size)) (w.alloc (.cells cs T))) ∧ next (.agg cs)
  else if isConv gs o then
    match o.op with
    | .convert s d (.tmp t) => ∃ cs str, a.tmps.getD t undef = .agg cs ∧ (∀ w b T, w.heap[b]? = some (.cells cs T) → (convert s d (.slice (some ⟨b, 0, none⟩) cs.size cs.size)).run P w = .ok (.string str) w) ∧ next (.string str)
    | _ => False
  else ∃ v, (∀ w, C w → o.quietAt P a (fun w' => Below w.heap.size w w') w v) ∧ next v

def wpFlow (P : Program) (ops : Array Oper) (gs : List Tmp) (C : World → Prop) (Q : Act → Prop) : List Oper → Act → Prop
  | [], a => Q a
  | o :: rest, a => if Region.wanted o (yielded ops a.tmps) then stepF P gs C o a (fun v => wpFlow P ops gs C Q rest (a.put o.dst v)) else wpFlow P ops gs C Q rest (a.put o.dst undef)

def YieldF (P : Program) (ops : Array Oper) (gs : List Tmp) (C : World → Prop) (o : Oper) (a : Act) (v : Value) : Prop :=
  if Region.wanted o (yielded ops a.tmps) then stepF P gs C o a (fun u => u = v) else v = undef

theorem stepF_mono {P : Program} {gs : List Tmp} {C : World → Prop} {o : Oper} {a : Act} {next next' : Value → Prop} (h : stepF P gs C o a next) (hn : ∀ v, next v → next' v) : stepF P gs C o a next' := by
  unfold stepF at *
  split at h
  · rename_i hm
    rw [if_pos hm]
    split at h
    · obtain ⟨cs, h1, h2⟩ := h; exact ⟨cs, h1, hn _ h2⟩
    · obtain ⟨cs, h1, h2⟩ := h; exact ⟨cs, h1, hn _ h2⟩
  · rename_i hm
    rw [if_neg hm]
    split at h
    · rename_i hc
      rw [if_pos hc]
      split at h
      · obtain ⟨cs, str, h0, h1, h2⟩ := h; exact ⟨cs, str, h0, h1, hn _ h2⟩
      · exact h
    · rename_i hc
      rw [if_neg hc]
      obtain ⟨v, h1, h2⟩ := h
      exact ⟨v, h1, hn _ h2⟩

theorem stepF_out {P : Program} {gs : List Tmp} {C : World → Prop} {o : Oper} {a : Act} {next : Value → Prop} (h : stepF P gs C o a next) : ∃ v, stepF P gs C o a (fun u => u = v) ∧ next v := by
  unfold stepF at *
  split at h
  · rename_i hm
    simp only [hm, if_true]
    split at h
    · obtain ⟨cs, h1, h2⟩ := h; exact ⟨_, ⟨cs, h1, rfl⟩, h2⟩
    · obtain ⟨cs, h1, h2⟩ := h; exact ⟨_, ⟨cs, h1, rfl⟩, h2⟩
  · rename_i hm
    simp only [hm, Bool.false_eq_true, if_false]
    split at h
    · rename_i hc
      simp only [hc, if_true]
      split at h
      · obtain ⟨cs, str, h0, h1, h2⟩ := h; exact ⟨_, ⟨cs, str, h0, h1, rfl⟩, h2⟩
      · exact h.elim
    · rename_i hc
      simp only [hc]
      obtain ⟨v, h1, h2⟩ := h
      exact ⟨v, ⟨v, h1, rfl⟩, h2⟩

/-- the frames of the lexical walk -/
def lexA : List Oper → (Nat → Value) → Act → Nat → Act
  | _, _, a, 0 => a
  | [], _, a, _ + 1 => a
  | o :: l, vs, a, j + 1 => lexA l (fun i => vs (i + 1)) (a.put o.dst (vs 0)) j

theorem lexA_succ : ∀ (l : List Oper) (vs : Nat → Value) (a : Act) (j : Nat) (o : Oper), l[j]? = some o → lexA l vs a (j + 1) = (lexA l vs a j).put o.dst (vs j)
  | [], _, _, _, _, h => by simp at h
  | o' :: l, vs, a, 0, o, h => by simp at h; subst h; simp [lexA]
  | o' :: l, vs, a, j + 1, o, h => by
    simp only [List.getElem?_cons_succ] at h
    show lexA l _ _ (j + 1) = (lexA l _ _ j).put _ _
    exact lexA_succ l _ _ j o h

theorem wpFlow_trace {P : Program} {ops : Array Oper} {gs : List Tmp} {C : World → Prop} {Q : Act → Prop} : ∀ (l : List Oper) (a : Act), wpFlow P ops gs C Q l a →
    ∃ vs : Nat → Value, (∀ j o, l[j]? = some o → YieldF P ops gs C o (lexA l vs a j) (vs j)) ∧ Q (lexA l vs a l.length)
  | [], a, h => ⟨fun _ => undef, fun j o ho => by simp at ho, h⟩
  | o :: l, a, h => by
    unfold wpFlow at h
    have : ∃ v, YieldF P ops gs C o a v ∧ wpFlow P ops gs C Q l (a.put o.dst v) := by
      unfold YieldF
      split at h
      · rename_i hw
        obtain ⟨v, h1, h2⟩ := stepF_out h
        exact ⟨v, by simp only [hw, if_true]; exact h1, h2⟩
      · rename_i hw
        exact ⟨undef, by simp [hw], h⟩
    obtain ⟨v, h1, h2⟩ := this
    obtain ⟨vs, h3, h4⟩ := wpFlow_trace l _ h2
    refine ⟨fun | 0 => v | j + 1 => vs j, ?_, h4⟩
    intro j o' ho
    cases j with
    | zero => simp at ho; subst ho; exact h1
    | succ j => simp only [List.getElem?_cons_succ] at ho; exact h3 j o' ho

theorem put_getElem_ne {a : Act} {dst : Option Tmp} {v : Value} {d : Tmp} (h : dst ≠ some d) : (a.put dst v).tmps[d]? = a.tmps[d]? := by
  cases dst with
  | none => rfl
  | some e => simp [Act.put, Array.getElem?_setIfInBounds_ne (show e ≠ d from fun he => h (by rw [he]))]
theorem put_getElem_eq {a : Act} {v : Value} {d : Tmp} (h : d < a.tmps.size) : (a.put (some d) v).tmps[d]? = some v := by
  simp [Act.put, h]
theorem put_size {a : Act} {dst : Option Tmp} {v : Value} : (a.put dst v).tmps.size = a.tmps.size := by
  cases dst <;> simp [Act.put]
theorem put_defers {a : Act} {dst : Option Tmp} {v : Value} : (a.put dst v).defers = a.defers := by
  cases dst <;> rfl

theorem lexA_size (l : List Oper) (vs : Nat → Value) : ∀ (a : Act) (j : Nat), j ≤ l.length → (lexA l vs a j).tmps.size = a.tmps.size ∧ (lexA l vs a j).defers = a.defers := by
  intro a j
  induction j with
  | zero => intro _; simp [lexA]
  | succ j ih =>
    intro h
    rw [lexA_succ l vs a j l[j] (by simp), put_size, put_defers]
    exact ih (by omega)

theorem lexA_old (l : List Oper) (vs : Nat → Value) (a : Act) (d : Tmp) : ∀ j, j ≤ l.length → (∀ i o, i < j → l[i]? = some o → o.dst ≠ some d) → (lexA l vs a j).tmps[d]? = a.tmps[d]? := by
  intro j
  induction j with
  | zero => intro _ _; simp [lexA]
  | succ j ih =>
    intro h hn
    rw [lexA_succ l vs a j l[j] (by simp), put_getElem_ne (hn j l[j] (by omega) (by simp))]
    exact ih (by omega) fun i o hi ho => hn i o (by omega) ho

theorem lexA_new (l : List Oper) (vs : Nat → Value) (a : Act) (d : Tmp) (i : Nat) (o : Oper) (hi : l[i]? = some o) (hd : o.dst = some d) (hsz : d < a.tmps.size)
    (hu : ∀ i' o', i' ≠ i → l[i']? = some o' → o'.dst ≠ some d) : ∀ j, j ≤ l.length → i < j → (lexA l vs a j).tmps[d]? = some (vs i) := by
  intro j
  induction j with
  | zero => intro _ h; omega
  | succ j ih =>
    intro h hij
    rw [lexA_succ l vs a j l[j] (by simp)]
    by_cases e : j = i
    · subst e
      have : l[j] = o := (List.getElem?_eq_some_iff.1 hi).2
      rw [this, hd]
      exact put_getElem_eq (by rw [(lexA_size l vs a j (by omega)).1]; exact hsz)
    · rw [put_getElem_ne (hu j l[j] e (by simp))]
      exact ih (by omega) (by omega)

/-- what stands in the true frame's slot where the lexical one has v -/
def Sim (base : Nat) (mk : Bool) (w : World) (u v : Value) : Prop :=
  if mk then ∃ cs b T, base ≤ b ∧ w.heap[b]? = some (.cells cs T) ∧ ((v = .agg cs ∧ u = .slice (some ⟨b, 0, none⟩) cs.size cs.size) ∨ (v = .tuple cs ∧ u = .pointer (some ⟨b, 0, none⟩))) else u = v

theorem Sim.keep {base : Nat} {mk : Bool} {w w' : World} {u v : Value} (h : Sim base mk w u v) (hb : Below w.heap.size w w') : Sim base mk w' u v := by
  cases mk with
  | false => simpa [Sim] using h
  | true =>
    simp only [Sim, if_true] at h ⊢
    obtain ⟨cs, b, T, h0, h1, h2⟩ := h
    exact ⟨cs, b, T, h0, by rw [hb.block b (Array.getElem?_eq_some_iff.1 h1).1]; exact h1, h2⟩

section
variable {P : Program} {l : List Oper} {gs : List Tmp} {a0 : Act} {w0 : World} {vs : Nat → Value}

structure InvF (l : List Oper) (vs : Nat → Value) (a0 : Act) (w0 : World) (L : Array Bool) (a : Act) (w : World) : Prop where
  hC : Below w0.heap.size w0 w
  hd : a.defers = a0.defers
  hs : a.tmps.size = a0.tmps.size
  hl : L.size = l.length
  hv : ∀ k o d, L.getD k false = true → l[k]? = some o → o.dst = some d → ∃ u, a.tmps[d]? = some u ∧ Sim w0.heap.size (isMake o) w u (vs k)
  ho : ∀ d, (∀ k o, L.getD k false = true → l[k]? = some o → o.dst ≠ some d) → a.tmps[d]? = a0.tmps[d]?
  hc : ∀ k o i, L.getD k false = true → l[k]? = some o → waitsOn o i = true → L.getD i false = true

theorem getD_set (L : Array Bool) (i k : Nat) (hi : i < L.size) : (L.setIfInBounds i true).getD k false = true ↔ (k = i ∨ L.getD k false = true) := by
  by_cases e : k = i
  · subst e
    simp [Array.getD, hi]
  · simp only [e, false_or]
    have : (L.setIfInBounds i true).getD k false = L.getD k false := by
      simp only [Array.getD_eq_getD_getElem?, Array.getElem?_setIfInBounds_ne (Ne.symm e)]
    rw [this]

theorem InvF.put {L : Array Bool} {a : Act} {w w' : World} (I : InvF l vs a0 w0 L a w) {last : Bool} (F : FlowOk l.toArray gs a0.tmps.size last) {i : Nat} {o : Oper} (hi : l[i]? = some o) (hun : L.getD i true = false)
    (hwait : ∀ j, waitsOn o j = true → L.getD j false = true) {u : Value} (hb : Below w.heap.size w w') (hsim : o.dst.isSome = true → Sim w0.heap.size (isMake o) w' u (vs i)) :
    InvF l vs a0 w0 (L.setIfInBounds i true) (a.put o.dst u) w' := by
  have hiL : i < L.size := by rw [I.hl]; exact (List.getElem?_eq_some_iff.1 hi).1
  have ha : ∀ {k o}, l[k]? = some o → l.toArray[k]? = some o := fun h => by rw [List.getElem?_toArray]; exact h
  refine ⟨I.hC.trans (hb.mono I.hC.size), by rw [put_defers]; exact I.hd, by rw [put_size]; exact I.hs, by simp [I.hl], ?_, ?_, ?_⟩
  · intro k o' d hk ho' hd
    rw [getD_set L i k hiL] at hk
    by_cases e : k = i
    · subst e
      rw [hi] at ho'
      cases ho'
      rw [hd]
      exact ⟨u, put_getElem_eq (by rw [I.hs]; exact F.room k o d (ha hi) hd), hsim (by rw [hd]; rfl)⟩
    · obtain ⟨x, h1, h2⟩ := I.hv k o' d (hk.resolve_left e) ho' hd
      exact ⟨x, by rw [put_getElem_ne (F.lone k i o' o d e (ha ho') (ha hi) hd)]; exact h1, h2.keep hb⟩
  · intro d hn
    rw [put_getElem_ne (hn i o ((getD_set L i i hiL).2 (.inl rfl)) hi)]
    exact I.ho d fun k o' hk => hn k o' ((getD_set L i k hiL).2 (.inr hk))
  · intro k o' j hk ho' hw
    rw [getD_set L i k hiL] at hk
    refine (getD_set L i j hiL).2 (.inr ?_)
    by_cases e : k = i
    · subst e
      rw [hi] at ho'
      cases ho'
      exact hwait j hw
    · exact I.hc k o' j (hk.resolve_left e) ho' hw

/-- how many operations the walk itself takes -/
def walked (l : List Oper) (last : Bool) : Nat := if last then l.length - 1 else l.length

theorem eval_same {a b : Act} {x : Operand} (h : ∀ t, x = .tmp t → a.tmps[t]? = b.tmps[t]?) : a.eval x = b.eval x := by
  cases x with
  | tmp t => simp only [Act.eval, Array.getD_eq_getD_getElem?, h t rfl]
  | _ => rfl

theorem exec_same {ops : Array Oper} {o : Oper} {a b : Act} (hs : ∀ cs b, o.op ≠ .select cs b) (h : ∀ d ∈ o.looksAt ops, a.tmps[d]? = b.tmps[d]?) : execOp a.eval o = execOp b.eval o :=
  execOp_congr o hs fun x hx => eval_same fun t ht => h t (List.mem_append_left _ (List.mem_filterMap.2 ⟨.tmp t, by subst ht; simpa using hx, rfl⟩))

theorem wanted_same {ops : Array Oper} {o : Oper} {a b : Act} (h : ∀ d ∈ o.looksAt ops, a.tmps[d]? = b.tmps[d]?) : Region.wanted o (yielded ops a.tmps) = Region.wanted o (yielded ops b.tmps) := by
  unfold Region.wanted
  cases hg : o.guard with
  | none => rfl
  | some gw =>
    obtain ⟨g, want⟩ := gw
    have : yielded ops a.tmps g = yielded ops b.tmps g := by
      unfold yielded
      cases ht : (ops[g]?).bind (·.dst) with
      | none => rfl
      | some t => simp only [Option.bind_some, h t (by simp [Oper.looksAt, hg, ht])]
    simp only [this]

theorem wanted_free {ops : Array Oper} {o : Oper} {a : Act} (h : o.guard = none) : Region.wanted o (yielded ops a.tmps) = true := by
  unfold Region.wanted; rw [h]

theorem run_value_of {P : Program} {s : Sem Value} {v : Value} {w w' : World} (h : s.run P w = .ok v w') : (do pure (Next.value (← s)) : Sem Next).run P w = .ok (.value v) w' := by
  rw [Sem.run_bind, h]
  rfl

theorem flow_step {Q : Exit → Act → World → Prop} {last : Bool} (F : FlowOk l.toArray gs a0.tmps.size last) (hy : ∀ j o, j < walked l last → l[j]? = some o → YieldF P l.toArray gs (fun w => Below w0.heap.size w0 w) o (lexA l vs a0 j) (vs j))
    {L : Array Bool} {a : Act} {w : World} (I : InvF l vs a0 w0 L a w) {i : Nat} (hi : i ∈ Region.ready .any l.toArray L) (hnl : last = true → i + 1 ≠ l.length) :
    wpOp P l.toArray Q i (fun a' w' => InvF l vs a0 w0 (L.setIfInBounds i true) a' w') a w := by
  obtain ⟨hun, o, hio, hall⟩ := mem_ready.1 hi
  have hi' : l[i]? = some o := by rw [List.getElem?_toArray] at hio; exact hio
  have hlen : i < l.length := (List.getElem?_eq_some_iff.1 hi').1
  have ha : ∀ {k o}, l[k]? = some o → l.toArray[k]? = some o := fun h => by rw [List.getElem?_toArray]; exact h
  have ha' : ∀ {k o}, l.toArray[k]? = some o → l[k]? = some o := fun h => by rw [List.getElem?_toArray] at h; exact h
  have hunf : ¬ L.getD i false = true := by
    simp only [Array.getD_eq_getD_getElem?] at hun ⊢
    cases h : L[i]? with
    | none => simp
    | some b => rw [h] at hun; simpa using hun
  have hwait : ∀ j, waitsOn o j = true → L.getD j false = true := fun j hw => by
    unfold waitsOn at hw
    rw [Array.any_eq_true] at hw
    obtain ⟨k, hk, he⟩ := hw
    rw [Bool.and_eq_true, beq_iff_eq] at he
    have := hall o.after[k] (by simp) he.1
    rwa [he.2] at this
  have writer : ∀ d ∈ o.looksAt l.toArray, ∀ j oj, j < i → l[j]? = some oj → oj.dst = some d → ∃ u, a.tmps[d]? = some u ∧ Sim w0.heap.size (isMake oj) w u (vs j) ∧ (lexA l vs a0 i).tmps[d]? = some (vs j) := by
    intro d hd j oj hj hoj hdst
    have hL : L.getD j false = true := by
      rcases F.read j i oj o d (by omega) (ha hoj) hio hdst hd with h | h
      · exact hwait j h.2
      · omega
    obtain ⟨u, h1, h2⟩ := I.hv j oj d hL hoj hdst
    exact ⟨u, h1, h2, lexA_new l vs a0 d j oj hoj hdst (F.room j oj d (ha hoj) hdst) (fun i' o' hne ho' => F.lone j i' oj o' d (Ne.symm hne) (ha hoj) (ha ho') hdst) i (by omega) hj⟩
  have reads : ∀ d ∈ o.looksAt l.toArray, d ∉ gs → a.tmps[d]? = (lexA l vs a0 i).tmps[d]? := by
    intro d hd hg
    by_cases hw : ∃ j oj, j < i ∧ l[j]? = some oj ∧ oj.dst = some d
    · obtain ⟨j, oj, hj, hoj, hdst⟩ := hw
      obtain ⟨u, h1, h2, h3⟩ := writer d hd j oj hj hoj hdst
      have hmk : isMake oj = false := by
        cases hmk : isMake oj with
        | false => rfl
        | true =>
          obtain ⟨_, d', hd', hg'⟩ := F.mguard j oj (ha hoj) hmk
          rw [hdst] at hd'
          cases hd'
          exact absurd hg' hg
      rw [hmk] at h2
      have : u = vs j := by simpa [Sim] using h2
      rw [h1, h3, this]
    · have hno : ∀ j oj, j < i → l[j]? = some oj → oj.dst ≠ some d := fun j oj hj hoj hdst => hw ⟨j, oj, hj, hoj, hdst⟩
      rw [lexA_old l vs a0 d i (by omega) hno]
      refine I.ho d fun k ok hk hok hdst => ?_
      by_cases e : k = i
      · subst e; exact hunf hk
      · rcases F.read k i ok o d e (ha hok) hio hdst hd with h | h
        · exact hno k ok h.1 hok hdst
        · exact hunf (I.hc k ok i hk hok h.2)
  have hY := hy i o (by
    unfold walked
    split
    · rename_i hl
      have := hnl hl
      omega
    · exact hlen) hi'
  unfold YieldF at hY
  unfold wpOp
  simp only [hio]
  by_cases hconv : isConv gs o = true
  · have hgd := F.cguard i o hio hconv
    rw [if_pos (wanted_free hgd)] at hY
    rw [if_pos (wanted_free hgd)]
    obtain ⟨s, d, t, j, oj, hop, hj, hoj, hmk, hdst⟩ := F.cmake i o hio hconv
    have hnm : isMake o = false := by unfold isMake; rw [hop]
    unfold stepF at hY
    rw [hnm, hconv] at hY
    simp only [Bool.false_eq_true, if_false, if_true, hop] at hY
    obtain ⟨cs', str, h0, h1, h2⟩ := hY
    have ht : t ∈ o.looksAt l.toArray := List.mem_append_left _ (List.mem_filterMap.2 ⟨.tmp t, by simp [hop, Op.operands], rfl⟩)
    obtain ⟨u, h3, h4, h5⟩ := writer t ht j oj hj (ha' hoj) hdst
    rw [hmk] at h4
    simp only [Sim, if_true] at h4
    obtain ⟨cs, b, T, e0, e3, e12⟩ := h4
    have e4 : vs j = .agg cs' := by
      rw [Array.getD_eq_getD_getElem?, h5] at h0; exact h0
    have e5 : cs = cs' ∧ u = .slice (some ⟨b, 0, none⟩) cs.size cs.size := by
      rcases e12 with ⟨e1, e2⟩ | ⟨e1, e2⟩
      · rw [e1] at e4; exact ⟨Value.agg.inj e4, e2⟩
      · rw [e1] at e4; cases e4
    obtain ⟨e5, e2⟩ := e5
    subst e5
    have h6 := h1 w b T e3
    refine .inl ?_
    have hrun : (execOp a.eval o).run P w = .ok (.value (.string str)) w := by
      have hev : a.eval (.tmp t) = .slice (some ⟨b, 0, none⟩) cs.size cs.size := by
        show a.tmps.getD t undef = _
        rw [Array.getD_eq_getD_getElem?, h3, e2]; rfl
      unfold execOp
      simp only [hop, hev]
      exact run_value_of h6
    unfold Oper.wp
    rw [hrun]
    exact I.put F hi' hun hwait (Below.refl _ _) fun _ => by rw [hnm, ← h2]; simp [Sim]
  · have hconv : isConv gs o = false := by simpa using hconv
    have hsame : ∀ d ∈ o.looksAt l.toArray, a.tmps[d]? = (lexA l vs a0 i).tmps[d]? := fun d hd => reads d hd fun hg => F.cold i o hio hconv (fun hl => by have := hnl hl; simpa using this) d hg hd
    rw [wanted_same hsame]
    by_cases hwn : Region.wanted o (yielded l.toArray (lexA l vs a0 i).tmps) = true
    · rw [if_pos hwn] at hY
      rw [if_pos hwn]
      refine .inl ?_
      unfold Oper.wp
      rw [exec_same (F.sel i o · · hio) hsame]
      unfold stepF at hY
      rw [hconv] at hY
      by_cases hmk : isMake o = true
      · rw [if_pos hmk] at hY
        split at hY
        · obtain ⟨cs, h1, h2⟩ := hY
          obtain ⟨T, h3⟩ := h1 w I.hC
          rw [h3]
          refine I.put F hi' hun hwait ((Below.refl _ _).alloc (Nat.le_refl _) _) fun _ => ?_
          rw [hmk, ← h2]
          simp only [Sim, if_true]
          exact ⟨cs, w.heap.size, T, I.hC.size, by show (w.heap.push _)[w.heap.size]? = _; simp, .inr ⟨rfl, rfl⟩⟩
        · obtain ⟨cs, h1, h2⟩ := hY
          obtain ⟨T, h3⟩ := h1 w I.hC
          rw [h3]
          refine I.put F hi' hun hwait ((Below.refl _ _).alloc (Nat.le_refl _) _) fun _ => ?_
          rw [hmk, ← h2]
          simp only [Sim, if_true]
          exact ⟨cs, w.heap.size, T, I.hC.size, by show (w.heap.push _)[w.heap.size]? = _; simp, .inl ⟨rfl, rfl⟩⟩
      · rw [if_neg hmk] at hY
        have hmk : isMake o = false := by simpa using hmk
        simp only [Bool.false_eq_true, if_false] at hY
        obtain ⟨v, h1, h2⟩ := hY
        have h3 := h1 w I.hC
        subst h2
        unfold Oper.quietAt at h3
        generalize (execOp (lexA l vs a0 i).eval o).run P w = r at *
        cases r with
        | ok n w' =>
          cases n <;> simp only [Oper.quietUpon] at h3 <;> simp only [Oper.upon]
          case value u =>
            obtain ⟨e1, e2⟩ := h3
            subst e1 e2
            exact I.put F hi' hun hwait (Below.refl _ _) fun _ => by rw [hmk]; simp [Sim]
          case skip =>
            obtain ⟨e1, e2⟩ := h3
            subst e1
            rw [← e2]
            exact I.put F hi' hun hwait (Below.refl _ _) fun _ => by rw [hmk]; simp [Sim]
          case enter f args =>
            obtain ⟨e1, hc⟩ := h3
            subst e1
            exact hc.mono fun e w'' ⟨he, hw''⟩ => by
              subst he
              exact I.put F hi' hun hwait hw'' fun _ => by rw [hmk]; simp [Sim]
        | halt x w' => simp only [Oper.quietUpon] at h3
    · rw [if_neg hwn] at hY
      rw [if_neg hwn]
      have hmk : isMake o = false := by
        cases hmk : isMake o with
        | false => rfl
        | true => exact absurd (wanted_free (F.mguard i o hio hmk).1) hwn
      exact I.put F hi' hun hwait (Below.refl _ _) fun _ => by rw [hmk, hY]; simp [Sim]

/-- a row of these cells lies at b -/
structure Held (w : World) (b : Nat) (cs : Array Value) : Prop where
  cell : ∀ k, w.cell? ⟨b, k, none⟩ = cs[k]?
  frozen : ∀ k, w.frozen? ⟨b, k, none⟩ = false
  lt : b < w.heap.size
theorem held_of {w : World} {b : Nat} {cs : Array Value} {T : TypeId} (h : w.heap[b]? = some (.cells cs T)) : Held w b cs :=
  ⟨fun k => by simp [World.cell?, h], fun k => by simp [World.frozen?, h], (Array.getElem?_eq_some_iff.1 h).1⟩

/-- the lexical frame with the true slices and pointers in the place of what stood for them -/
def unghost (base : Nat) (w : World) : List Tmp → Act → (Act → Prop) → Prop
  | [], a, K => K a
  | d :: ds, a, K => ∀ b, base ≤ b →
    match a.tmps.getD d undef with
    | .agg cs => ∀ T, w.heap[b]? = some (.cells cs T) → unghost base w ds (a.put (some d) (.slice (some ⟨b, 0, none⟩) cs.size cs.size)) K
    | .tuple cs => Held w b cs → unghost base w ds (a.put (some d) (.pointer (some ⟨b, 0, none⟩))) K
    | _ => True

theorem unghost_out {base : Nat} {w : World} {K : Act → Prop} : ∀ (gs : List Tmp) (b a : Act), unghost base w gs b K → a.defers = b.defers → a.tmps.size = b.tmps.size → (∀ d, d ∉ gs → a.tmps[d]? = b.tmps[d]?) →
    (∀ d, d ∈ gs → ∃ u v, a.tmps[d]? = some u ∧ b.tmps[d]? = some v ∧ Sim base true w u v) → gs.Nodup → K a
  | [], b, a, h, hd, _, ht, _, _ => by
    have : a = b := by
      obtain ⟨t, d⟩ := a
      obtain ⟨t', d'⟩ := b
      have e1 : t = t' := Array.ext_getElem? fun i => ht i (by simp)
      have e2 : d = d' := hd
      rw [e1, e2]
    rw [this]; exact h
  | d :: ds, b, a, h, hd, hs, ht, hg, hnd => by
    obtain ⟨u, v, h1, h2, h3⟩ := hg d (by simp)
    simp only [Sim, if_true] at h3
    obtain ⟨cs, b', T, hb, hc, h12⟩ := h3
    have hlt : d < b.tmps.size := (Array.getElem?_eq_some_iff.1 h2).1
    have hv : b.tmps.getD d undef = v := by rw [Array.getD_eq_getD_getElem?, h2]; rfl
    rw [List.nodup_cons] at hnd
    have next : unghost base w ds (b.put (some d) u) K := by
      have h' := h b' hb
      rw [hv] at h'
      rcases h12 with ⟨rfl, rfl⟩ | ⟨rfl, rfl⟩
      · exact h' T hc
      · exact h' (held_of hc)
    refine unghost_out ds _ a next (by rw [put_defers]; exact hd) (by rw [put_size]; exact hs) (fun d' hd' => ?_) (fun d' hd' => ?_) hnd.2
    · by_cases e : d' = d
      · subst e; rw [put_getElem_eq hlt, h1]
      · rw [put_getElem_ne (fun h => e (Option.some.inj h).symm)]
        exact ht d' (by simp [e, hd'])
    · have e : d' ≠ d := fun e => hnd.1 (e ▸ hd')
      rw [put_getElem_ne (fun h => e (Option.some.inj h).symm)]
      exact hg d' (by simp [hd'])

theorem all_ready {L : Array Bool} (hall : ∀ k, k < l.length → L.getD k false = true) : Region.ready .any l.toArray L = [] := by
  cases hr : Region.ready .any l.toArray L with
  | nil => rfl
  | cons i is =>
    exfalso
    have hi : i ∈ Region.ready .any l.toArray L := by rw [hr]; simp
    obtain ⟨hun, o, hio, _⟩ := mem_ready.1 hi
    have := hall i (by have := (Array.getElem?_eq_some_iff.1 hio).1; simpa using this)
    rw [Array.getD_eq_getD_getElem?] at hun this
    cases h : L[i]? with
    | none => rw [h] at this; cases this
    | some b => rw [h] at hun this; simp at hun this; rw [hun] at this; cases this


theorem flow_done {last : Bool} (F : FlowOk l.toArray gs a0.tmps.size last) {K : Act → World → Prop}
    (hQ : ∀ w, Below w0.heap.size w0 w → unghost w0.heap.size w gs (lexA l vs a0 (walked l last)) fun a => K a w)
    (hlm : last = true → ∀ o, l[l.length - 1]? = some o → isMake o = false ∧ ∀ d, o.dst = some d → d ∉ gs)
    {L : Array Bool} {a : Act} {w : World} (I : InvF l vs a0 w0 L a w) (hall : ∀ k, k < walked l last → L.getD k false = true) (hnot : last = true → L.getD (l.length - 1) false = false) : K a w := by
  have ha : ∀ {k o}, l[k]? = some o → l.toArray[k]? = some o := fun h => by rw [List.getElem?_toArray]; exact h
  have hwl : walked l last ≤ l.length := by unfold walked; split <;> omega
  have hin : ∀ j, L.getD j false = true → (∃ o, l[j]? = some o) → j < walked l last := fun j hj ⟨o, ho⟩ => by
    have h1 := (List.getElem?_eq_some_iff.1 ho).1
    unfold walked
    split
    · rename_i hl
      have := hnot hl
      by_cases e : j = l.length - 1
      · subst e; rw [this] at hj; cases hj
      · omega
    · exact h1
  have lex : ∀ j oj d, j < walked l last → l[j]? = some oj → oj.dst = some d → (lexA l vs a0 (walked l last)).tmps[d]? = some (vs j) := fun j oj d hj hoj hdst =>
    lexA_new l vs a0 d j oj hoj hdst (F.room j oj d (ha hoj) hdst) (fun i' o' hne ho' => F.lone j i' oj o' d (Ne.symm hne) (ha hoj) (ha ho') hdst) _ hwl hj
  refine unghost_out gs _ a (hQ w I.hC) (by rw [(lexA_size l vs a0 _ hwl).2]; exact I.hd) (by rw [(lexA_size l vs a0 _ hwl).1]; exact I.hs) (fun d hd => ?_) (fun d hd => ?_) F.nodup
  · by_cases hw : ∃ (j : Nat) (oj : Oper), j < walked l last ∧ l[j]? = some oj ∧ oj.dst = some d
    · obtain ⟨j, oj, hj, hoj, hdst⟩ := hw
      obtain ⟨u, h1, h2⟩ := I.hv j oj d (hall j hj) hoj hdst
      have hmk : isMake oj = false := by
        cases hmk : isMake oj with
        | false => rfl
        | true =>
          obtain ⟨_, d', hd', hg'⟩ := F.mguard j oj (ha hoj) hmk
          rw [hdst] at hd'
          cases hd'
          exact absurd hg' hd
      rw [hmk] at h2
      have : u = vs j := by simpa [Sim] using h2
      rw [h1, this, lex j oj d hj hoj hdst]
    · rw [I.ho d fun k ok hk hok hdst => hw ⟨k, ok, hin k hk ⟨ok, hok⟩, hok, hdst⟩, lexA_old l vs a0 d _ hwl fun k ok hk hok hdst => hw ⟨k, ok, hk, hok, hdst⟩]
  · obtain ⟨j, oj, hoj, hmk, hdst⟩ := F.made d hd
    have hoj' : l[j]? = some oj := by rw [List.getElem?_toArray] at hoj; exact hoj
    have hlt := (List.getElem?_eq_some_iff.1 hoj').1
    have hj : j < walked l last := by
      unfold walked
      split
      · rename_i hl
        by_cases e : j = l.length - 1
        · subst e; rw [(hlm hl oj hoj').1] at hmk; cases hmk
        · omega
      · exact hlt
    obtain ⟨u, h1, h2⟩ := I.hv j oj d (hall j hj) hoj' hdst
    rw [hmk] at h2
    exact ⟨u, vs j, h1, lex j oj d hj hoj' hdst, h2⟩

theorem flow_any {Q : Exit → Act → World → Prop} {last : Bool} (F : FlowOk l.toArray gs a0.tmps.size last)
    (hy : ∀ j o, j < walked l last → l[j]? = some o → YieldF P l.toArray gs (fun w => Below w0.heap.size w0 w) o (lexA l vs a0 j) (vs j))
    (hlm : last = true → ∀ o, l[l.length - 1]? = some o → isMake o = false ∧ ∀ d, o.dst = some d → d ∉ gs)
    (hQ : ∀ w, Below w0.heap.size w0 w → unghost w0.heap.size w gs (lexA l vs a0 (walked l last)) fun a => if last then wpOp P l.toArray Q (l.length - 1) (Q .normal) a w else Q .normal a w) :
    ∀ (fuel : Nat) (L : Array Bool) (a : Act) (w : World), InvF l vs a0 w0 L a w → (last = true → L.getD (l.length - 1) false = false) → L.toList.countP (· == false) ≤ fuel → wpAny P .any l.toArray Q fuel L a w := by
  have ha : ∀ {k o}, l[k]? = some o → l.toArray[k]? = some o := fun h => by rw [List.getElem?_toArray]; exact h
  have notB : ∀ {L : Array Bool} {k}, k < L.size → L.getD k false = false → L[k]? = some false := by
    intro L k hk hb
    rw [Array.getD_eq_getD_getElem?, Array.getElem?_eq_getElem hk] at hb
    rw [Array.getElem?_eq_getElem hk]
    simpa using hb
  have zero : ∀ {L : Array Bool} {k}, k < L.size → L.getD k false = false → 0 < L.toList.countP (· == false) := by
    intro L k hk hb
    have h1 := notB hk hb
    rw [Array.getElem?_eq_getElem hk] at h1
    exact List.countP_pos_iff.2 ⟨false, by rw [← Option.some.inj h1]; simp, rfl⟩
  have rdy : ∀ {L : Array Bool} {k o}, L.size = l.length → l[k]? = some o → L.getD k false = false → (∀ e ∈ o.after, Region.binds .any e = true → L.getD e.on false = true) → k ∈ Region.ready .any l.toArray L := by
    intro L k o hL hk hb hw
    have hlt := (List.getElem?_eq_some_iff.1 hk).1
    refine mem_ready.2 ⟨?_, o, ha hk, hw⟩
    have := notB (by rw [hL]; exact hlt) hb
    rw [Array.getD_eq_getD_getElem?, this]; rfl
  have lowk : ∀ {k o e}, l[k]? = some o → e ∈ o.after → Region.binds .any e = true → e.on < k := by
    intro k o e hk he hb
    refine F.low k o e.on (ha hk) ?_
    unfold waitsOn
    rw [Array.any_eq_true]
    obtain ⟨x, hx, he⟩ := Array.mem_iff_getElem.1 he
    exact ⟨x, hx, by rw [he, hb]; simp⟩
  -- where nothing is ready, all is listed
  have ready : ∀ {L a w}, InvF l vs a0 w0 L a w → (Region.ready .any l.toArray L = [] ∨ L.toList.countP (· == false) ≤ 0) → ∀ k, k < l.length → L.getD k false = true := by
    intro L a w I h k
    induction k using Nat.strongRecOn with
    | ind k ih =>
      intro hk
      cases hb : L.getD k false with
      | true => rfl
      | false =>
        exfalso
        rcases h with h | h
        · have := rdy I.hl (k := k) (o := l[k]) (by simp) hb fun e he hbd => by
            have hlow := lowk (k := k) (o := l[k]) (by simp) he hbd
            exact ih e.on hlow (by omega)
          rw [h] at this
          cases this
        · have := zero (by rw [I.hl]; exact hk) hb
          omega
  have single : last = false → ∀ {L a w}, InvF l vs a0 w0 L a w → (∀ k, k < l.length → L.getD k false = true) → Q .normal a w := by
    intro hl L a w I hall
    have := flow_done F (K := fun a w => if last then wpOp P l.toArray Q (l.length - 1) (Q .normal) a w else Q .normal a w) hQ hlm I (fun k hk => hall k (by rw [hl] at hk; exact hk)) (fun h => by rw [hl] at h; cases h)
    rw [hl] at this
    simpa using this
  have never : ∀ {L a w}, InvF l vs a0 w0 L a w → (last = true → L.getD (l.length - 1) false = false) → (∀ k, k < l.length → L.getD k false = true) → last = false := by
    intro L a w I hnot hall
    cases hl : last with
    | false => rfl
    | true =>
      have h0 := (F.sink hl).1
      have h0 : 0 < l.length := by simpa using h0
      have := hnot hl
      rw [hall _ (by omega)] at this
      cases this
  intro fuel
  induction fuel with
  | zero =>
    intro L a w I hnot hc
    have hall := ready I (.inr hc)
    exact ⟨all_ready hall, single (never I hnot hall) I hall⟩
  | succ fuel ih =>
    intro L a w I hnot hc
    refine ⟨fun h => single (never I hnot (ready I (.inl h))) I (ready I (.inl h)), fun i hi => ?_⟩
    obtain ⟨hun, o, hio, hall⟩ := mem_ready.1 hi
    have hio' : l[i]? = some o := by rw [List.getElem?_toArray] at hio; exact hio
    have hiL : i < L.size := by rw [I.hl]; exact (List.getElem?_eq_some_iff.1 hio').1
    by_cases hlast : last = true ∧ i + 1 = l.length
    · obtain ⟨hl, hil⟩ := hlast
      -- all the others are listed
      have others : ∀ m k, k + m + 1 = l.length → L.getD k false = true ∨ k = i := by
        intro m
        induction m using Nat.strongRecOn with
        | ind m ihm =>
          intro k hk
          by_cases e : k = i
          · exact .inr e
          · left
            obtain ⟨j, oj, hoj, hw⟩ := (F.sink hl).2 k (by simp; omega)
            have hlow := F.low j oj k hoj hw
            have hoj' : l[j]? = some oj := by rw [List.getElem?_toArray] at hoj; exact hoj
            have hjl := (List.getElem?_eq_some_iff.1 hoj').1
            rcases ihm (l.length - 1 - j) (by omega) j (by omega) with h | h
            · exact I.hc j oj k h hoj' hw
            · subst h
              rw [hio'] at hoj'
              cases hoj'
              unfold waitsOn at hw
              rw [Array.any_eq_true] at hw
              obtain ⟨x, hx, he⟩ := hw
              rw [Bool.and_eq_true, beq_iff_eq] at he
              have := hall o.after[x] (by simp) he.1
              rwa [he.2] at this
      have e : l.length - 1 = i := by omega
      have := flow_done F (K := fun a w => if last then wpOp P l.toArray Q (l.length - 1) (Q .normal) a w else Q .normal a w) hQ hlm I (fun k hk => by
        unfold walked at hk
        rw [hl] at hk
        simp only [if_true] at hk
        rcases others (l.length - 1 - k) k (by omega) with h | h
        · exact h
        · omega) hnot
      rw [hl] at this
      simp only [if_true] at this
      rw [e] at this
      refine wpOp_mono (fun a' w' h => ?_) this
      have hall' : ∀ k, k < l.length → (L.setIfInBounds i true).getD k false = true := fun k hk => by
        rw [getD_set L i k hiL]
        rcases others (l.length - 1 - k) k (by omega) with h | h
        · exact .inr h
        · exact .inl h
      cases fuel with
      | zero => exact ⟨all_ready hall', h⟩
      | succ fuel => exact ⟨fun _ => h, fun i' hi' => by rw [all_ready hall'] at hi'; cases hi'⟩
    · have hnl : last = true → i + 1 ≠ l.length := fun hl e => hlast ⟨hl, e⟩
      refine wpOp_mono (fun a' w' I' => ih _ a' w' I' (fun hl => ?_) ?_) (flow_step F hy I hi hnl)
      · have h1 := hnot hl
        have h2 := hnl hl
        cases hb : (L.setIfInBounds i true).getD (l.length - 1) false with
        | false => rfl
        | true =>
          have hl' := I.hl
          rcases (getD_set L i _ hiL).1 hb with h | h
          · omega
          · rw [h1] at h; cases h
      · have hunf : L.getD i false = false := by
          rw [Array.getD_eq_getD_getElem?, Array.getElem?_eq_getElem hiL] at hun ⊢; simpa using hun
        have hLi : L[i] = false := by
          have := notB hiL hunf
          rw [Array.getElem?_eq_getElem hiL] at this
          exact Option.some.inj this
        rw [Array.toList_setIfInBounds, List.countP_set (by simpa using hiL)]
        have hc' : L.toList.countP (· == false) ≤ fuel + 1 := hc
        have hp := zero hiL hunf
        have e1 : (L.toList[i]'(by simpa using hiL)) = false := by simpa using hLi
        rw [e1]
        simp only [beq_self_eq_true, if_true, show (true == false) = false from rfl, Bool.false_eq_true, if_false]
        omega

theorem wpFlow_steps {ops : Array Oper} {C : World → Prop} {Q : Act → Prop} {a : Act} {o : Oper} {rest : List Oper}
    (h : ∀ K : Act → Prop, (∀ a, wpFlow P ops gs C Q rest a → K a) → if Region.wanted o (yielded ops a.tmps) then stepF P gs C o a (fun v => K (a.put o.dst v)) else K (a.put o.dst undef)) : wpFlow P ops gs C Q (o :: rest) a :=
  h _ fun _ h => h
theorem wpFlow_nil {ops : Array Oper} {C : World → Prop} {Q : Act → Prop} {a : Act} (h : Q a) : wpFlow P ops gs C Q [] a := h

theorem flow_main {id : Nat} {Q : Exit → Act → World → Prop} {a : Act} {w : World} (last : Bool) (hm : P.follows .mixedOrders = true) (hB : flowB l.toArray gs a.tmps.size last = true)
    (hlm : last = true → ∀ o, l[l.length - 1]? = some o → isMake o = false ∧ ∀ d, o.dst = some d → d ∉ gs)
    (h : wpFlow P l.toArray gs (fun w' => ∃ p : In w, w' = p.w)
      (fun a' => ∀ w', (∃ p : In w, w' = p.w) → unghost w.heap.size w' gs a' fun a'' => if last then wpOp P l.toArray Q (l.length - 1) (Q .normal) a'' w' else Q .normal a'' w') (l.take (walked l last)) a) :
    (Code.region id l.toArray true).wp P Q a w := by
  have hCC : (fun w' => ∃ p : In w, w' = p.w) = fun w' => Below w.heap.size w w' :=
    funext fun w' => propext ⟨fun ⟨p, hp⟩ => hp ▸ p.h, fun h => ⟨⟨w', h⟩, rfl⟩⟩
  have hCC' : ∀ w', (∃ p : In w, w' = p.w) = Below w.heap.size w w' := fun w' => congrFun hCC w'
  simp only [hCC'] at h
  obtain ⟨vs, h1, h2⟩ := wpFlow_trace _ a h
  have hwl : walked l last ≤ l.length := by unfold walked; split <;> omega
  have lexTake : ∀ (l : List Oper) (vs : Nat → Value) (a : Act) (n j : Nat), j ≤ n → lexA (l.take n) vs a j = lexA l vs a j := by
    intro l
    induction l with
    | nil => intro vs a n j _; simp
    | cons o l ih =>
      intro vs a n j hj
      cases j with
      | zero => simp [lexA]
      | succ j =>
        obtain ⟨n, rfl⟩ : ∃ m, n = m + 1 := ⟨n - 1, by omega⟩
        simp only [List.take_succ_cons, lexA]
        exact ih _ _ n j (by omega)
  refine wp_region_any hm ?_
  rw [show l.toArray.size = l.length by simp]
  have hlen : (l.take (walked l last)).length = walked l last := by rw [List.length_take]; omega
  rw [hlen, lexTake _ _ _ _ _ (Nat.le_refl _)] at h2
  refine flow_any (w0 := w) (flowOk_of hB) (fun j o hj ho => ?_) hlm h2 l.length _ a _ ⟨⟨rfl, rfl, rfl, Nat.le_refl _, fun _ _ => rfl⟩, rfl, rfl, by simp, ?_, fun _ _ => rfl, ?_⟩ ?_ ?_
  · have := h1 j o (by rw [List.getElem?_take_of_lt hj]; exact ho)
    rwa [lexTake _ _ _ _ _ (by omega)] at this
  · intro k o d hk; exfalso; simp [Array.getD] at hk
  · intro k o i hk; exfalso; simp [Array.getD] at hk
  · intro _; simp [Array.getD]
  · simp [List.countP_replicate]

/-- ONE WALK OF THE LEXICAL ORDER SERVES EVERY ORDER. -/
theorem wp_region_flow {id : Nat} {Q : Exit → Act → World → Prop} {a : Act} {w : World} (gs : List Tmp) (hm : P.follows .mixedOrders = true) (hB : flowB l.toArray gs a.tmps.size false = true)
    (h : wpFlow P l.toArray gs (fun w' => ∃ p : In w, w' = p.w) (fun a' => ∀ w', (∃ p : In w, w' = p.w) → unghost w.heap.size w' gs a' fun a'' => Q .normal a'' w') l a) :
    (Code.region id l.toArray true).wp P Q a w := by
  refine flow_main false hm hB (fun h => by cases h) ?_
  have : l.take (walked l false) = l := by unfold walked; simp
  rw [this]
  simpa using h

/-- The same where the last operation, for which all the others have waited, is taken as it comes. -/
theorem wp_region_flow_last {id : Nat} {Q : Exit → Act → World → Prop} {a : Act} {w : World} {o : Oper} (gs : List Tmp) (hm : P.follows .mixedOrders = true) (hB : flowB (l ++ [o]).toArray gs a.tmps.size true = true)
    (hlm : (!isMake o && o.dst.all fun d => !gs.contains d) = true)
    (h : wpFlow P (l ++ [o]).toArray gs (fun w' => ∃ p : In w, w' = p.w)
      (fun a' => ∀ w', (∃ p : In w, w' = p.w) → unghost w.heap.size w' gs a' fun a'' => Region.wanted o (yielded (l ++ [o]).toArray a''.tmps) = true ∧ o.wp P a'' w' (Q .normal) Q) l a) :
    (Code.region id (l ++ [o]).toArray true).wp P Q a w := by
  have hg : (l ++ [o])[(l ++ [o]).length - 1]? = some o := by simp
  refine flow_main true hm hB (fun _ o' ho' => ?_) ?_
  · rw [hg] at ho'
    cases ho'
    rw [Bool.and_eq_true] at hlm
    refine ⟨by simpa using hlm.1, fun d hd => ?_⟩
    have := hlm.2
    rw [hd] at this
    simpa using this
  · have : (l ++ [o]).take (walked (l ++ [o]) true) = l := by unfold walked; simp
    rw [this]
    have mono : ∀ (l' : List Oper) (a : Act) (ops) (C : World → Prop) (Q Q' : Act → Prop), (∀ a, Q a → Q' a) → wpFlow P ops gs C Q l' a → wpFlow P ops gs C Q' l' a := by
      intro l'
      induction l' with
      | nil => intro a ops C Q Q' hq h; exact hq _ h
      | cons x l' ih =>
        intro a ops C Q Q' hq h
        unfold wpFlow at h ⊢
        split
        · rename_i hw
          rw [if_pos hw] at h
          exact stepF_mono h fun v hv => ih _ _ _ _ _ hq hv
        · rename_i hw
          rw [if_neg hw] at h
          exact ih _ _ _ _ _ hq h
    have ung : ∀ (gs : List Tmp) (base : Nat) (w : World) (a : Act) (K K' : Act → Prop), (∀ a, K a → K' a) → unghost base w gs a K → unghost base w gs a K' := by
      intro gs
      induction gs with
      | nil => intro base w a K K' hk h; exact hk _ h
      | cons d ds ih =>
        intro base w a K K' hk h b hb
        have h := h b hb
        split
        · rename_i cs hcs
          rw [hcs] at h
          exact fun T hT => ih _ _ _ _ _ hk (h T hT)
        · rename_i cs hcs
          rw [hcs] at h
          exact fun hT => ih _ _ _ _ _ hk (h hT)
        · trivial
    refine mono _ _ _ _ _ _ (fun a' h w' hw' => ung _ _ _ _ _ _ (fun a'' h => ?_) (h w' hw')) h
    simp only [if_true]
    unfold wpOp
    have hg' : (l ++ [o]).toArray[(l ++ [o]).length - 1]? = some o := by rw [List.getElem?_toArray]; exact hg
    rw [hg']
    simp only [h.1, if_true]
    exact .inl h.2

end
attribute [go_sem] stepF isMake isConv unghost
end Go.Proofs.Ytipjelkdbbhcpaa
