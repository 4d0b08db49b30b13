
/-
  A region that draws its order, whose operations read, call and lay new memory: what each gives is said by a fact that new blocks do not turn. One walk of the lexical order serves every order;
  the last operations, each of which awaits all ahead of it, are walked as they come.
-/
import Derived.Test.YtipjelkdbbhcpaaFlow
set_option linter.unusedSimpArgs false
set_option linter.unusedVariables false
namespace Go.Proofs.Ytipjelkdbbhcpaa
open Go.RowKit

/-- what is said of a slot's value in a world -/
abbrev Fact := Value → World → Prop
structure Steady (G : Fact) : Prop where
  keep : ∀ u w w', G u w → Below w.heap.size w w' → G u w'
/-- what an operation has given: a value, or one of which a fact is said -/
inductive Got where
  | val (v : Value)
  | fact (G : Fact)
def Got.ok : Got → Fact
  | .val v => fun u _ => u = v
  | .fact G => G
def Got.steady : Got → Prop
  | .val _ => True
  | .fact G => Steady G
theorem Got.keep {x : Got} (h : x.steady) {u : Value} {w w' : World} (hk : x.ok u w) (hb : Below w.heap.size w w') : x.ok u w' := by
  cases x with
  | val v => exact hk
  | fact G => exact h.keep _ _ _ hk hb

abbrev Known := List (Tmp × Fact)
/-- the frame, with whatever values meet the facts -/
def fillR (w : World) : Known → Act → (Act → Prop) → Prop
  | [], a, K => K a
  | (d, G) :: rs, a, K => ∀ u, G u w → fillR w rs (a.put (some d) u) K
def pickR (us : List Tmp) : Known → Known
  | [] => []
  | (d, G) :: rs => if us.contains d then (d, G) :: pickR us rs else pickR us rs
theorem pickR_nil : ∀ rs : Known, pickR [] rs = []
  | [] => rfl
  | (d, G) :: rs => by simp [pickR, pickR_nil rs]
theorem pickR_mem {us : List Tmp} {d : Tmp} {G : Fact} : ∀ {rs : Known}, (d, G) ∈ pickR us rs → (d, G) ∈ rs ∧ d ∈ us
  | (d', G') :: rs, h => by
    unfold pickR at h
    split at h
    · rename_i hc
      rcases List.mem_cons.1 h with h1 | h1
      · cases h1
        exact ⟨by simp, by simpa using hc⟩
      · exact ⟨List.mem_cons_of_mem _ (pickR_mem h1).1, (pickR_mem h1).2⟩
    · exact ⟨List.mem_cons_of_mem _ (pickR_mem h).1, (pickR_mem h).2⟩
theorem pickR_has {us : List Tmp} {d : Tmp} {G : Fact} (hd : d ∈ us) : ∀ {rs : Known}, (d, G) ∈ rs → (d, G) ∈ pickR us rs
  | (d', G') :: rs, h => by
    unfold pickR
    rcases List.mem_cons.1 h with h1 | h1
    · cases h1
      rw [if_pos (by simpa using hd)]
      simp
    · split
      · exact List.mem_cons_of_mem _ (pickR_has hd h1)
      · exact pickR_has hd h1

/-- the block that a slice or a pointer leads to -/
def ownB : Value → Option Nat
  | .slice (some a) _ _ => some a.block
  | .pointer (some a) => some a.block
  | _ => none
structure RelPost (fr : Bool) (d : Tmp) (df : List Deferred) (w : World) (G : Fact) (ex : Exit) (a' : Act) (w' : World) : Prop where
  own : fr = true → ∃ b, ownB (a'.tmps.getD d undef) = some b ∧ w.heap.size ≤ b ∧ b < w'.heap.size
  ex : ex = .normal
  df : a'.defers = df
  below : Below w.heap.size w w'
  fact : G (a'.tmps.getD d undef) w'

def wpRel (P : Program) (ops : Array Oper) (gs fs : List Tmp) (C : World → Prop) (Q : Act → Known → Prop) : List Oper → Act → Known → Prop
  | [], a, rs => Q a rs
  | o :: rest, a, rs =>
    if Region.wanted o (yielded ops a.tmps) then
      (∃ us : List Tmp, ∃ v, (∀ w, C w → fillR w (pickR us rs) a fun a' => o.quietAt P a' (fun w' => Below w.heap.size w w') w v) ∧ (gs.filter fun d => (o.looksAt ops).contains d) = us ∧ (o.dst.all fun d => !fs.contains d) = true ∧ wpRel P ops gs fs C Q rest (a.put o.dst v) rs) ∨
      (∃ us : List Tmp, ∃ d G, o.dst = some d ∧ gs.contains d = true ∧ Steady G ∧ (gs.filter fun d => (o.looksAt ops).contains d) = us ∧ (∀ w, C w → fillR w (pickR us rs) a fun a' => wpList P ops (RelPost (fs.contains d) d a'.defers w G) [o] a' w) ∧ wpRel P ops gs fs C Q rest a ((d, G) :: rs))
    else wpRel P ops gs fs C Q rest (a.put o.dst undef) rs

def guardOf (ops : Array Oper) (o : Oper) : Option Tmp := match o.guard with | none => none | some (g, _) => (ops[g]?).bind (·.dst)
def relB (ops : Array Oper) (gs : List Tmp) (n m : Nat) : Bool :=
  Region.noSelect ops && decide (m ≤ ops.size) &&
  (List.range ops.size).all fun i => match ops[i]? with
    | none => true
    | some oi =>
      oi.after.all (fun e => !Region.binds .any e || decide (e.on < i)) &&
      (match guardOf ops oi with | none => true | some t => !gs.contains t) &&
      (if i < m then decide (m = ops.size) || (List.range (m + 1)).any fun j => decide (i < j) && (match ops[j]? with | some oj => waitsOn oj i | none => false) else decide (i = m) || waitsOn oi (i - 1)) &&
      (match oi.dst with
      | none => true
      | some d => decide (d < n) && (List.range ops.size).all fun j => i == j || match ops[j]? with
        | none => true
        | some oj => oj.dst != some d && (!(oj.looksAt ops).contains d || (decide (i < j) && waitsOn oj i) || (decide (j < i) && waitsOn oi j)))

structure RelOk (ops : Array Oper) (gs : List Tmp) (n m : Nat) : Prop where
  le : m ≤ ops.size
  sel : ∀ (i : Nat) (o : Oper) cs b, ops[i]? = some o → o.op ≠ .select cs b
  low : ∀ i o j, ops[i]? = some o → waitsOn o j = true → j < i
  guard : ∀ (i : Nat) o t, ops[i]? = some o → guardOf ops o = some t → t ∉ gs
  pre : ∀ (i : Nat), i < m → m < ops.size → ∃ (j : Nat) (oj : Oper), i < j ∧ j ≤ m ∧ ops[j]? = some oj ∧ waitsOn oj i = true
  tail : ∀ (i : Nat) o, ops[i]? = some o → m < i → waitsOn o (i - 1) = true
  room : ∀ (i : Nat) o d, ops[i]? = some o → o.dst = some d → d < n
  lone : ∀ (i j : Nat) oi oj d, i ≠ j → ops[i]? = some oi → ops[j]? = some oj → oi.dst = some d → oj.dst ≠ some d
  read : ∀ (i j : Nat) oi oj d, i ≠ j → ops[i]? = some oi → ops[j]? = some oj → oi.dst = some d → d ∈ oj.looksAt ops → (i < j ∧ waitsOn oj i = true) ∨ (j < i ∧ waitsOn oi j = true)

theorem relOk_of {ops : Array Oper} {gs : List Tmp} {n m : Nat} (h : relB ops gs n m = true) : RelOk ops gs n m := by
  unfold relB at h
  rw [Bool.and_eq_true, Bool.and_eq_true] at h
  obtain ⟨⟨hs, hm⟩, h⟩ := h
  rw [List.all_eq_true] at h
  have lt : ∀ (i : Nat) o, ops[i]? = some o → i ∈ List.range ops.size := fun i o ho => by
    rw [List.mem_range]; exact (Array.getElem?_eq_some_iff.1 ho).1
  have H : ∀ (i : Nat) o, ops[i]? = some o → _ := fun i o ho => by
    have := h i (lt i o ho)
    rw [ho] at this
    simp only [Bool.and_eq_true] at this
    exact this
  refine ⟨by simpa using hm, fun i o cs b ho => Region.noSelect_spec hs i o cs b ho, ?_, ?_, ?_, ?_, ?_, ?_, ?_⟩
  · intro i o j ho hw
    obtain ⟨⟨⟨h1, _⟩, _⟩, _⟩ := H i o ho
    unfold waitsOn at hw
    rw [Array.any_eq_true] at hw
    obtain ⟨k, hk, he⟩ := hw
    rw [Bool.and_eq_true, beq_iff_eq] at he
    rw [Array.all_eq_true] at h1
    have := h1 k hk
    simp only [he.1, Bool.not_true, Bool.false_or, decide_eq_true_eq] at this
    omega
  · intro i o t ho hg
    obtain ⟨⟨⟨_, h1⟩, _⟩, _⟩ := H i o ho
    rw [hg] at h1
    simpa using h1
  · intro i hi hlt
    have hio : ops[i]? = some (ops[i]'(by omega)) := by simp
    obtain ⟨⟨⟨_, _⟩, h1⟩, _⟩ := H i _ hio
    rw [if_pos hi] at h1
    rw [Bool.or_eq_true] at h1
    rcases h1 with h1 | h1
    · have := of_decide_eq_true h1
      omega
    rw [List.any_eq_true] at h1
    obtain ⟨j, hj, h2⟩ := h1
    rw [List.mem_range] at hj
    rw [Bool.and_eq_true] at h2
    cases hoj : ops[j]? with
    | none => rw [hoj] at h2; cases h2.2
    | some oj =>
      rw [hoj] at h2
      exact ⟨j, oj, of_decide_eq_true h2.1, by omega, hoj, h2.2⟩
  · intro i o ho hi
    obtain ⟨⟨⟨_, _⟩, h1⟩, _⟩ := H i o ho
    rw [if_neg (by omega), Bool.or_eq_true] at h1
    rcases h1 with h1 | h1
    · have := of_decide_eq_true h1
      omega
    · exact h1
  · intro i o d ho hd
    obtain ⟨_, h1⟩ := H i o ho
    rw [hd] at h1
    simp only [Bool.and_eq_true, decide_eq_true_eq] at h1
    exact h1.1
  · intro i j oi oj d hij hi hj hd
    obtain ⟨_, h1⟩ := H i oi hi
    rw [hd] at h1
    simp only [Bool.and_eq_true, decide_eq_true_eq, List.all_eq_true] at h1
    have := h1.2 j (lt j oj hj)
    simp only [hj, Bool.or_eq_true, beq_iff_eq, hij, false_or, Bool.and_eq_true, bne_iff_ne, ne_eq] at this
    exact this.1
  · intro i j oi oj d hij hi hj hd hr
    obtain ⟨_, h1⟩ := H i oi hi
    rw [hd] at h1
    simp only [Bool.and_eq_true, decide_eq_true_eq, List.all_eq_true] at h1
    have := h1.2 j (lt j oj hj)
    simp only [hj, Bool.or_eq_true, beq_iff_eq, hij, false_or, Bool.and_eq_true, bne_iff_ne, ne_eq, decide_eq_true_eq] at this
    have h3 := this.2
    have hc : (oj.looksAt ops).contains d = true := by simpa using hr
    rw [hc] at h3
    simpa using h3

/-- a step of the lexical walk -/
def stepT (o : Oper) (x : Got) (s : Act × Known) : Act × Known := match x with
  | .val v => (s.1.put o.dst v, s.2)
  | .fact G => match o.dst with
    | some d => (s.1, (d, G) :: s.2)
    | none => s
def lexR : List Oper → (Nat → Got) → Act × Known → Nat → Act × Known
  | _, _, s, 0 => s
  | [], _, s, _ + 1 => s
  | o :: l, tr, s, j + 1 => lexR l (fun i => tr (i + 1)) (stepT o (tr 0) s) j
theorem lexR_succ : ∀ (l : List Oper) (tr : Nat → Got) (s : Act × Known) (j : Nat) (o : Oper), l[j]? = some o → lexR l tr s (j + 1) = stepT o (tr j) (lexR l tr s j)
  | [], _, _, _, _, h => by simp at h
  | o' :: l, tr, s, 0, o, h => by simp at h; subst h; simp [lexR]
  | o' :: l, tr, s, j + 1, o, h => by
    simp only [List.getElem?_cons_succ] at h
    show lexR l _ _ (j + 1) = stepT _ _ (lexR l _ _ j)
    exact lexR_succ l _ _ j o h

/-- what the walk has shown of an operation -/
def YieldR (P : Program) (ops : Array Oper) (gs fs : List Tmp) (C : World → Prop) (o : Oper) (s : Act × Known) (x : Got) : Prop :=
  if Region.wanted o (yielded ops s.1.tmps) then
    match x with
    | .val v => ∃ us : List Tmp, (gs.filter fun d => (o.looksAt ops).contains d) = us ∧ (o.dst.all fun d => !fs.contains d) = true ∧ ∀ w, C w → fillR w (pickR us s.2) s.1 fun a' => o.quietAt P a' (fun w' => Below w.heap.size w w') w v
    | .fact G => ∃ us : List Tmp, ∃ d, o.dst = some d ∧ gs.contains d = true ∧ Steady G ∧ (gs.filter fun d => (o.looksAt ops).contains d) = us ∧ ∀ w, C w → fillR w (pickR us s.2) s.1 fun a' => wpList P ops (RelPost (fs.contains d) d a'.defers w G) [o] a' w
  else x = .val undef

theorem YieldR.steady {P : Program} {ops : Array Oper} {gs fs : List Tmp} {C : World → Prop} {o : Oper} {s : Act × Known} {x : Got} (h : YieldR P ops gs fs C o s x) : x.steady := by
  unfold YieldR at h
  split at h
  · cases x with
    | val v => trivial
    | fact G => obtain ⟨_, _, _, _, h1, _⟩ := h; exact h1
  · rw [h]; trivial
theorem YieldR.named {P : Program} {ops : Array Oper} {gs fs : List Tmp} {C : World → Prop} {o : Oper} {s : Act × Known} {G : Fact} (h : YieldR P ops gs fs C o s (.fact G)) : ∃ d, o.dst = some d ∧ d ∈ gs := by
  unfold YieldR at h
  split at h
  · obtain ⟨_, d, h1, h2, _⟩ := h
    exact ⟨d, h1, by simpa using h2⟩
  · cases h

theorem wpRel_trace {P : Program} {ops : Array Oper} {gs fs : List Tmp} {C : World → Prop} {Q : Act → Known → Prop} : ∀ (l : List Oper) (a : Act) (rs : Known), wpRel P ops gs fs C Q l a rs →
    ∃ tr : Nat → Got, (∀ j o, l[j]? = some o → YieldR P ops gs fs C o (lexR l tr (a, rs) j) (tr j)) ∧ Q (lexR l tr (a, rs) l.length).1 (lexR l tr (a, rs) l.length).2
  | [], a, rs, h => ⟨fun _ => .val undef, fun j o ho => by simp at ho, h⟩
  | o :: l, a, rs, h => by
    unfold wpRel at h
    have : ∃ x, YieldR P ops gs fs C o (a, rs) x ∧ wpRel P ops gs fs C Q l (stepT o x (a, rs)).1 (stepT o x (a, rs)).2 := by
      unfold YieldR
      split at h
      · rename_i hw
        rcases h with ⟨us, v, h1, h2, h2', h3⟩ | ⟨us, d, G, h1, h2, h3, h4, h5, h6⟩
        · exact ⟨.val v, by simp only [hw, if_true]; exact ⟨us, h2, h2', h1⟩, h3⟩
        · refine ⟨.fact G, by simp only [hw, if_true]; exact ⟨us, d, h1, h2, h3, h4, h5⟩, ?_⟩
          simp only [stepT, h1]
          exact h6
      · rename_i hw
        exact ⟨.val undef, by simp [hw], h⟩
    obtain ⟨x, h1, h2⟩ := this
    obtain ⟨tr, h3, h4⟩ := wpRel_trace l _ _ h2
    refine ⟨fun | 0 => x | j + 1 => tr j, ?_, h4⟩
    intro j o' ho
    cases j with
    | zero => simp at ho; subst ho; exact h1
    | succ j => simp only [List.getElem?_cons_succ] at ho; exact h3 j o' ho

theorem stepT_size {o : Oper} {x : Got} {s : Act × Known} : (stepT o x s).1.tmps.size = s.1.tmps.size ∧ (stepT o x s).1.defers = s.1.defers := by
  cases x with
  | val v => exact ⟨put_size, put_defers⟩
  | fact G => unfold stepT; cases o.dst <;> exact ⟨rfl, rfl⟩
theorem lexR_size (l : List Oper) (tr : Nat → Got) (s : Act × Known) : ∀ j : Nat, j ≤ l.length → (lexR l tr s j).1.tmps.size = s.1.tmps.size ∧ (lexR l tr s j).1.defers = s.1.defers := by
  intro j
  induction j with
  | zero => intro _; simp [lexR]
  | succ j ih =>
    intro h
    rw [lexR_succ l tr s j l[j] (by simp), stepT_size.1, stepT_size.2]
    exact ih (by omega)
theorem stepT_ne {o : Oper} {x : Got} {s : Act × Known} {d : Tmp} (h : o.dst = some d → ∃ G, x = .fact G) : (stepT o x s).1.tmps[d]? = s.1.tmps[d]? := by
  cases x with
  | val v => exact put_getElem_ne fun e => by obtain ⟨G, hG⟩ := h e; cases hG
  | fact G => unfold stepT; cases o.dst <;> rfl
theorem lexR_old (l : List Oper) (tr : Nat → Got) (s : Act × Known) (d : Tmp) : ∀ j, j ≤ l.length → (∀ i o, i < j → l[i]? = some o → o.dst = some d → ∃ G, tr i = .fact G) → (lexR l tr s j).1.tmps[d]? = s.1.tmps[d]? := by
  intro j
  induction j with
  | zero => intro _ _; simp [lexR]
  | succ j ih =>
    intro h hn
    rw [lexR_succ l tr s j l[j] (by simp), stepT_ne (hn j l[j] (by omega) (by simp))]
    exact ih (by omega) fun i o hi ho => hn i o (by omega) ho
theorem lexR_new (l : List Oper) (tr : Nat → Got) (s : Act × Known) (d : Tmp) (i : Nat) (o : Oper) (v : Value) (hi : l[i]? = some o) (hd : o.dst = some d) (hv : tr i = .val v) (hsz : d < s.1.tmps.size)
    (hu : ∀ i' o', i' ≠ i → l[i']? = some o' → o'.dst ≠ some d) : ∀ j, j ≤ l.length → i < j → (lexR l tr s j).1.tmps[d]? = some v := by
  intro j
  induction j with
  | zero => intro _ h; omega
  | succ j ih =>
    intro h hij
    rw [lexR_succ l tr s j l[j] (by simp)]
    by_cases e : j = i
    · subst e
      have : l[j] = o := (List.getElem?_eq_some_iff.1 hi).2
      rw [this, hv]
      show ((lexR l tr s j).1.put o.dst v).tmps[d]? = _
      rw [hd]
      exact put_getElem_eq (by rw [(lexR_size l tr s j (by omega)).1]; exact hsz)
    · rw [stepT_ne fun hd' => absurd hd' (hu j l[j] e (by simp))]
      exact ih (by omega) (by omega)
theorem lexR_known (l : List Oper) (tr : Nat → Got) (a : Act) (d : Tmp) (G : Fact) : ∀ j, j ≤ l.length → ((d, G) ∈ (lexR l tr (a, []) j).2 ↔ ∃ i o, i < j ∧ l[i]? = some o ∧ o.dst = some d ∧ tr i = .fact G) := by
  intro j
  induction j with
  | zero => intro _; simp [lexR]
  | succ j ih =>
    intro h
    have ih := ih (by omega)
    rw [lexR_succ l tr (a, []) j l[j] (by simp)]
    constructor
    · intro hm
      unfold stepT at hm
      split at hm
      · obtain ⟨i, o, h1, h2⟩ := ih.1 hm
        exact ⟨i, o, by omega, h2⟩
      · rename_i G' hG
        split at hm
        · rename_i d' hd
          rcases List.mem_cons.1 hm with e | hm
          · cases e
            exact ⟨j, l[j], by omega, by simp, hd, hG⟩
          · obtain ⟨i, o, h1, h2⟩ := ih.1 hm
            exact ⟨i, o, by omega, h2⟩
        · obtain ⟨i, o, h1, h2⟩ := ih.1 hm
          exact ⟨i, o, by omega, h2⟩
    · rintro ⟨i, o, hij, hi, hd, hG⟩
      by_cases e : i = j
      · subst e
        have : l[i] = o := (List.getElem?_eq_some_iff.1 hi).2
        rw [this]
        unfold stepT
        rw [hG]
        simp only [hd]
        simp
      · have := ih.2 ⟨i, o, by omega, hi, hd, hG⟩
        unfold stepT
        split
        · exact this
        · split
          · exact List.mem_cons_of_mem _ this
          · exact this

/-- the frame with another one's values in these slots -/
def fillAs (b : Act) : Known → Act → Act
  | [], a => a
  | (d, _) :: rs, a => fillAs b rs (a.put (some d) (b.tmps.getD d undef))
theorem fillR_out {w : World} {K : Act → Prop} {b : Act} : ∀ (rs : Known) (a : Act), fillR w rs a K → (∀ d G, (d, G) ∈ rs → ∃ u, b.tmps[d]? = some u ∧ G u w) → K (fillAs b rs a)
  | [], a, h, _ => h
  | (d, G) :: rs, a, h, hb => by
    obtain ⟨u, h1, h2⟩ := hb d G (by simp)
    have h3 := h u h2
    show K (fillAs b rs (a.put (some d) (b.tmps.getD d undef)))
    have e : b.tmps.getD d undef = u := by rw [Array.getD_eq_getD_getElem?, h1]; rfl
    rw [e]
    exact fillR_out rs _ h3 fun d' G' h' => hb d' G' (List.mem_cons_of_mem _ h')
theorem fillAs_size (b : Act) : ∀ (rs : Known) (a : Act), (fillAs b rs a).tmps.size = a.tmps.size ∧ (fillAs b rs a).defers = a.defers
  | [], a => ⟨rfl, rfl⟩
  | (d, _) :: rs, a => by
    have := fillAs_size b rs (a.put (some d) (b.tmps.getD d undef))
    exact ⟨this.1.trans put_size, this.2.trans put_defers⟩
theorem fillAs_out (b : Act) {d : Tmp} : ∀ (rs : Known) (a : Act), (∀ G, (d, G) ∉ rs) → (fillAs b rs a).tmps[d]? = a.tmps[d]?
  | [], a, _ => rfl
  | (d', G') :: rs, a, h => by
    have := fillAs_out b rs (a.put (some d') (b.tmps.getD d' undef)) fun G hG => h G (List.mem_cons_of_mem _ hG)
    refine this.trans (put_getElem_ne fun e => ?_)
    cases e
    exact h G' (by simp)
theorem fillAs_in (b : Act) {d : Tmp} : ∀ (rs : Known) (a : Act) (G : Fact), (d, G) ∈ rs → d < a.tmps.size → d < b.tmps.size → (fillAs b rs a).tmps[d]? = b.tmps[d]?
  | (d', G') :: rs, a, G, h, ha, hb => by
    show (fillAs b rs (a.put (some d') (b.tmps.getD d' undef))).tmps[d]? = _
    by_cases hr : ∃ G2, (d, G2) ∈ rs
    · obtain ⟨G2, h2⟩ := hr
      exact fillAs_in b rs _ G2 h2 (by rw [put_size]; exact ha) hb
    · rcases List.mem_cons.1 h with e | h1
      · cases e
        rw [fillAs_out b rs _ fun G2 h2 => hr ⟨G2, h2⟩, put_getElem_eq ha, Array.getD_eq_getD_getElem?, Array.getElem?_eq_getElem hb]
        rfl
      · exact absurd ⟨G, h1⟩ hr

section
variable {P : Program} {l : List Oper} {gs fs : List Tmp} {a0 : Act} {w0 : World} {tr : Nat → Got} {m : Nat}

structure InvR (fs : List Tmp) (l : List Oper) (tr : Nat → Got) (m : Nat) (a0 : Act) (w0 : World) (L : Array Bool) (a : Act) (w : World) : Prop where
  hC : Below w0.heap.size w0 w
  hd : a.defers = a0.defers
  hs : a.tmps.size = a0.tmps.size
  hl : L.size = l.length
  hn : ∀ k, L.getD k false = true → k < m
  hv : ∀ k o d, L.getD k false = true → l[k]? = some o → o.dst = some d → ∃ u, a.tmps[d]? = some u ∧ (tr k).ok u w
  ho : ∀ d, (∀ k o, L.getD k false = true → l[k]? = some o → o.dst ≠ some d) → a.tmps[d]? = a0.tmps[d]?
  hc : ∀ k o i, L.getD k false = true → l[k]? = some o → waitsOn o i = true → L.getD i false = true
  hb : ∀ k o d u b, L.getD k false = true → l[k]? = some o → o.dst = some d → d ∈ fs → a.tmps[d]? = some u → ownB u = some b → b < w.heap.size
  hf : ∀ k k' o o' d d' u u' b b', k ≠ k' → L.getD k false = true → L.getD k' false = true → l[k]? = some o → l[k']? = some o' → o.dst = some d → o'.dst = some d' → d ∈ fs → d' ∈ fs → a.tmps[d]? = some u → a.tmps[d']? = some u' → ownB u = some b → ownB u' = some b' → b ≠ b'

theorem InvR.put {L : Array Bool} {a : Act} {w w' : World} (I : InvR fs l tr m a0 w0 L a w) (F : RelOk l.toArray gs a0.tmps.size m) {i : Nat} {o : Oper} (hi : l[i]? = some o) (him : i < m) (hst : ∀ k, k < m → (tr k).steady)
    (hwait : ∀ j, waitsOn o j = true → L.getD j false = true) {u : Value} (hb : Below w.heap.size w w') (hok : o.dst.isSome = true → (tr i).ok u w') (hown : ∀ d b, o.dst = some d → d ∈ fs → ownB u = some b → w.heap.size ≤ b ∧ b < w'.heap.size) :
    InvR fs l tr m a0 w0 (L.setIfInBounds i true) (a.put o.dst u) w' := by
  have hiL : i < L.size := by rw [I.hl]; exact (List.getElem?_eq_some_iff.1 hi).1
  have ha : ∀ {k o}, l[k]? = some o → l.toArray[k]? = some o := fun h => by rw [List.getElem?_toArray]; exact h
  refine ⟨I.hC.trans (hb.mono I.hC.size), by rw [put_defers]; exact I.hd, by rw [put_size]; exact I.hs, by simp [I.hl], ?_, ?_, ?_, ?_, ?_, ?_⟩
  · intro k hk
    rw [getD_set L i k hiL] at hk
    rcases hk with rfl | hk
    · exact him
    · exact I.hn k hk
  · intro k o' d hk ho' hd
    rw [getD_set L i k hiL] at hk
    by_cases e : k = i
    · subst e
      rw [hi] at ho'
      cases ho'
      rw [hd]
      exact ⟨u, put_getElem_eq (by rw [I.hs]; exact F.room k o d (ha hi) hd), hok (by rw [hd]; rfl)⟩
    · have hk' := hk.resolve_left e
      obtain ⟨x, h1, h2⟩ := I.hv k o' d hk' ho' hd
      exact ⟨x, by rw [put_getElem_ne (F.lone k i o' o d e (ha ho') (ha hi) hd)]; exact h1, Got.keep (hst k (I.hn k hk')) h2 hb⟩
  · intro d hn
    rw [put_getElem_ne (hn i o ((getD_set L i i hiL).2 (.inl rfl)) hi)]
    exact I.ho d fun k o' hk => hn k o' ((getD_set L i k hiL).2 (.inr hk))
  · intro k o' j hk ho' hw
    rw [getD_set L i k hiL] at hk
    refine (getD_set L i j hiL).2 (.inr ?_)
    by_cases e : k = i
    · subst e
      rw [hi] at ho'
      cases ho'
      exact hwait j hw
    · exact I.hc k o' j (hk.resolve_left e) ho' hw
  · intro k o' d u' b hk ho' hd hdf hu' hbb
    rw [getD_set L i k hiL] at hk
    by_cases e : k = i
    · subst e
      rw [hi] at ho'
      cases ho'
      rw [hd, put_getElem_eq (by rw [I.hs]; exact F.room k o d (ha hi) hd)] at hu'
      cases hu'
      exact (hown d b hd hdf hbb).2
    · rw [put_getElem_ne (F.lone k i o' o d e (ha ho') (ha hi) hd)] at hu'
      exact Nat.lt_of_lt_of_le (I.hb k o' d u' b (hk.resolve_left e) ho' hd hdf hu' hbb) hb.size
  · intro k k' o1 o2 d1 d2 u1 u2 b1 b2 hkk hk hk' ho1 ho2 hd1 hd2 hf1 hf2 hu1 hu2 hb1 hb2
    rw [getD_set L i k hiL] at hk
    rw [getD_set L i k' hiL] at hk'
    by_cases e : k = i
    · subst e
      have e' : k' ≠ k := Ne.symm hkk
      rw [hi] at ho1
      cases ho1
      rw [hd1, put_getElem_eq (by rw [I.hs]; exact F.room k o d1 (ha hi) hd1)] at hu1
      cases hu1
      have h1 := (hown d1 b1 hd1 hf1 hb1).1
      rw [put_getElem_ne (F.lone k' k o2 o d2 e' (ha ho2) (ha hi) hd2)] at hu2
      have h2 := I.hb k' o2 d2 u2 b2 (hk'.resolve_left e') ho2 hd2 hf2 hu2 hb2
      omega
    · rw [put_getElem_ne (F.lone k i o1 o d1 e (ha ho1) (ha hi) hd1)] at hu1
      by_cases e' : k' = i
      · subst e'
        rw [hi] at ho2
        cases ho2
        rw [hd2, put_getElem_eq (by rw [I.hs]; exact F.room k' o d2 (ha hi) hd2)] at hu2
        cases hu2
        have h1 := (hown d2 b2 hd2 hf2 hb2).1
        have h2 := I.hb k o1 d1 u1 b1 (hk.resolve_left e) ho1 hd1 hf1 hu1 hb1
        omega
      · rw [put_getElem_ne (F.lone k' i o2 o d2 e' (ha ho2) (ha hi) hd2)] at hu2
        exact I.hf k k' o1 o2 d1 d2 u1 u2 b1 b2 hkk (hk.resolve_left e) (hk'.resolve_left e') ho1 ho2 hd1 hd2 hf1 hf2 hu1 hu2 hb1 hb2
theorem exec_run {P : Program} {ops : Array Oper} {o : Oper} {a b : Act} (hs : ∀ cs b, o.op ≠ .select cs b) (h : ∀ d ∈ o.looksAt ops, a.tmps[d]? = b.tmps[d]?) (w : World) : (execOp a.eval o).run P w = (execOp b.eval o).run P w := by rw [exec_same hs h]

theorem rel_step {Q : Exit → Act → World → Prop} (F : RelOk l.toArray gs a0.tmps.size m) (hy : ∀ j o, j < m → l[j]? = some o → YieldR P l.toArray gs fs (fun w => Below w0.heap.size w0 w) o (lexR l tr (a0, []) j) (tr j))
    {L : Array Bool} {a : Act} {w : World} (I : InvR fs l tr m a0 w0 L a w) {i : Nat} (hi : i ∈ Region.ready .any l.toArray L) (him : i < m) :
    wpOp P l.toArray Q i (fun a' w' => InvR fs l tr m a0 w0 (L.setIfInBounds i true) a' w') a w := by
  obtain ⟨hun, o, hio, hall⟩ := mem_ready.1 hi
  have hi' : l[i]? = some o := by rw [List.getElem?_toArray] at hio; exact hio
  have hlen : i < l.length := (List.getElem?_eq_some_iff.1 hi').1
  have hml : m ≤ l.length := by have := F.le; simpa using this
  have ha : ∀ {k o}, l[k]? = some o → l.toArray[k]? = some o := fun h => by rw [List.getElem?_toArray]; exact h
  have hunf : ¬ L.getD i false = true := by
    simp only [Array.getD_eq_getD_getElem?] at hun ⊢
    cases h : L[i]? with
    | none => simp
    | some b => rw [h] at hun; simpa using hun
  have hwait : ∀ j, waitsOn o j = true → L.getD j false = true := fun j hw => by
    unfold waitsOn at hw
    rw [Array.any_eq_true] at hw
    obtain ⟨k, hk, he⟩ := hw
    rw [Bool.and_eq_true, beq_iff_eq] at he
    have := hall o.after[k] (by simp) he.1
    rwa [he.2] at this
  have hst : ∀ k, k < m → (tr k).steady := fun k hk => (hy k l[k] hk (by simp)).steady
  have writer : ∀ d ∈ o.looksAt l.toArray, ∀ j oj, j < i → l[j]? = some oj → oj.dst = some d → ∃ u, a.tmps[d]? = some u ∧ (tr j).ok u w := by
    intro d hd j oj hj hoj hdst
    have hL : L.getD j false = true := by
      rcases F.read j i oj o d (by omega) (ha hoj) hio hdst hd with h | h
      · exact hwait j h.2
      · omega
    exact I.hv j oj d hL hoj hdst
  have known := fun d G => lexR_known l tr a0 d G i (by omega)
  have hlexs := lexR_size l tr (a0, []) i (by omega)
  have hY := hy i o him hi'
  generalize hs : lexR l tr (a0, []) i = s at *
  have inGs : ∀ d G, (d, G) ∈ s.2 → d ∈ gs := fun d G h => by
    obtain ⟨j, oj, hj, hoj, hdst, hG⟩ := (known d G).1 h
    have h1 := hy j oj (by omega) hoj
    rw [hG] at h1
    obtain ⟨d', h2, h3⟩ := h1.named
    rw [hdst] at h2
    cases h2
    exact h3
  -- the frame that the walk had, with the true values in the slots of which it knew facts
  have inst : ∀ us : List Tmp, (gs.filter fun d => (o.looksAt l.toArray).contains d) = us → ∀ d G, (d, G) ∈ pickR us s.2 → ∃ u, a.tmps[d]? = some u ∧ G u w := by
    intro us hus d G hm
    obtain ⟨h1, h2⟩ := pickR_mem hm
    obtain ⟨j, oj, hj, hoj, hdst, hG⟩ := (known d G).1 h1
    have hl : d ∈ o.looksAt l.toArray := by
      rw [← hus] at h2
      simpa using (List.mem_filter.1 h2).2
    obtain ⟨u, h3, h4⟩ := writer d hl j oj hj hoj hdst
    rw [hG] at h4
    exact ⟨u, h3, h4⟩
  have plain : ∀ d ∈ o.looksAt l.toArray, (∀ G, (d, G) ∉ s.2) → a.tmps[d]? = s.1.tmps[d]? := by
    intro d hd hno
    by_cases hw : ∃ j oj, j < i ∧ l[j]? = some oj ∧ oj.dst = some d
    · obtain ⟨j, oj, hj, hoj, hdst⟩ := hw
      obtain ⟨u, h1, h2⟩ := writer d hd j oj hj hoj hdst
      cases hx : tr j with
      | fact G => exact absurd ((known d G).2 ⟨j, oj, hj, hoj, hdst, hx⟩) (hno G)
      | val v =>
        rw [hx] at h2
        have h3 := lexR_new l tr (a0, []) d j oj v hoj hdst hx (F.room j oj d (ha hoj) hdst) (fun i' o' hne ho' => F.lone j i' oj o' d (Ne.symm hne) (ha hoj) (ha ho') hdst) i (by omega) hj
        rw [hs] at h3
        rw [h1, h3, show u = v from h2]
    · have hno2 : ∀ j oj, j < i → l[j]? = some oj → oj.dst = some d → ∃ G, tr j = .fact G := fun j oj hj hoj hdst => absurd ⟨j, oj, hj, hoj, hdst⟩ hw
      have h3 := lexR_old l tr (a0, []) d i (by omega) hno2
      rw [hs] at h3
      rw [h3]
      refine I.ho d fun k ok hk hok hdst => ?_
      by_cases e : k = i
      · subst e; exact hunf hk
      · rcases F.read k i ok o d e (ha hok) hio hdst hd with h | h
        · exact hw ⟨k, ok, h.1, hok, hdst⟩
        · exact hunf (I.hc k ok i hk hok h.2)
  have same : ∀ us : List Tmp, (gs.filter fun d => (o.looksAt l.toArray).contains d) = us → ∀ d ∈ o.looksAt l.toArray, (fillAs a (pickR us s.2) s.1).tmps[d]? = a.tmps[d]? := by
    intro us hus d hd
    by_cases hk : ∃ G, (d, G) ∈ s.2
    · obtain ⟨G, hG⟩ := hk
      have hdu : d ∈ us := by
        rw [← hus]
        exact List.mem_filter.2 ⟨inGs d G hG, by simpa using hd⟩
      obtain ⟨j, oj, hj, hoj, hdst, hx⟩ := (known d G).1 hG
      have hr := F.room j oj d (ha hoj) hdst
      exact fillAs_in a _ _ G (pickR_has hdu hG) (by rw [hlexs.1]; exact hr) (by rw [I.hs]; exact hr)
    · rw [fillAs_out a _ _ fun G hG => hk ⟨G, (pickR_mem hG).1⟩]
      exact (plain d hd fun G hG => hk ⟨G, hG⟩).symm
  -- the guard is the same
  have hwan : Region.wanted o (yielded l.toArray a.tmps) = Region.wanted o (yielded l.toArray s.1.tmps) := by
    unfold Region.wanted
    cases hg : o.guard with
    | none => rfl
    | some gw =>
      obtain ⟨g, want⟩ := gw
      have : yielded l.toArray a.tmps g = yielded l.toArray s.1.tmps g := by
        unfold yielded
        cases ht : (l.toArray[g]?).bind (·.dst) with
        | none => rfl
        | some t =>
          have h1 : guardOf l.toArray o = some t := by unfold guardOf; rw [hg]; exact ht
          have h2 : a.tmps[t]? = s.1.tmps[t]? := plain t (List.mem_append_right _ (by rw [hg]; simpa using ht)) fun G hG => F.guard i o t hio h1 (inGs t G hG)
          simp only [Option.bind_some, h2]
      simp only [this]
  unfold YieldR at hY
  unfold wpOp
  simp only [hio]
  rw [hwan]
  by_cases hwn : Region.wanted o (yielded l.toArray s.1.tmps) = true
  · rw [if_pos hwn] at hY
    rw [if_pos hwn]
    refine .inl ?_
    unfold Oper.wp
    cases hx : tr i with
    | val v =>
      rw [hx] at hY
      obtain ⟨us, hus, hnf, h1⟩ := hY
      have noOwn : ∀ (u : Value) (w' : World) d b, o.dst = some d → d ∈ fs → ownB u = some b → w.heap.size ≤ b ∧ b < w'.heap.size := fun u w' d b hd hdf _ => by
        rw [hd] at hnf
        simp at hnf
        exact absurd hdf hnf
      have h3 := fillR_out _ _ (h1 w I.hC) (inst us hus)
      have hrun := exec_run (P := P) (F.sel i o · · hio) (same us hus) w
      unfold Oper.quietAt at h3
      rw [hrun] at h3
      generalize (execOp a.eval o).run P w = r at *
      cases r with
      | ok n w' =>
        cases n <;> simp only [Oper.quietUpon] at h3 <;> simp only [Oper.upon]
        case value u =>
          obtain ⟨e1, e2⟩ := h3
          subst e1 e2
          exact I.put F hi' him hst hwait (Below.refl _ _) (fun _ => by rw [hx]; exact rfl) (noOwn _ _)
        case skip =>
          obtain ⟨e1, e2⟩ := h3
          subst e1
          exact I.put F hi' him hst hwait (Below.refl _ _) (fun _ => by rw [hx]; exact e2.symm) (noOwn _ _)
        case enter f args =>
          obtain ⟨e1, hc⟩ := h3
          subst e1
          exact hc.mono fun e w'' ⟨he, hw''⟩ => by
            subst he
            exact I.put F hi' him hst hwait hw'' (fun _ => by rw [hx]; exact rfl) (noOwn _ _)
      | halt x w' => simp only [Oper.quietUpon] at h3
    | fact G =>
      rw [hx] at hY
      obtain ⟨us, d, hd, hdg, hG, hus, h1⟩ := hY
      have h3 := fillR_out _ _ (h1 w I.hC) (inst us hus)
      have hrun := exec_run (P := P) (F.sel i o · · hio) (same us hus) w
      have hwn' : Region.wanted o (yielded l.toArray (fillAs a (pickR us s.2) s.1).tmps) = true := by rw [wanted_same (same us hus), hwan, hwn]
      have hroom := F.room i o d hio hd
      have hsz : (fillAs a (pickR us s.2) s.1).tmps.size = a0.tmps.size := (fillAs_size a _ _).1.trans hlexs.1
      generalize fillAs a (pickR us s.2) s.1 = b at *
      have noLet : ∀ w, ¬ LetsOut (RelPost (fs.contains d) d b.defers w G) := fun w ⟨_, _, h⟩ => by have := h.ex; cases this
      have h4 : Oper.wp P o b w (wpList P l.toArray (RelPost (fs.contains d) d b.defers w G) []) (RelPost (fs.contains d) d b.defers w G) := by
        unfold wpList at h3
        rw [if_pos hwn'] at h3
        exact h3.resolve_right fun h => noLet _ h.2
      have fin : ∀ (u : Value) (w' : World), RelPost (fs.contains d) d b.defers w G .normal (b.put o.dst u) w' → InvR fs l tr m a0 w0 (L.setIfInBounds i true) (a.put o.dst u) w' := fun u w' h => by
        have hu : (b.put o.dst u).tmps.getD d undef = u := by
          rw [hd, Array.getD_eq_getD_getElem?, put_getElem_eq (by rw [hsz]; exact hroom)]
          rfl
        refine I.put F hi' him hst hwait h.below (fun _ => ?_) (fun d' b' hd' hdf hb' => ?_)
        · rw [hx]
          have := h.fact
          rw [hu] at this
          exact this
        · rw [hd] at hd'
          cases hd'
          obtain ⟨b2, h1, h2, h3⟩ := h.own (by simpa using hdf)
          rw [hu, hb'] at h1
          cases h1
          exact ⟨h2, h3⟩
      unfold Oper.wp at h4
      rw [hrun] at h4
      generalize (execOp a.eval o).run P w = r at *
      cases r with
      | ok n w' =>
        cases n <;> simp only [Oper.upon] at h4 ⊢
        case value u => exact fin u w' h4
        case skip => exact fin undef w' h4
        case defer df =>
          have := RelPost.df h4
          rw [put_defers] at this
          exact absurd (congrArg List.length this) (by simp)
        case enter f args =>
          refine h4.mono fun e w'' he => ?_
          cases e with
          | returned u => exact fin u w'' he
          | panicked c => exact absurd he.ex (by simp)
          | outgrown => exact absurd he (noLet _)
        case row row args => exact h4.mono fun u w'' he => fin u w'' he
      | halt x w' =>
        cases x <;> simp only [Oper.upon] at h4 ⊢
        exact absurd h4.ex (by simp)
  · rw [if_neg hwn] at hY
    rw [if_neg hwn]
    exact I.put F hi' him hst hwait (Below.refl _ _) (fun _ => by rw [hY]; exact rfl) (fun d b _ _ hb => by cases hb)

theorem ready_spec {L : Array Bool} {i : Nat} {o : Oper} (hio : l[i]? = some o) (hi : i ∈ Region.ready .any l.toArray L) : ∀ j, waitsOn o j = true → L.getD j false = true := by
  obtain ⟨_, o', hio', hall⟩ := mem_ready.1 hi
  rw [List.getElem?_toArray, hio] at hio'
  cases hio'
  intro j hw
  unfold waitsOn at hw
  rw [Array.any_eq_true] at hw
  obtain ⟨k, hk, he⟩ := hw
  rw [Bool.and_eq_true, beq_iff_eq] at he
  have := hall o.after[k] (by simp) he.1
  rwa [he.2] at this
theorem ready_not {L : Array Bool} {i : Nat} (hl : L.size = l.length) (hi : i ∈ Region.ready .any l.toArray L) : i < l.length ∧ L.getD i false = false := by
  obtain ⟨hun, o', hio', hall⟩ := mem_ready.1 hi
  have hlt : i < l.length := by have := (Array.getElem?_eq_some_iff.1 hio').1; simpa using this
  refine ⟨hlt, ?_⟩
  rw [Array.getD_eq_getD_getElem?, Array.getElem?_eq_getElem (by omega)] at hun ⊢
  simpa using hun
theorem ready_of {L : Array Bool} {i : Nat} {o : Oper} (hl : L.size = l.length) (hio : l[i]? = some o) (hf : L.getD i false = false) (h : ∀ j, waitsOn o j = true → L.getD j false = true) : i ∈ Region.ready .any l.toArray L := by
  have hlt := (List.getElem?_eq_some_iff.1 hio).1
  refine mem_ready.2 ⟨?_, o, by rw [List.getElem?_toArray]; exact hio, fun e he hb => h e.on ?_⟩
  · rw [Array.getD_eq_getD_getElem?, Array.getElem?_eq_getElem (by omega)] at hf ⊢
    simpa using hf
  · unfold waitsOn
    rw [Array.any_eq_true]
    obtain ⟨x, hx, he⟩ := Array.mem_iff_getElem.1 he
    exact ⟨x, hx, by rw [he, hb]; simp⟩
theorem count_set {L : Array Bool} {i : Nat} (hi : i < L.size) (hf : L.getD i false = false) {fuel : Nat} (hc : L.toList.countP (· == false) ≤ fuel + 1) : (L.setIfInBounds i true).toList.countP (· == false) ≤ fuel := by
  have hLi : L[i] = false := by
    rw [Array.getD_eq_getD_getElem?, Array.getElem?_eq_getElem hi] at hf
    simpa using hf
  have hp : 0 < L.toList.countP (· == false) := List.countP_pos_iff.2 ⟨false, by rw [← hLi]; simp, rfl⟩
  rw [Array.toList_setIfInBounds, List.countP_set (by simpa using hi)]
  have e1 : (L.toList[i]'(by simpa using hi)) = false := by simpa using hLi
  rw [e1]
  simp only [beq_self_eq_true, if_true, show (true == false) = false from rfl, Bool.false_eq_true, if_false]
  omega
theorem count_none {L : Array Bool} (hc : L.toList.countP (· == false) ≤ 0) : ∀ k, k < L.size → L.getD k false = true := by
  intro k hk
  cases hb : L.getD k false with
  | true => rfl
  | false =>
    have hLi : L[k] = false := by
      rw [Array.getD_eq_getD_getElem?, Array.getElem?_eq_getElem hk] at hb
      simpa using hb
    have hp : 0 < L.toList.countP (· == false) := List.countP_pos_iff.2 ⟨false, by rw [← hLi]; simp, rfl⟩
    omega

/-- the last operations, one behind the other -/
theorem rel_tail {Q : Exit → Act → World → Prop} (F : RelOk l.toArray gs a0.tmps.size m) : ∀ (n : Nat) (k : Nat), k + n = l.length → m ≤ k → ∀ (fuel : Nat) (L : Array Bool) (a : Act) (w : World), L.size = l.length → (∀ i, i < l.length → (L.getD i false = true ↔ i < k)) → n ≤ fuel →
    wpList P l.toArray Q (l.drop k) a w → wpAny P .any l.toArray Q fuel L a w := by
  intro n
  induction n with
  | zero =>
    intro k hk hm fuel L a w hL hLk _ h
    rw [List.drop_of_length_le (by omega)] at h
    have hr : Region.ready .any l.toArray L = [] := all_ready fun i hi => (hLk i hi).2 (by omega)
    cases fuel with
    | zero => exact ⟨hr, h⟩
    | succ fuel => exact ⟨fun _ => h, fun i hi => by rw [hr] at hi; cases hi⟩
  | succ n ih =>
    intro k hk hm fuel L a w hL hLk hf h
    obtain ⟨fuel, rfl⟩ : ∃ f, fuel = f + 1 := ⟨fuel - 1, by omega⟩
    have hkl : k < l.length := by omega
    have hko : l[k]? = some l[k] := by simp
    have hkr : k ∈ Region.ready .any l.toArray L := by
      refine ready_of hL hko ?_ fun j hj => ?_
      · have := hLk k hkl
        cases hb : L.getD k false with
        | false => rfl
        | true => exact absurd (this.1 hb) (by omega)
      · have hjk := F.low k l[k] j (by rw [List.getElem?_toArray]; exact hko) hj
        exact (hLk j (by omega)).2 hjk
    refine ⟨fun h0 => (List.not_mem_nil (h0 ▸ hkr)).elim, fun i hi => ?_⟩
    obtain ⟨hil, hin⟩ := ready_not hL hi
    have hik : i = k := by
      have h1 : ¬ i < k := fun h => by rw [(hLk i hil).2 h] at hin; cases hin
      by_cases e : i = k
      · exact e
      have hio : l[i]? = some l[i] := by simp
      have h2 := ready_spec hio hi (i - 1) (F.tail i l[i] (by rw [List.getElem?_toArray]; exact hio) (by omega))
      have := (hLk (i - 1) (by omega)).1 h2
      omega
    subst hik
    rw [List.drop_eq_getElem_cons hil] at h
    unfold wpList at h
    unfold wpOp
    have hio : l.toArray[i]? = some l[i] := by simp
    simp only [hio]
    have hnext : ∀ i', i' < l.length → ((L.setIfInBounds i true).getD i' false = true ↔ i' < i + 1) := fun i' hi' => by
      rw [getD_set L i i' (by omega)]
      have := hLk i' hi'
      constructor
      · rintro (rfl | h)
        · omega
        · have := this.1 h; omega
      · intro h
        by_cases e : i' = i
        · exact .inl e
        · exact .inr (this.2 (by omega))
    have hmono : ∀ a' w', wpList P l.toArray Q (l.drop (i + 1)) a' w' → wpAny P .any l.toArray Q fuel (L.setIfInBounds i true) a' w' := fun a' w' h' => ih (i + 1) (by omega) (by omega) fuel _ a' w' (by simp [hL]) hnext (by omega) h'
    split
    · rename_i hw
      rw [if_pos hw] at h
      exact h.imp (Oper.wp_mono hmono) id
    · rename_i hw
      rw [if_neg hw] at h
      exact hmono _ _ h

/-- new blocks are unlike -/
structure Unlike (fs : List Tmp) (a : Act) : Prop where
  ne : ∀ d d' u u' b b', d ∈ fs → d' ∈ fs → d ≠ d' → a.tmps[d]? = some u → a.tmps[d']? = some u' → ownB u = some b → ownB u' = some b' → b ≠ b'
theorem rel_done {K : Act → World → Prop} (hfs : ∀ d ∈ fs, ∃ k o, k < m ∧ l[k]? = some o ∧ o.dst = some d) (F : RelOk l.toArray gs a0.tmps.size m) (hy : ∀ j o, j < m → l[j]? = some o → YieldR P l.toArray gs fs (fun w => Below w0.heap.size w0 w) o (lexR l tr (a0, []) j) (tr j))
    (hQ : ∀ w, Below w0.heap.size w0 w → fillR w (lexR l tr (a0, []) m).2 (lexR l tr (a0, []) m).1 fun a => Unlike fs a → K a w)
    {L : Array Bool} {a : Act} {w : World} (I : InvR fs l tr m a0 w0 L a w) (hall : ∀ k, k < m → L.getD k false = true) : K a w := by
  have hml : m ≤ l.length := by have := F.le; simpa using this
  have ha : ∀ {k o}, l[k]? = some o → l.toArray[k]? = some o := fun h => by rw [List.getElem?_toArray]; exact h
  have known := fun d G => lexR_known l tr a0 d G m hml
  have hlexs := lexR_size l tr (a0, []) m hml
  have h := fillR_out (b := a) _ _ (hQ w I.hC) fun d G hm => by
    obtain ⟨j, oj, hj, hoj, hdst, hG⟩ := (known d G).1 hm
    obtain ⟨u, h1, h2⟩ := I.hv j oj d (hall j hj) hoj hdst
    rw [hG] at h2
    exact ⟨u, h1, h2⟩
  have he : fillAs a (lexR l tr (a0, []) m).2 (lexR l tr (a0, []) m).1 = a := by
    have h1 := fillAs_size a (lexR l tr (a0, []) m).2 (lexR l tr (a0, []) m).1
    have ht : ∀ d : Tmp, (fillAs a (lexR l tr (a0, []) m).2 (lexR l tr (a0, []) m).1).tmps[d]? = a.tmps[d]? := by
      intro d
      by_cases hk : ∃ G, (d, G) ∈ (lexR l tr (a0, []) m).2
      · obtain ⟨G, hG⟩ := hk
        obtain ⟨j, oj, hj, hoj, hdst, hx⟩ := (known d G).1 hG
        have hr := F.room j oj d (ha hoj) hdst
        exact fillAs_in a _ _ G hG (by rw [hlexs.1]; exact hr) (by rw [I.hs]; exact hr)
      · rw [fillAs_out a _ _ fun G hG => hk ⟨G, hG⟩]
        by_cases hw : ∃ j oj, j < m ∧ l[j]? = some oj ∧ oj.dst = some d
        · obtain ⟨j, oj, hj, hoj, hdst⟩ := hw
          obtain ⟨u, h2, h3⟩ := I.hv j oj d (hall j hj) hoj hdst
          cases hx : tr j with
          | fact G => exact absurd ⟨G, (known d G).2 ⟨j, oj, hj, hoj, hdst, hx⟩⟩ hk
          | val v =>
            rw [hx] at h3
            rw [lexR_new l tr (a0, []) d j oj v hoj hdst hx (F.room j oj d (ha hoj) hdst) (fun i' o' hne ho' => F.lone j i' oj o' d (Ne.symm hne) (ha hoj) (ha ho') hdst) m hml hj, h2, show u = v from h3]
        · rw [lexR_old l tr (a0, []) d m hml fun j oj hj hoj hdst => absurd (Exists.intro j (Exists.intro oj ⟨hj, hoj, hdst⟩)) hw]
          exact (I.ho d fun k ok hk hok hdst => hw ⟨k, ok, I.hn k hk, hok, hdst⟩).symm
    generalize fillAs a (lexR l tr (a0, []) m).2 (lexR l tr (a0, []) m).1 = b at *
    have hd : b.defers = a.defers := by rw [h1.2, hlexs.2, I.hd]
    obtain ⟨t, d⟩ := b
    obtain ⟨t', d'⟩ := a
    have e1 : t = t' := Array.ext_getElem? ht
    have e2 : d = d' := hd
    rw [e1, e2]
  rw [he] at h
  refine h ⟨fun d d' u u' b b' hd hd' hne hu hu' hb hb' => ?_⟩
  obtain ⟨k, o, hk, ho, hod⟩ := hfs d hd
  obtain ⟨k', o', hk', ho', hod'⟩ := hfs d' hd'
  refine I.hf k k' o o' d d' u u' b b' (fun e => hne ?_) (hall k hk) (hall k' hk') ho ho' hod hod' hd hd' hu hu' hb hb'
  subst e
  rw [ho] at ho'
  cases ho'
  rw [hod] at hod'
  cases hod'
  rfl

theorem rel_any {Q : Exit → Act → World → Prop} (hfs : ∀ d ∈ fs, ∃ k o, k < m ∧ l[k]? = some o ∧ o.dst = some d) (F : RelOk l.toArray gs a0.tmps.size m) (hy : ∀ j o, j < m → l[j]? = some o → YieldR P l.toArray gs fs (fun w => Below w0.heap.size w0 w) o (lexR l tr (a0, []) j) (tr j))
    (hQ : ∀ w, Below w0.heap.size w0 w → fillR w (lexR l tr (a0, []) m).2 (lexR l tr (a0, []) m).1 fun a => Unlike fs a → wpList P l.toArray Q (l.drop m) a w) :
    ∀ (fuel : Nat) (L : Array Bool) (a : Act) (w : World), InvR fs l tr m a0 w0 L a w → L.toList.countP (· == false) ≤ fuel → wpAny P .any l.toArray Q fuel L a w := by
  have hml : m ≤ l.length := by have := F.le; simpa using this
  have ha : ∀ {k o}, l[k]? = some o → l.toArray[k]? = some o := fun h => by rw [List.getElem?_toArray]; exact h
  have tailed : ∀ (fuel : Nat) (L : Array Bool) (a : Act) (w : World), InvR fs l tr m a0 w0 L a w → L.toList.countP (· == false) ≤ fuel → (∀ k, k < m → L.getD k false = true) → wpAny P .any l.toArray Q fuel L a w := by
    intro fuel L a w I hc hall
    have h := rel_done (K := fun a w => wpList P l.toArray Q (l.drop m) a w) hfs F hy hQ I hall
    have hiff : ∀ i, i < l.length → (L.getD i false = true ↔ i < m) := fun i hi => ⟨I.hn i, hall i⟩
    refine rel_tail F (l.length - m) m (by omega) (Nat.le_refl _) fuel L a w I.hl hiff ?_ h
    refine Nat.le_trans ?_ hc
    have h1 : ∀ (xs : List Bool) (m : Nat), (∀ i, i < xs.length → m ≤ i → xs[i]? = some false) → xs.length - m ≤ xs.countP (· == false) := by
      intro xs
      induction xs with
      | nil => intro m _; simp
      | cons x xs ih =>
        intro m h
        cases m with
        | zero =>
          have h0 := h 0 (by simp) (Nat.le_refl _)
          simp at h0
          have := ih 0 fun i hi _ => by have := h (i + 1) (by simpa using hi) (Nat.zero_le _); simpa using this
          subst h0
          simp only [List.length_cons, List.countP_cons, beq_self_eq_true, if_true]
          omega
        | succ m =>
          have := ih m fun i hi hm => by have := h (i + 1) (by simpa using hi) (by omega); simpa using this
          simp only [List.length_cons, List.countP_cons]
          omega
    have h2 := h1 L.toList m fun i hi hm => by
      have hiL : i < L.size := by simpa using hi
      have hb : L.getD i false = false := by
        cases hb : L.getD i false with
        | false => rfl
        | true => have := I.hn i hb; omega
      rw [Array.getD_eq_getD_getElem?, Array.getElem?_eq_getElem hiL] at hb
      rw [Array.getElem?_toList, Array.getElem?_eq_getElem hiL]
      simpa using hb
    rwa [Array.length_toList, I.hl] at h2
  intro fuel
  induction fuel with
  | zero =>
    intro L a w I hc
    exact tailed 0 L a w I hc fun k hk => count_none hc k (by rw [I.hl]; omega)
  | succ fuel ih =>
    intro L a w I hc
    by_cases hdone : ∀ k, k < m → L.getD k false = true
    · exact tailed _ L a w I hc hdone
    -- what is ready belongs to those walked
    have early : ∀ i, i ∈ Region.ready .any l.toArray L → i < m := by
      intro i hi
      obtain ⟨hil, hin⟩ := ready_not I.hl hi
      have hio : l[i]? = some l[i] := by simp
      have spec := ready_spec hio hi
      by_cases h1 : m < i
      · have h2 := spec (i - 1) (F.tail i l[i] (ha hio) h1)
        have := I.hn _ h2
        omega
      by_cases h2 : i = m
      · exfalso
        apply hdone
        have H : ∀ n k, k + n = m → k < m → L.getD k false = true := by
          intro n
          induction n using Nat.strongRecOn with
          | ind n ihn =>
            intro k hk hkm
            obtain ⟨j, oj, hkj, hjm, hoj, hw⟩ := F.pre k hkm (by simp; omega)
            have hoj' : l[j]? = some oj := by rw [List.getElem?_toArray] at hoj; exact hoj
            by_cases e : j = m
            · rw [e, ← h2, hio] at hoj'
              cases hoj'
              exact spec k hw
            · exact I.hc j oj k (ihn (m - j) (by omega) j (by omega) (by omega)) hoj' hw
        exact fun k hk => H (m - k) k (by omega) hk
      · omega
    refine ⟨fun hr => ?_, fun i hi => ?_⟩
    · exfalso
      apply hdone
      intro k
      induction k using Nat.strongRecOn with
      | ind k ihk =>
        intro hk
        cases hb : L.getD k false with
        | true => rfl
        | false =>
          have hko : l[k]? = some (l[k]'(by omega)) := by simp
          have := ready_of I.hl hko hb fun j hj => by
            have hlow := F.low k _ j (ha hko) hj
            exact ihk j hlow (by omega)
          rw [hr] at this
          cases this
    · obtain ⟨hil, hin⟩ := ready_not I.hl hi
      exact wpOp_mono (fun a' w' I' => ih _ a' w' I' (count_set (by rw [I.hl]; exact hil) hin hc)) (rel_step F hy I hi (early i hi))
end

/-- ONE WALK OF THE LEXICAL ORDER SERVES EVERY ORDER; the last operations as they come. -/
theorem wp_region_rel {P : Program} {id : Nat} {Q : Exit → Act → World → Prop} {a : Act} {w : World} {pre post : List Oper} (gs fs : List Tmp) (hfs : (fs.all fun d => pre.any fun o => o.dst == some d) = true) (hm : P.follows .mixedOrders = true) (hB : relB (pre ++ post).toArray gs a.tmps.size pre.length = true)
    (h : wpRel P (pre ++ post).toArray gs fs (fun w' => ∃ p : In w, w' = p.w) (fun a' rs => ∀ w', (∃ p : In w, w' = p.w) → fillR w' rs a' fun a'' => Unlike fs a'' → wpList P (pre ++ post).toArray Q post a'' w') pre a []) :
    (Code.region id (pre ++ post).toArray true).wp P Q a w := by
  have hCC : (fun w' => ∃ p : In w, w' = p.w) = fun w' => Below w.heap.size w w' :=
    funext fun w' => propext ⟨fun ⟨p, hp⟩ => hp ▸ p.h, fun h => ⟨⟨w', h⟩, rfl⟩⟩
  have hCC' : ∀ w', (∃ p : In w, w' = p.w) = Below w.heap.size w w' := fun w' => congrFun hCC w'
  simp only [hCC'] at h
  obtain ⟨tr, h1, h2⟩ := wpRel_trace pre a [] h
  have lexTake : ∀ (l : List Oper) (post : List Oper) (tr : Nat → Got) (s : Act × Known) (j : Nat), j ≤ l.length → lexR l tr s j = lexR (l ++ post) tr s j := by
    intro l
    induction l with
    | nil =>
      intro post tr s j hj
      have : j = 0 := by simpa using hj
      subst this
      cases post <;> rfl
    | cons o l ih =>
      intro post tr s j hj
      cases j with
      | zero => simp [lexR]
      | succ j =>
        simp only [List.cons_append, lexR]
        exact ih _ _ _ j (by simpa using hj)
  refine wp_region_any hm ?_
  rw [show (pre ++ post).toArray.size = (pre ++ post).length by simp]
  rw [lexTake pre post _ _ _ (Nat.le_refl _)] at h2
  refine rel_any (fs := fs) (w0 := w) (tr := tr) (m := pre.length) ?_ (relOk_of hB) (fun j o hj ho => ?_) ?_ (pre ++ post).length _ a _ ⟨⟨rfl, rfl, rfl, Nat.le_refl _, fun _ _ => rfl⟩, rfl, rfl, by simp, ?_, ?_, fun _ _ => rfl, ?_, ?_, ?_⟩ ?_
  · intro d hd
    rw [List.all_eq_true] at hfs
    have h1 := hfs d hd
    rw [List.any_eq_true] at h1
    obtain ⟨o, ho, hod⟩ := h1
    obtain ⟨k, hk, rfl⟩ := List.mem_iff_getElem.1 ho
    exact ⟨k, pre[k], hk, by rw [List.getElem?_append_left hk]; simp, by simpa using hod⟩
  · rw [← lexTake pre post _ _ _ (Nat.le_of_lt hj)]
    exact h1 j o (by rwa [List.getElem?_append_left hj] at ho)
  · rw [show (pre ++ post).drop pre.length = post by simp]
    exact h2
  · intro k hk; exfalso; simp [Array.getD] at hk
  · intro k o d hk; exfalso; simp [Array.getD] at hk
  · intro k o i hk; exfalso; simp [Array.getD] at hk
  · intro k o d u b hk; exfalso; simp [Array.getD] at hk
  · intro k k' o o' d d' u u' b b' _ hk; exfalso; simp [Array.getD] at hk
  · simp [List.countP_replicate]


theorem wp_region_rel_at {P : Program} {id : Nat} {Q : Exit → Act → World → Prop} {a : Act} {w : World} {l : List Oper} (m : Nat) (gs fs : List Tmp) (hfs : (fs.all fun d => (l.take m).any fun o => o.dst == some d) = true) (hm : P.follows .mixedOrders = true) (hB : relB l.toArray gs a.tmps.size (l.take m).length = true)
    (h : wpRel P l.toArray gs fs (fun w' => ∃ p : In w, w' = p.w) (fun a' rs => ∀ p : In w, fillR p.w rs a' fun a'' => Unlike fs a'' → wpList P l.toArray Q (l.drop m) a'' p.w) (l.take m) a []) :
    (Code.region id l.toArray true).wp P Q a w := by
  have he : l.take m ++ l.drop m = l := List.take_append_drop m l
  have h1 := wp_region_rel (P := P) (id := id) (Q := Q) (a := a) (w := w) (pre := l.take m) (post := l.drop m) gs fs hfs hm (by rw [he]; exact hB)
  rw [he] at h1
  refine h1 ?_
  have hp : (fun a' rs => ∀ p : In w, fillR p.w rs a' fun a'' => Unlike fs a'' → wpList P l.toArray Q (l.drop m) a'' p.w) = fun (a' : Act) (rs : Known) => ∀ w', (∃ p : In w, w' = p.w) → fillR w' rs a' fun a'' => Unlike fs a'' → wpList P l.toArray Q (l.drop m) a'' w' := by
    funext a' rs
    exact propext ⟨fun h w' ⟨p, hp⟩ => hp ▸ h p, fun h p => h p.w ⟨p, rfl⟩⟩
  rw [hp] at h
  exact h

section
variable {P : Program} {ops : Array Oper} {gs fs : List Tmp} {w0 : World} {Q : Act → Known → Prop} {o : Oper} {rest : List Oper} {a : Act} {rs : Known}
theorem wpRel_nil (h : Q a rs) : wpRel P ops gs fs (fun w' => ∃ p : In w0, w' = p.w) Q [] a rs := h
/-- an operation that looks at no slot of which only a fact is known -/
theorem wpRel_none (hnf : (o.dst.all fun d => !fs.contains d) = true) (hus : (gs.filter fun d => (o.looksAt ops).contains d) = [])
    (h : ∀ K : Act → Prop, (∀ a', wpRel P ops gs fs (fun w' => ∃ p : In w0, w' = p.w) Q rest a' rs → K a') → if Region.wanted o (yielded ops a.tmps) then ∃ v, (∀ p : In w0, o.quietAt P a (fun w' => Below p.w.heap.size p.w w') p.w v) ∧ K (a.put o.dst v) else K (a.put o.dst undef)) :
    wpRel P ops gs fs (fun w' => ∃ p : In w0, w' = p.w) Q (o :: rest) a rs := by
  have h := h _ fun _ h => h
  unfold wpRel
  split
  · rename_i hw
    rw [if_pos hw] at h
    obtain ⟨v, h1, h2⟩ := h
    refine .inl ⟨[], v, fun w ⟨p, hp⟩ => ?_, hus, hnf, h2⟩
    subst hp
    rw [pickR_nil]
    exact h1 p
  · rename_i hw
    rw [if_neg hw] at h
    exact h
/-- .. one that does -/
theorem wpRel_val (us : List Tmp) (hnf : (o.dst.all fun d => !fs.contains d) = true) (hus : (gs.filter fun d => (o.looksAt ops).contains d) = us)
    (h : ∀ K : Act → Prop, (∀ a', wpRel P ops gs fs (fun w' => ∃ p : In w0, w' = p.w) Q rest a' rs → K a') → if Region.wanted o (yielded ops a.tmps) then ∃ v, (∀ p : In w0, fillR p.w (pickR us rs) a fun a' => o.quietAt P a' (fun w' => Below p.w.heap.size p.w w') p.w v) ∧ K (a.put o.dst v) else K (a.put o.dst undef)) :
    wpRel P ops gs fs (fun w' => ∃ p : In w0, w' = p.w) Q (o :: rest) a rs := by
  have h := h _ fun _ h => h
  unfold wpRel
  split
  · rename_i hw
    rw [if_pos hw] at h
    obtain ⟨v, h1, h2⟩ := h
    refine .inl ⟨us, v, fun w ⟨p, hp⟩ => ?_, hus, hnf, h2⟩
    subst hp
    exact h1 p
  · rename_i hw
    rw [if_neg hw] at h
    exact h
/-- one of which only a fact is kept -/
theorem wpRel_fact (us : List Tmp) (d : Tmp) (G : Fact) (hus : (gs.filter fun d => (o.looksAt ops).contains d) = us) (hd : o.dst = some d) (hg : gs.contains d = true) (hG : Steady G)
    (hw : Region.wanted o (yielded ops a.tmps) = true) (h : ∀ p : In w0, fillR p.w (pickR us rs) a fun a' => wpList P ops (RelPost (fs.contains d) d a'.defers p.w G) [o] a' p.w)
    (hn : wpRel P ops gs fs (fun w' => ∃ p : In w0, w' = p.w) Q rest a ((d, G) :: rs)) :
    wpRel P ops gs fs (fun w' => ∃ p : In w0, w' = p.w) Q (o :: rest) a rs := by
  unfold wpRel
  rw [if_pos hw]
  exact .inr ⟨us, d, G, hd, hg, hG, hus, fun w ⟨p, hp⟩ => hp ▸ h p, hn⟩
end
/-- a row that was laid in the region -/
def RowAt (base : Nat) (cs : Array Value) (T : TypeId) (n : Nat) : Fact := fun u w => ∃ b, base ≤ b ∧ u = .slice (some ⟨b, 0, none⟩) n n ∧ w.heap[b]? = some (.cells cs T)
theorem RowAt.steady (base : Nat) (cs : Array Value) (T : TypeId) (n : Nat) : Steady (RowAt base cs T n) :=
  ⟨fun u w w' ⟨b, h0, h1, h2⟩ hb => ⟨b, h0, h1, by rw [hb.block b (Array.getElem?_eq_some_iff.1 h2).1]; exact h2⟩⟩
/-- a variable that was laid in the region -/
def VarAt (base : Nat) (cs : Array Value) (T : TypeId) : Fact := fun u w => ∃ b, base ≤ b ∧ u = .pointer (some ⟨b, 0, none⟩) ∧ w.heap[b]? = some (.cells cs T)
theorem VarAt.steady (base : Nat) (cs : Array Value) (T : TypeId) : Steady (VarAt base cs T) :=
  ⟨fun u w w' ⟨b, h0, h1, h2⟩ hb => ⟨b, h0, h1, by rw [hb.block b (Array.getElem?_eq_some_iff.1 h2).1]; exact h2⟩⟩
theorem row_post {fr : Bool} {d : Tmp} {w : World} {cs : Array Value} {T : TypeId} {n base : Nat} {a : Act} {df : List Deferred} (hb : base ≤ w.heap.size) (hd : a.defers = df) (hu : a.tmps.getD d undef = .slice (some ⟨w.heap.size, 0, none⟩) n n) :
    RelPost fr d df w (RowAt base cs T n) .normal a (w.alloc (.cells cs T)) :=
  ⟨fun _ => ⟨w.heap.size, by rw [hu]; rfl, Nat.le_refl _, by simp⟩, rfl, hd, (Below.refl _ _).alloc (Nat.le_refl _) _, ⟨w.heap.size, hb, hu, by show (w.heap.push _)[w.heap.size]? = _; simp⟩⟩
theorem var_post {fr : Bool} {d : Tmp} {w : World} {cs : Array Value} {T : TypeId} {base : Nat} {a : Act} {df : List Deferred} (hb : base ≤ w.heap.size) (hd : a.defers = df) (hu : a.tmps.getD d undef = .pointer (some ⟨w.heap.size, 0, none⟩)) :
    RelPost fr d df w (VarAt base cs T) .normal a (w.alloc (.cells cs T)) :=
  ⟨fun _ => ⟨w.heap.size, by rw [hu]; rfl, Nat.le_refl _, by simp⟩, rfl, hd, (Below.refl _ _).alloc (Nat.le_refl _) _, ⟨w.heap.size, hb, hu, by show (w.heap.push _)[w.heap.size]? = _; simp⟩⟩
theorem alloc_here (w : World) (o : Obj) : (w.alloc o).heap[w.heap.size]? = some o := by show (w.heap.push _)[w.heap.size]? = _; simp
theorem alloc_past {w : World} {b : Nat} {x : Obj} (o : Obj) (h : w.heap[b]? = some x) : (w.alloc o).heap[b]? = some x := by rw [Below.heap_alloc _ _ _ (Array.getElem?_eq_some_iff.1 h).1]; exact h
theorem alloc_grows (w : World) (o : Obj) {n : Nat} (h : w.heap.size = n) : (w.alloc o).heap.size = n + 1 := by simp [h]
theorem cell_of {w : World} {b : Nat} {cs : Array Value} {T : TypeId} (h : w.heap[b]? = some (.cells cs T)) (j : Nat) : w.cell? ⟨b, j, none⟩ = cs[j]? := (held_of h).cell j
theorem frozen_of {w : World} {b : Nat} {cs : Array Value} {T : TypeId} (h : w.heap[b]? = some (.cells cs T)) (j : Nat) : w.frozen? ⟨b, j, none⟩ = false := (held_of h).frozen j
/-- from a block on all is as it was -/
structure Above (B : Nat) (w w' : World) : Prop where
  size : w.heap.size ≤ w'.heap.size
  block : ∀ k, B ≤ k → k < w.heap.size → w'.heap[k]? = w.heap[k]?
theorem Above.refl (B : Nat) (w : World) : Above B w w := ⟨Nat.le_refl _, fun _ _ _ => rfl⟩
theorem above_set {B : Nat} {w v : World} (h : Above B w v) {b : Nat} (k : Nat) (hb : b < B) (u : Value) : Above B w (v.setCell ⟨b, k, none⟩ u) :=
  ⟨by simpa [World.setCell] using h.size, fun j hj hl => by rw [Below.heap_setCell _ _ _ _ (by show j ≠ b; omega)]; exact h.block j hj hl⟩
theorem own_above {w w' : World} {base T sz n : Nat} {v : Value} {xs : List Value} (h : w.ownsRow base T sz v n xs) (ha : Above base w w') : w'.ownsRow base T sz v n xs := by
  refine ⟨h.1, ?_⟩
  rcases h.2 with ⟨hv, hn⟩ | ⟨g, cap, cur, hv, hb, hc, hn, hm, hs, ht⟩
  · exact .inl ⟨hv, hn⟩
  · exact .inr ⟨g, cap, cur, hv, hb, by rw [ha.block g hb (Array.getElem?_eq_some_iff.1 hc).1]; exact hc, hn, hm, hs, ht⟩
end Go.Proofs.Ytipjelkdbbhcpaa
