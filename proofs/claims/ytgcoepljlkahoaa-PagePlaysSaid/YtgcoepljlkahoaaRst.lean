
/-
  A region that draws its order, whose last operations are stores, each into a block that the region itself has laid: a store may come ahead of operations that neither look at that block nor wait for it.
  What each operation gives is said by a fact (Rel); such a fact must stand over a store into another new block that was still as it was laid.
-/
import Derived.Test.YtgcoepljlkahoaaRel
set_option linter.unusedSimpArgs false
set_option linter.unusedVariables false
namespace Go.Proofs.Ytgcoepljlkahoaa
open Go.RowKit

/-- nothing but one block has turned -/
structure Only (b : Nat) (w w' : World) : Prop where
  os : w'.os = w.os
  tape : w'.tape = w.tape
  output : w'.output = w.output
  size : w'.heap.size = w.heap.size
  block : ∀ k, k ≠ b → w'.heap[k]? = w.heap[k]?
theorem Only.refl (b : Nat) (w : World) : Only b w w := ⟨rfl, rfl, rfl, rfl, fun _ _ => rfl⟩
theorem Only.set {b : Nat} {w v : World} (h : Only b w v) (k : Nat) (u : Value) : Only b w (v.setCell ⟨b, k, none⟩ u) :=
  ⟨h.os, h.tape, h.output, by rw [← h.size]; simp [World.setCell], fun j hj => by rw [Below.heap_setCell _ _ _ _ (by show j ≠ b; exact hj)]; exact h.block j hj⟩
theorem Only.below {b B : Nat} {w w' : World} (h : Only b w w') (hB : B ≤ b) : Below B w w' :=
  ⟨h.os, h.tape, h.output, Nat.le_of_eq h.size.symm, fun k hk => h.block k (by omega)⟩

/-- what stands over a store into another new block -/
def Tough (own : Bool) (o0 : Obj) (G : Fact) : Prop := ∀ u w w' b, G u w → w.heap[b]? = some o0 → (own = true → ownB u ≠ some b) → Only b w w' → G u w'
structure StorePost (o0 : Obj) (B : Nat) (d : Tmp) (a : Act) (w : World) (F : Fact) (ex : Exit) (a' : Act) (w' : World) : Prop where
  ex : ex = .normal
  blk : ∃ b, ownB (a.tmps.getD d undef) = some b ∧ B ≤ b ∧ w.heap[b]? = some o0 ∧ Only b w w'
  fact : F (a.tmps.getD d undef) w'

theorem nodup_at : ∀ {xs : List Nat} (_ : xs.Nodup) {i j x : Nat}, xs[i]? = some x → xs[j]? = some x → i = j
  | [], _, i, j, x, hi, _ => by simp at hi
  | y :: ys, h, 0, 0, x, _, _ => rfl
  | y :: ys, h, 0, j + 1, x, hi, hj => by
    simp at hi hj
    subst hi
    exact absurd (List.mem_of_getElem? hj) (List.nodup_cons.1 h).1
  | y :: ys, h, i + 1, 0, x, hi, hj => by
    simp at hi hj
    subst hj
    exact absurd (List.mem_of_getElem? hi) (List.nodup_cons.1 h).1
  | y :: ys, h, i + 1, j + 1, x, hi, hj => by
    simp only [List.getElem?_cons_succ] at hi hj
    rw [nodup_at (List.nodup_cons.1 h).2 hi hj]
theorem run_store_skip {P : Program} {s : Sem Unit} {n : Next} {w w1 : World} (h : (do s; pure .skip : Sem Next).run P w = .ok n w1) : n = .skip := by
  rw [Sem.run_bind] at h
  cases hs : s.run P w with
  | ok x w' =>
    rw [hs] at h
    cases h
    rfl
  | halt x w' => rw [hs] at h; cases h

def rstB (ops : Array Oper) (gs fs : List Tmp) (n m : Nat) (ts : List Tmp) : Bool :=
  Region.noSelect ops && decide (ops.size = m + ts.length) && decide ts.Nodup && (ts.all fs.contains) &&
  (List.range ops.size).all fun i => match ops[i]? with
    | none => true
    | some oi =>
      oi.after.all (fun e => !Region.binds .any e || decide (e.on < i)) &&
      (match guardOf ops oi with | none => true | some t => !gs.contains t) &&
      (if i < m then ts.all fun t => !(oi.looksAt ops).contains t
       else oi.dst.isNone && oi.guard.isNone && (match ts[i - m]? with
        | none => false
        | some t => (ts.all fun t' => t' == t || !(oi.looksAt ops).contains t') && (oi.looksAt ops).contains t && (List.range m).any fun k => waitsOn oi k && (match ops[k]? with | some ok => ok.dst == some t && ok.guard.isNone | none => false))) &&
      (match oi.dst with
      | none => true
      | some d => decide (d < n) && (List.range ops.size).all fun j => i == j || match ops[j]? with
        | none => true
        | some oj => oj.dst != some d && (!(oj.looksAt ops).contains d || (decide (i < j) && waitsOn oj i) || (decide (j < i) && waitsOn oi j)))

structure RstOk (ops : Array Oper) (gs fs : List Tmp) (n m : Nat) (ts : List Tmp) : Prop where
  size : ops.size = m + ts.length
  nodup : ts.Nodup
  fresh : ∀ t ∈ ts, t ∈ fs
  sel : ∀ (i : Nat) (o : Oper) cs b, ops[i]? = some o → o.op ≠ .select cs b
  low : ∀ i o j, ops[i]? = some o → waitsOn o j = true → j < i
  guard : ∀ (i : Nat) o t, ops[i]? = some o → guardOf ops o = some t → t ∉ gs
  pre : ∀ (i : Nat) o, ops[i]? = some o → i < m → ∀ t ∈ ts, t ∉ o.looksAt ops
  sdst : ∀ (i : Nat) o, ops[i]? = some o → m ≤ i → o.dst = none ∧ o.guard = none
  own : ∀ (j : Nat) o t, ops[m + j]? = some o → ts[j]? = some t → (∀ t' ∈ ts, t' ∈ o.looksAt ops → t' = t) ∧ t ∈ o.looksAt ops ∧ ∃ (k : Nat) (ok : Oper), k < m ∧ waitsOn o k = true ∧ ops[k]? = some ok ∧ ok.dst = some t ∧ ok.guard = none
  room : ∀ (i : Nat) o d, ops[i]? = some o → o.dst = some d → d < n
  lone : ∀ (i j : Nat) oi oj d, i ≠ j → ops[i]? = some oi → ops[j]? = some oj → oi.dst = some d → oj.dst ≠ some d
  read : ∀ (i j : Nat) oi oj d, i ≠ j → ops[i]? = some oi → ops[j]? = some oj → oi.dst = some d → d ∈ oj.looksAt ops → (i < j ∧ waitsOn oj i = true) ∨ (j < i ∧ waitsOn oi j = true)

theorem rstOk_of {ops : Array Oper} {gs fs : List Tmp} {n m : Nat} {ts : List Tmp} (h : rstB ops gs fs n m ts = true) : RstOk ops gs fs n m ts := by
  unfold rstB at h
  rw [Bool.and_eq_true, Bool.and_eq_true, Bool.and_eq_true, Bool.and_eq_true] at h
  obtain ⟨⟨⟨⟨hs, hm⟩, hnd⟩, hfr⟩, h⟩ := h
  rw [List.all_eq_true] at h
  have lt : ∀ (i : Nat) o, ops[i]? = some o → i ∈ List.range ops.size := fun i o ho => by
    rw [List.mem_range]; exact (Array.getElem?_eq_some_iff.1 ho).1
  have H : ∀ (i : Nat) o, ops[i]? = some o → _ := fun i o ho => by
    have := h i (lt i o ho)
    rw [ho] at this
    simp only [Bool.and_eq_true] at this
    exact this
  refine ⟨by simpa using hm, by simpa using hnd, fun t ht => ?_, fun i o cs b ho => Region.noSelect_spec hs i o cs b ho, ?_, ?_, ?_, ?_, ?_, ?_, ?_, ?_⟩
  · rw [List.all_eq_true] at hfr
    have := hfr t ht
    simpa using this
  · intro i o j ho hw
    obtain ⟨⟨⟨h1, _⟩, _⟩, _⟩ := H i o ho
    unfold waitsOn at hw
    rw [Array.any_eq_true] at hw
    obtain ⟨k, hk, he⟩ := hw
    rw [Bool.and_eq_true, beq_iff_eq] at he
    rw [Array.all_eq_true] at h1
    have := h1 k hk
    simp only [he.1, Bool.not_true, Bool.false_or, decide_eq_true_eq] at this
    omega
  · intro i o t ho hg
    obtain ⟨⟨⟨_, h1⟩, _⟩, _⟩ := H i o ho
    rw [hg] at h1
    simpa using h1
  · intro i o ho hi t ht
    obtain ⟨⟨⟨_, _⟩, h1⟩, _⟩ := H i o ho
    rw [if_pos hi, List.all_eq_true] at h1
    have := h1 t ht
    simpa using this
  · intro i o ho hi
    obtain ⟨⟨⟨_, _⟩, h1⟩, _⟩ := H i o ho
    rw [if_neg (by omega), Bool.and_eq_true, Bool.and_eq_true] at h1
    exact ⟨by simpa using h1.1.1, by simpa using h1.1.2⟩
  · intro j o t ho ht
    obtain ⟨⟨⟨_, _⟩, h1⟩, _⟩ := H (m + j) o ho
    rw [if_neg (by omega), Bool.and_eq_true, Bool.and_eq_true] at h1
    have h2 := h1.2
    rw [show m + j - m = j by omega, ht] at h2
    simp only [Bool.and_eq_true, List.all_eq_true] at h2
    obtain ⟨⟨h3, h4⟩, h5⟩ := h2
    refine ⟨fun t' ht' hl => ?_, by simpa using h4, ?_⟩
    · have := h3 t' ht'
      rw [Bool.or_eq_true] at this
      rcases this with h6 | h6
      · simpa using h6
      · simp at h6
        exact absurd hl h6
    · rw [List.any_eq_true] at h5
      obtain ⟨k, hk, h6⟩ := h5
      rw [List.mem_range] at hk
      rw [Bool.and_eq_true] at h6
      cases hok : ops[k]? with
      | none => rw [hok] at h6; cases h6.2
      | some ok =>
        rw [hok] at h6
        have h7 := h6.2
        rw [Bool.and_eq_true] at h7
        exact ⟨k, ok, hk, h6.1, hok, by simpa using h7.1, by simpa using h7.2⟩
  · intro i o d ho hd
    obtain ⟨_, h1⟩ := H i o ho
    rw [hd] at h1
    simp only [Bool.and_eq_true, decide_eq_true_eq] at h1
    exact h1.1
  · intro i j oi oj d hij hi hj hd
    obtain ⟨_, h1⟩ := H i oi hi
    rw [hd] at h1
    simp only [Bool.and_eq_true, decide_eq_true_eq, List.all_eq_true] at h1
    have := h1.2 j (lt j oj hj)
    simp only [hj, Bool.or_eq_true, beq_iff_eq, hij, false_or, Bool.and_eq_true, bne_iff_ne, ne_eq] at this
    exact this.1
  · intro i j oi oj d hij hi hj hd hr
    obtain ⟨_, h1⟩ := H i oi hi
    rw [hd] at h1
    simp only [Bool.and_eq_true, decide_eq_true_eq, List.all_eq_true] at h1
    have := h1.2 j (lt j oj hj)
    simp only [hj, Bool.or_eq_true, beq_iff_eq, hij, false_or, Bool.and_eq_true, bne_iff_ne, ne_eq, decide_eq_true_eq] at this
    have h3 := this.2
    have hc : (oj.looksAt ops).contains d = true := by simpa using hr
    rw [hc] at h3
    simpa using h3

section
variable {P : Program} {l : List Oper} {gs fs : List Tmp} {a0 : Act} {w0 : World} {tr : Nat → Got} {m : Nat} {ts : Known} {o0 : Obj}

structure InvS (fs : List Tmp) (ts : Known) (l : List Oper) (tr : Nat → Got) (m : Nat) (a0 : Act) (w0 : World) (L : Array Bool) (a : Act) (w : World) : Prop where
  hC : Below w0.heap.size w0 w
  hd : a.defers = a0.defers
  hs : a.tmps.size = a0.tmps.size
  hl : L.size = l.length
  hv : ∀ k o d, k < m → L.getD k false = true → l[k]? = some o → o.dst = some d → (∀ j F, ts[j]? = some (d, F) → L.getD (m + j) false = false) → ∃ u, a.tmps[d]? = some u ∧ (tr k).ok u w
  hw : ∀ j d F, ts[j]? = some (d, F) → L.getD (m + j) false = true → ∃ u, a.tmps[d]? = some u ∧ F u w
  ho : ∀ d, (∀ k o, L.getD k false = true → l[k]? = some o → o.dst ≠ some d) → a.tmps[d]? = a0.tmps[d]?
  hc : ∀ k o i, L.getD k false = true → l[k]? = some o → waitsOn o i = true → L.getD i false = true
  hb : ∀ k o d u b, L.getD k false = true → l[k]? = some o → o.dst = some d → d ∈ fs → a.tmps[d]? = some u → ownB u = some b → b < w.heap.size
  hf : ∀ k k' o o' d d' u u' b b', k ≠ k' → L.getD k false = true → L.getD k' false = true → l[k]? = some o → l[k']? = some o' → o.dst = some d → o'.dst = some d' → d ∈ fs → d' ∈ fs → a.tmps[d]? = some u → a.tmps[d']? = some u' → ownB u = some b → ownB u' = some b' → b ≠ b'

theorem set_false {L : Array Bool} {i k : Nat} (hi : i < L.size) (h : (L.setIfInBounds i true).getD k false = false) : L.getD k false = false := by
  cases hb : L.getD k false with
  | false => rfl
  | true => rw [(getD_set L i k hi).2 (.inr hb)] at h; cases h
/-- where the variable of a store was laid -/
theorem InvS.laid {L : Array Bool} {a : Act} {w : World} (hc : ∀ k o i, L.getD k false = true → l[k]? = some o → waitsOn o i = true → L.getD i false = true) (F : RstOk l.toArray gs fs a0.tmps.size m (ts.map Prod.fst)) {j : Nat} {d : Tmp} {G : Fact} (hj : ts[j]? = some (d, G))
    (hwait : ∀ o, l[m + j]? = some o → ∀ i, waitsOn o i = true → L.getD i false = true) : ∃ k ok, k < m ∧ L.getD k false = true ∧ l[k]? = some ok ∧ ok.dst = some d ∧ ok.guard = none := by
  have hsz := F.size
  have hjl : j < ts.length := (List.getElem?_eq_some_iff.1 hj).1
  have hlen : m + j < l.length := by simp at hsz; omega
  have ho : l[m + j]? = some (l[m + j]'hlen) := by simp
  obtain ⟨_, _, k, ok, h1, h2, h3, h4, h5⟩ := F.own j _ d (by rw [List.getElem?_toArray]; exact ho) (by rw [List.getElem?_map, hj]; rfl)
  exact ⟨k, ok, h1, hwait _ ho k h2, by rw [List.getElem?_toArray] at h3; exact h3, h4, h5⟩

theorem InvS.put {L : Array Bool} {a : Act} {w w' : World} (I : InvS fs ts l tr m a0 w0 L a w) (F : RstOk l.toArray gs fs a0.tmps.size m (ts.map Prod.fst)) {i : Nat} {o : Oper} (hi : l[i]? = some o) (him : i < m) (hun : L.getD i false = false) (hst : ∀ k, k < m → (tr k).steady) (hsF : ∀ (j : Nat) d G, ts[j]? = some (d, G) → Steady G)
    (hwait : ∀ j, waitsOn o j = true → L.getD j false = true) {u : Value} (hb : Below w.heap.size w w') (hok : o.dst.isSome = true → (tr i).ok u w') (hown : ∀ d b, o.dst = some d → d ∈ fs → ownB u = some b → w.heap.size ≤ b ∧ b < w'.heap.size) :
    InvS fs ts l tr m a0 w0 (L.setIfInBounds i true) (a.put o.dst u) w' := by
  have hiL : i < L.size := by rw [I.hl]; exact (List.getElem?_eq_some_iff.1 hi).1
  have ha : ∀ {k o}, l[k]? = some o → l.toArray[k]? = some o := fun h => by rw [List.getElem?_toArray]; exact h
  refine ⟨I.hC.trans (hb.mono I.hC.size), by rw [put_defers]; exact I.hd, by rw [put_size]; exact I.hs, by simp [I.hl], ?_, ?_, ?_, ?_, ?_, ?_⟩
  · intro k o' d hkm hk ho' hd hno
    rw [getD_set L i k hiL] at hk
    by_cases e : k = i
    · subst e
      rw [hi] at ho'
      cases ho'
      rw [hd]
      exact ⟨u, put_getElem_eq (by rw [I.hs]; exact F.room k o d (ha hi) hd), hok (by rw [hd]; rfl)⟩
    · have hk' := hk.resolve_left e
      obtain ⟨x, h1, h2⟩ := I.hv k o' d hkm hk' ho' hd fun j G hj => set_false hiL (hno j G hj)
      exact ⟨x, by rw [put_getElem_ne (F.lone k i o' o d e (ha ho') (ha hi) hd)]; exact h1, Got.keep (hst k hkm) h2 hb⟩
  · intro j d G hj hL
    rw [getD_set L i _ hiL] at hL
    have hL := hL.resolve_left (by omega)
    obtain ⟨k, ok, h1, h2, h3, h4, _⟩ := InvS.laid (w := w) (a := a) I.hc F hj fun o' ho' i' hw' => I.hc _ o' i' hL ho' hw'
    obtain ⟨x, h5, h6⟩ := I.hw j d G hj hL
    have hki : k ≠ i := fun e => by rw [e, hun] at h2; cases h2
    exact ⟨x, by rw [put_getElem_ne (F.lone k i ok o d hki (ha h3) (ha hi) h4)]; exact h5, (hsF j d G hj).keep _ _ _ h6 hb⟩
  · intro d hn
    rw [put_getElem_ne (hn i o ((getD_set L i i hiL).2 (.inl rfl)) hi)]
    exact I.ho d fun k o' hk => hn k o' ((getD_set L i k hiL).2 (.inr hk))
  · intro k o' j hk ho' hw
    rw [getD_set L i k hiL] at hk
    refine (getD_set L i j hiL).2 (.inr ?_)
    by_cases e : k = i
    · subst e
      rw [hi] at ho'
      cases ho'
      exact hwait j hw
    · exact I.hc k o' j (hk.resolve_left e) ho' hw
  · intro k o' d u' b hk ho' hd hdf hu' hbb
    rw [getD_set L i k hiL] at hk
    by_cases e : k = i
    · subst e
      rw [hi] at ho'
      cases ho'
      rw [hd, put_getElem_eq (by rw [I.hs]; exact F.room k o d (ha hi) hd)] at hu'
      cases hu'
      exact (hown d b hd hdf hbb).2
    · rw [put_getElem_ne (F.lone k i o' o d e (ha ho') (ha hi) hd)] at hu'
      exact Nat.lt_of_lt_of_le (I.hb k o' d u' b (hk.resolve_left e) ho' hd hdf hu' hbb) hb.size
  · intro k k' o1 o2 d1 d2 u1 u2 b1 b2 hkk hk hk' ho1 ho2 hd1 hd2 hf1 hf2 hu1 hu2 hb1 hb2
    rw [getD_set L i k hiL] at hk
    rw [getD_set L i k' hiL] at hk'
    by_cases e : k = i
    · subst e
      have e' : k' ≠ k := Ne.symm hkk
      rw [hi] at ho1
      cases ho1
      rw [hd1, put_getElem_eq (by rw [I.hs]; exact F.room k o d1 (ha hi) hd1)] at hu1
      cases hu1
      have h1 := (hown d1 b1 hd1 hf1 hb1).1
      rw [put_getElem_ne (F.lone k' k o2 o d2 e' (ha ho2) (ha hi) hd2)] at hu2
      have h2 := I.hb k' o2 d2 u2 b2 (hk'.resolve_left e') ho2 hd2 hf2 hu2 hb2
      omega
    · rw [put_getElem_ne (F.lone k i o1 o d1 e (ha ho1) (ha hi) hd1)] at hu1
      by_cases e' : k' = i
      · subst e'
        rw [hi] at ho2
        cases ho2
        rw [hd2, put_getElem_eq (by rw [I.hs]; exact F.room k' o d2 (ha hi) hd2)] at hu2
        cases hu2
        have h1 := (hown d2 b2 hd2 hf2 hb2).1
        have h2 := I.hb k o1 d1 u1 b1 (hk.resolve_left e) ho1 hd1 hf1 hu1 hb1
        omega
      · rw [put_getElem_ne (F.lone k' i o2 o d2 e' (ha ho2) (ha hi) hd2)] at hu2
        exact I.hf k k' o1 o2 d1 d2 u1 u2 b1 b2 hkk (hk.resolve_left e) (hk'.resolve_left e') ho1 ho2 hd1 hd2 hf1 hf2 hu1 hu2 hb1 hb2

theorem InvS.store {L : Array Bool} {a : Act} {w w' : World} (I : InvS fs ts l tr m a0 w0 L a w) (F : RstOk l.toArray gs fs a0.tmps.size m (ts.map Prod.fst)) {j : Nat} {d : Tmp} {G : Fact} (hj : ts[j]? = some (d, G)) {o : Oper} (hi : l[m + j]? = some o)
    (hT : ∀ k o d G, k < m → l[k]? = some o → o.dst = some d → tr k = .fact G → Tough (fs.contains d) o0 G) (hTs : ∀ (j : Nat) d G, ts[j]? = some (d, G) → Tough true o0 G)
    (hwait : ∀ j, waitsOn o j = true → L.getD j false = true) {u : Value} {b : Nat} (hu : a.tmps[d]? = some u) (hub : ownB u = some b) (hbB : w0.heap.size ≤ b) (hbo : w.heap[b]? = some o0) (hO : Only b w w') (hG : G u w') :
    InvS fs ts l tr m a0 w0 (L.setIfInBounds (m + j) true) a w' := by
  have hiL : m + j < L.size := by rw [I.hl]; exact (List.getElem?_eq_some_iff.1 hi).1
  have ha : ∀ {k o}, l[k]? = some o → l.toArray[k]? = some o := fun h => by rw [List.getElem?_toArray]; exact h
  obtain ⟨hsd, _⟩ := F.sdst _ o (ha hi) (by omega)
  have hdf : d ∈ fs := F.fresh d (List.mem_map.2 ⟨(d, G), List.mem_of_getElem? hj, rfl⟩)
  obtain ⟨k0, ok0, hk0, hL0, ho0, hd0, _⟩ := InvS.laid (w := w) (a := a) I.hc F hj fun o' ho' i' hw' => by
    rw [hi] at ho'
    cases ho'
    exact hwait i' hw'
  have unlike : ∀ k o' d' u', L.getD k false = true → l[k]? = some o' → o'.dst = some d' → d' ≠ d → d' ∈ fs → a.tmps[d']? = some u' → ownB u' ≠ some b := by
    intro k o' d' u' hk ho' hd' hne hf' hu' he
    have hkk : k ≠ k0 := fun e => by
      subst e
      rw [ho0] at ho'
      cases ho'
      rw [hd0] at hd'
      cases hd'
      exact hne rfl
    exact I.hf k k0 o' ok0 d' d u' u b b hkk hk hL0 ho' ho0 hd' hd0 hf' hdf hu' hu he hub rfl
  refine ⟨I.hC.trans (hO.below hbB), I.hd, I.hs, by simp [I.hl], ?_, ?_, ?_, ?_, ?_, ?_⟩
  · intro k o' d' hkm hk ho' hd' hno
    have hk := ((getD_set L _ k hiL).1 hk).resolve_left (by omega)
    obtain ⟨x, h1, h2⟩ := I.hv k o' d' hkm hk ho' hd' fun j' G' hj' => set_false hiL (hno j' G' hj')
    refine ⟨x, h1, ?_⟩
    have hne : d' ≠ d := fun e => by
      subst e
      have := hno j G hj
      rw [(getD_set L _ _ hiL).2 (.inl rfl)] at this
      cases this
    cases hx : tr k with
    | val v => rw [hx] at h2; exact h2
    | fact G' =>
      rw [hx] at h2
      exact hT k o' d' G' hkm ho' hd' hx x w w' b h2 hbo (fun hf' => unlike k o' d' x hk ho' hd' hne (by simpa using hf') h1) hO
  · intro j' d' G' hj' hL
    by_cases e : j' = j
    · subst e
      rw [hj] at hj'
      cases hj'
      exact ⟨u, hu, hG⟩
    · have hL := ((getD_set L _ _ hiL).1 hL).resolve_left (by omega)
      obtain ⟨k, ok, h1, h2, h3, h4, _⟩ := InvS.laid (w := w) (a := a) I.hc F hj' fun o' ho' i' hw' => I.hc _ o' i' hL ho' hw'
      obtain ⟨x, h5, h6⟩ := I.hw j' d' G' hj' hL
      have hne : d' ≠ d := fun he => by
        subst he
        have hnd := F.nodup
        have e1 : (ts.map Prod.fst)[j]? = some d' := by rw [List.getElem?_map, hj]; rfl
        have e2 : (ts.map Prod.fst)[j']? = some d' := by rw [List.getElem?_map, hj']; rfl
        exact e (nodup_at hnd e2 e1)
      exact ⟨x, h5, hTs j' d' G' hj' x w w' b h6 hbo (fun _ => unlike k ok d' x h2 h3 h4 hne (F.fresh d' (List.mem_map.2 ⟨(d', G'), List.mem_of_getElem? hj', rfl⟩)) h5) hO⟩
  · intro d' hn
    exact I.ho d' fun k o' hk => hn k o' ((getD_set L _ k hiL).2 (.inr hk))
  · intro k o' j' hk ho' hw
    rw [getD_set L _ k hiL] at hk
    refine (getD_set L _ j' hiL).2 (.inr ?_)
    by_cases e : k = m + j
    · subst e
      rw [hi] at ho'
      cases ho'
      exact hwait j' hw
    · exact I.hc k o' j' (hk.resolve_left e) ho' hw
  · intro k o' d' u' b' hk ho' hd' hdf' hu' hbb
    rw [hO.size]
    rcases (getD_set L _ k hiL).1 hk with e | hk
    · subst e
      rw [hi] at ho'
      cases ho'
      rw [hsd] at hd'
      cases hd'
    · exact I.hb k o' d' u' b' hk ho' hd' hdf' hu' hbb
  · intro k k' o1 o2 d1 d2 u1 u2 b1 b2 hkk hk hk' ho1 ho2 hd1 hd2 hf1 hf2 hu1 hu2 hb1 hb2
    rcases (getD_set L _ k hiL).1 hk with e | hk
    · subst e
      rw [hi] at ho1
      cases ho1
      rw [hsd] at hd1
      cases hd1
    rcases (getD_set L _ k' hiL).1 hk' with e | hk'
    · subst e
      rw [hi] at ho2
      cases ho2
      rw [hsd] at hd2
      cases hd2
    exact I.hf k k' o1 o2 d1 d2 u1 u2 b1 b2 hkk hk hk' ho1 ho2 hd1 hd2 hf1 hf2 hu1 hu2 hb1 hb2

/-- the walk's frame, with the true values in the slots of which it knew facts, is the frame, as far as the operation looks -/
theorem rst_same (F : RstOk l.toArray gs fs a0.tmps.size m (ts.map Prod.fst)) (hy : ∀ j o, j < m → l[j]? = some o → YieldR P l.toArray gs fs (fun w => Below w0.heap.size w0 w) o (lexR l tr (a0, []) j) (tr j))
    {L : Array Bool} {a : Act} {w : World} (I : InvS fs ts l tr m a0 w0 L a w) {i : Nat} {o : Oper} (hi' : l[i]? = some o) (hunf : ¬ L.getD i false = true) (hwait : ∀ j, waitsOn o j = true → L.getD j false = true)
    (hfree : ∀ d ∈ o.looksAt l.toArray, ∀ (j : Nat) G, ts[j]? = some (d, G) → L.getD (m + j) false = false) (i0 : Nat) (h0 : i0 ≤ m) (h01 : ∀ k, k < m → (k < i ↔ k < i0)) :
    (∀ us : List Tmp, (gs.filter fun d => (o.looksAt l.toArray).contains d) = us →
      (∀ d G, (d, G) ∈ pickR us (lexR l tr (a0, []) i0).2 → ∃ u, a.tmps[d]? = some u ∧ G u w) ∧
      (∀ d ∈ o.looksAt l.toArray, (fillAs a (pickR us (lexR l tr (a0, []) i0).2) (lexR l tr (a0, []) i0).1).tmps[d]? = a.tmps[d]?)) ∧
    Region.wanted o (yielded l.toArray a.tmps) = Region.wanted o (yielded l.toArray (lexR l tr (a0, []) i0).1.tmps) := by
  have hsz := F.size
  have hml : m ≤ l.length := by simp at hsz; omega
  have ha : ∀ {k o}, l[k]? = some o → l.toArray[k]? = some o := fun h => by rw [List.getElem?_toArray]; exact h
  have hio := ha hi'
  have early : ∀ (k : Nat) ok d, l[k]? = some ok → ok.dst = some d → k < m := fun k ok d hk hd => by
    by_cases h : k < m
    · exact h
    · have := (F.sdst k ok (ha hk) (by omega)).1
      rw [this] at hd
      cases hd
  have writer : ∀ d ∈ o.looksAt l.toArray, ∀ j oj, j < i → l[j]? = some oj → oj.dst = some d → ∃ u, a.tmps[d]? = some u ∧ (tr j).ok u w := by
    intro d hd j oj hj hoj hdst
    have hL : L.getD j false = true := by
      rcases F.read j i oj o d (by omega) (ha hoj) hio hdst hd with h | h
      · exact hwait j h.2
      · omega
    exact I.hv j oj d (early j oj d hoj hdst) hL hoj hdst (hfree d hd)
  have known := fun d G => lexR_known l tr a0 d G i0 (by omega)
  have hlexs := lexR_size l tr (a0, []) i0 (by omega)
  generalize hs : lexR l tr (a0, []) i0 = s at *
  have inGs : ∀ d G, (d, G) ∈ s.2 → d ∈ gs := fun d G h => by
    obtain ⟨j, oj, hj, hoj, hdst, hG⟩ := (known d G).1 h
    have h1 := hy j oj (by omega) hoj
    rw [hG] at h1
    obtain ⟨d', h2, h3⟩ := h1.named
    rw [hdst] at h2
    cases h2
    exact h3
  have plain : ∀ d ∈ o.looksAt l.toArray, (∀ G, (d, G) ∉ s.2) → a.tmps[d]? = s.1.tmps[d]? := by
    intro d hd hno
    by_cases hw : ∃ j oj, j < i ∧ l[j]? = some oj ∧ oj.dst = some d
    · obtain ⟨j, oj, hj, hoj, hdst⟩ := hw
      have hj0 := (h01 j (early j oj d hoj hdst)).1 hj
      obtain ⟨u, h1, h2⟩ := writer d hd j oj hj hoj hdst
      cases hx : tr j with
      | fact G => exact absurd ((known d G).2 ⟨j, oj, hj0, hoj, hdst, hx⟩) (hno G)
      | val v =>
        rw [hx] at h2
        have h3 := lexR_new l tr (a0, []) d j oj v hoj hdst hx (F.room j oj d (ha hoj) hdst) (fun i' o' hne ho' => F.lone j i' oj o' d (Ne.symm hne) (ha hoj) (ha ho') hdst) i0 (by omega) hj0
        rw [hs] at h3
        rw [h1, h3, show u = v from h2]
    · have hno2 : ∀ j oj, j < i0 → l[j]? = some oj → oj.dst = some d → ∃ G, tr j = .fact G := fun j oj hj hoj hdst => absurd ⟨j, oj, (h01 j (early j oj d hoj hdst)).2 hj, hoj, hdst⟩ hw
      have h3 := lexR_old l tr (a0, []) d i0 (by omega) hno2
      rw [hs] at h3
      rw [h3]
      refine I.ho d fun k ok hk hok hdst => ?_
      by_cases e : k = i
      · subst e; exact hunf hk
      · rcases F.read k i ok o d e (ha hok) hio hdst hd with h | h
        · exact hw ⟨k, ok, h.1, hok, hdst⟩
        · exact hunf (I.hc k ok i hk hok h.2)
  refine ⟨fun us hus => ⟨?_, ?_⟩, ?_⟩
  · intro d G hm
    obtain ⟨h1, h2⟩ := pickR_mem hm
    obtain ⟨j, oj, hj, hoj, hdst, hG⟩ := (known d G).1 h1
    have hl : d ∈ o.looksAt l.toArray := by
      rw [← hus] at h2
      simpa using (List.mem_filter.1 h2).2
    obtain ⟨u, h3, h4⟩ := writer d hl j oj ((h01 j (by omega)).2 hj) hoj hdst
    rw [hG] at h4
    exact ⟨u, h3, h4⟩
  · intro d hd
    by_cases hk : ∃ G, (d, G) ∈ s.2
    · obtain ⟨G, hG⟩ := hk
      have hdu : d ∈ us := by
        rw [← hus]
        exact List.mem_filter.2 ⟨inGs d G hG, by simpa using hd⟩
      obtain ⟨j, oj, hj, hoj, hdst, hx⟩ := (known d G).1 hG
      have hr := F.room j oj d (ha hoj) hdst
      exact fillAs_in a _ _ G (pickR_has hdu hG) (by rw [hlexs.1]; exact hr) (by rw [I.hs]; exact hr)
    · rw [fillAs_out a _ _ fun G hG => hk ⟨G, (pickR_mem hG).1⟩]
      exact (plain d hd fun G hG => hk ⟨G, hG⟩).symm
  · unfold Region.wanted
    cases hg : o.guard with
    | none => rfl
    | some gw =>
      obtain ⟨g, want⟩ := gw
      have : yielded l.toArray a.tmps g = yielded l.toArray s.1.tmps g := by
        unfold yielded
        cases ht : (l.toArray[g]?).bind (·.dst) with
        | none => rfl
        | some t =>
          have h1 : guardOf l.toArray o = some t := by unfold guardOf; rw [hg]; exact ht
          have h2 : a.tmps[t]? = s.1.tmps[t]? := plain t (List.mem_append_right _ (by rw [hg]; simpa using ht)) fun G hG => F.guard i o t hio h1 (inGs t G hG)
          simp only [Option.bind_some, h2]
      simp only [this]

theorem rst_step {Q : Exit → Act → World → Prop} (F : RstOk l.toArray gs fs a0.tmps.size m (ts.map Prod.fst)) (hsF : ∀ (j : Nat) d G, ts[j]? = some (d, G) → Steady G) (hy : ∀ j o, j < m → l[j]? = some o → YieldR P l.toArray gs fs (fun w => Below w0.heap.size w0 w) o (lexR l tr (a0, []) j) (tr j))
    {L : Array Bool} {a : Act} {w : World} (I : InvS fs ts l tr m a0 w0 L a w) {i : Nat} (hi : i ∈ Region.ready .any l.toArray L) (him : i < m) :
    wpOp P l.toArray Q i (fun a' w' => InvS fs ts l tr m a0 w0 (L.setIfInBounds i true) a' w') a w := by
  obtain ⟨hun, o, hio, hall⟩ := mem_ready.1 hi
  have hi' : l[i]? = some o := by rw [List.getElem?_toArray] at hio; exact hio
  have hlen : i < l.length := (List.getElem?_eq_some_iff.1 hi').1
  have hsz := F.size
  have hml : m ≤ l.length := by simp at hsz; omega
  have hunF : L.getD i false = false := (ready_not I.hl hi).2
  have hunf : ¬ L.getD i false = true := by rw [hunF]; simp
  have hwait : ∀ j, waitsOn o j = true → L.getD j false = true := ready_spec hi' hi
  have hst : ∀ k, k < m → (tr k).steady := fun k hk => (hy k l[k] hk (by simp)).steady
  have hfree : ∀ d ∈ o.looksAt l.toArray, ∀ (j : Nat) G, ts[j]? = some (d, G) → L.getD (m + j) false = false := fun d hd j G hj =>
    absurd hd (F.pre i o hio him d (List.mem_map.2 ⟨(d, G), List.mem_of_getElem? hj, rfl⟩))
  have hlexs := lexR_size l tr (a0, []) i (by omega)
  have hY := hy i o him hi'
  obtain ⟨hus0, hwan⟩ := rst_same F hy I hi' hunf hwait hfree i (by omega) fun k _ => Iff.rfl
  have inst := fun us hus => (hus0 us hus).1
  have same := fun us hus => (hus0 us hus).2
  generalize hs : lexR l tr (a0, []) i = s at *
  unfold YieldR at hY
  unfold wpOp
  simp only [hio]
  rw [hwan]
  by_cases hwn : Region.wanted o (yielded l.toArray s.1.tmps) = true
  · rw [if_pos hwn] at hY
    rw [if_pos hwn]
    refine .inl ?_
    unfold Oper.wp
    cases hx : tr i with
    | val v =>
      rw [hx] at hY
      obtain ⟨us, hus, hnf, h1⟩ := hY
      have noOwn : ∀ (u : Value) (w' : World) d b, o.dst = some d → d ∈ fs → ownB u = some b → w.heap.size ≤ b ∧ b < w'.heap.size := fun u w' d b hd hdf _ => by
        rw [hd] at hnf
        simp at hnf
        exact absurd hdf hnf
      have h3 := fillR_out _ _ (h1 w I.hC) (inst us hus)
      have hrun := exec_run (P := P) (F.sel i o · · hio) (same us hus) w
      unfold Oper.quietAt at h3
      rw [hrun] at h3
      generalize (execOp a.eval o).run P w = r at *
      cases r with
      | ok n w' =>
        cases n <;> simp only [Oper.quietUpon] at h3 <;> simp only [Oper.upon]
        case value u =>
          obtain ⟨e1, e2⟩ := h3
          subst e1 e2
          exact I.put F hi' him hunF hst hsF hwait (Below.refl _ _) (fun _ => by rw [hx]; exact rfl) (noOwn _ _)
        case skip =>
          obtain ⟨e1, e2⟩ := h3
          subst e1
          exact I.put F hi' him hunF hst hsF hwait (Below.refl _ _) (fun _ => by rw [hx]; exact e2.symm) (noOwn _ _)
        case enter f args =>
          obtain ⟨e1, hc⟩ := h3
          subst e1
          exact hc.mono fun e w'' ⟨he, hw''⟩ => by
            subst he
            exact I.put F hi' him hunF hst hsF hwait hw'' (fun _ => by rw [hx]; exact rfl) (noOwn _ _)
      | halt x w' => simp only [Oper.quietUpon] at h3
    | fact G =>
      rw [hx] at hY
      obtain ⟨us, d, hd, hdg, hG, hus, h1⟩ := hY
      have h3 := fillR_out _ _ (h1 w I.hC) (inst us hus)
      have hrun := exec_run (P := P) (F.sel i o · · hio) (same us hus) w
      have hwn' : Region.wanted o (yielded l.toArray (fillAs a (pickR us s.2) s.1).tmps) = true := by rw [wanted_same (same us hus), hwan, hwn]
      have hroom := F.room i o d hio hd
      have hsz : (fillAs a (pickR us s.2) s.1).tmps.size = a0.tmps.size := (fillAs_size a _ _).1.trans hlexs.1
      generalize fillAs a (pickR us s.2) s.1 = b at *
      have noLet : ∀ w, ¬ LetsOut (RelPost (fs.contains d) d b.defers w G) := fun w ⟨_, _, h⟩ => by have := h.ex; cases this
      have h4 : Oper.wp P o b w (wpList P l.toArray (RelPost (fs.contains d) d b.defers w G) []) (RelPost (fs.contains d) d b.defers w G) := by
        unfold wpList at h3
        rw [if_pos hwn'] at h3
        exact h3.resolve_right fun h => noLet _ h.2
      have fin : ∀ (u : Value) (w' : World), RelPost (fs.contains d) d b.defers w G .normal (b.put o.dst u) w' → InvS fs ts l tr m a0 w0 (L.setIfInBounds i true) (a.put o.dst u) w' := fun u w' h => by
        have hu : (b.put o.dst u).tmps.getD d undef = u := by
          rw [hd, Array.getD_eq_getD_getElem?, put_getElem_eq (by rw [hsz]; exact hroom)]
          rfl
        refine I.put F hi' him hunF hst hsF hwait h.below (fun _ => ?_) (fun d' b' hd' hdf hb' => ?_)
        · rw [hx]
          have := h.fact
          rw [hu] at this
          exact this
        · rw [hd] at hd'
          cases hd'
          obtain ⟨b2, h1, h2, h3⟩ := h.own (by simpa using hdf)
          rw [hu, hb'] at h1
          cases h1
          exact ⟨h2, h3⟩
      unfold Oper.wp at h4
      rw [hrun] at h4
      generalize (execOp a.eval o).run P w = r at *
      cases r with
      | ok n w' =>
        cases n <;> simp only [Oper.upon] at h4 ⊢
        case value u => exact fin u w' h4
        case skip => exact fin undef w' h4
        case defer df =>
          have := RelPost.df h4
          rw [put_defers] at this
          exact absurd (congrArg List.length this) (by simp)
        case enter f args =>
          refine h4.mono fun e w'' he => ?_
          cases e with
          | returned u => exact fin u w'' he
          | panicked c => exact absurd he.ex (by simp)
          | outgrown => exact absurd he (noLet _)
        case row row args => exact h4.mono fun u w'' he => fin u w'' he
      | halt x w' =>
        cases x <;> simp only [Oper.upon] at h4 ⊢
        exact absurd h4.ex (by simp)
  · rw [if_neg hwn] at hY
    rw [if_neg hwn]
    exact I.put F hi' him hunF hst hsF hwait (Below.refl _ _) (fun _ => by rw [hY]; exact rfl) (fun d b _ _ hb => by cases hb)

/-- a store -/
theorem rst_store {Q : Exit → Act → World → Prop} (F : RstOk l.toArray gs fs a0.tmps.size m (ts.map Prod.fst)) (hy : ∀ j o, j < m → l[j]? = some o → YieldR P l.toArray gs fs (fun w => Below w0.heap.size w0 w) o (lexR l tr (a0, []) j) (tr j))
    (hT : ∀ k o d G, k < m → l[k]? = some o → o.dst = some d → tr k = .fact G → Tough (fs.contains d) o0 G) (hTs : ∀ (j : Nat) d G, ts[j]? = some (d, G) → Tough true o0 G)
    {L : Array Bool} {a : Act} {w : World} (I : InvS fs ts l tr m a0 w0 L a w) {j : Nat} (hi : m + j ∈ Region.ready .any l.toArray L) {d : Tmp} {G : Fact} (hj : ts[j]? = some (d, G))
    {us : List Tmp} {o : Oper} (hi' : l[m + j]? = some o) (hop : ∃ T x y, o.op = .store T x y) (hus : (gs.filter fun d => (o.looksAt l.toArray).contains d) = us)
    (h1 : fillR w (pickR us (lexR l tr (a0, []) m).2) (lexR l tr (a0, []) m).1 fun a' => wpList P l.toArray (StorePost o0 w0.heap.size d a' w G) [o] a' w) :
    wpOp P l.toArray Q (m + j) (fun a' w' => InvS fs ts l tr m a0 w0 (L.setIfInBounds (m + j) true) a' w') a w := by
  have hio : l.toArray[m + j]? = some o := by rw [List.getElem?_toArray]; exact hi'
  have hlen : m + j < l.length := (List.getElem?_eq_some_iff.1 hi').1
  have hunF : L.getD (m + j) false = false := (ready_not I.hl hi).2
  have hunf : ¬ L.getD (m + j) false = true := by rw [hunF]; simp
  have hwait : ∀ k, waitsOn o k = true → L.getD k false = true := ready_spec hi' hi
  obtain ⟨hsd, hsg⟩ := F.sdst _ o hio (by omega)
  obtain ⟨hown1, hown2, _⟩ := F.own j o d hio (by rw [List.getElem?_map, hj]; rfl)
  have inj : ∀ (j' : Nat) G', ts[j']? = some (d, G') → j' = j := fun j' G' hj' => by
    have e1 : (ts.map Prod.fst)[j]? = some d := by rw [List.getElem?_map, hj]; rfl
    have e2 : (ts.map Prod.fst)[j']? = some d := by rw [List.getElem?_map, hj']; rfl
    exact nodup_at F.nodup e2 e1
  have hfree : ∀ d' ∈ o.looksAt l.toArray, ∀ (j' : Nat) G, ts[j']? = some (d', G) → L.getD (m + j') false = false := fun d' hd' j' G' hj' => by
    have e := hown1 d' (List.mem_map.2 ⟨(d', G'), List.mem_of_getElem? hj', rfl⟩) hd'
    subst e
    rw [inj j' G' hj']
    exact hunF
  have hlexs := lexR_size l tr (a0, []) m (by omega)
  obtain ⟨hus0, hwan⟩ := rst_same F hy I hi' hunf hwait hfree m (Nat.le_refl _) fun k hk => ⟨fun _ => hk, fun _ => by omega⟩
  obtain ⟨inst, same⟩ := hus0 us hus
  generalize hs : lexR l tr (a0, []) m = s at *
  have h3 := fillR_out _ _ h1 inst
  have hrun := exec_run (P := P) (F.sel _ o · · hio) same w
  have hds := same d hown2
  generalize fillAs a (pickR us s.2) s.1 = b at *
  have noLet : ¬ LetsOut (StorePost o0 w0.heap.size d b w G) := fun ⟨_, _, h⟩ => by have := h.ex; cases this
  unfold wpList at h3
  rw [if_pos (wanted_free hsg)] at h3
  have h4 := h3.resolve_right fun h => noLet h.2
  unfold wpOp
  simp only [hio]
  rw [if_pos (wanted_free hsg)]
  refine .inl ?_
  unfold Oper.wp at h4 ⊢
  rw [hrun] at h4
  cases hr : (execOp a.eval o).run P w with
  | ok n w' =>
    have hn : n = .skip := by
      obtain ⟨T, x, y, hop⟩ := hop
      unfold execOp at hr
      rw [hop] at hr
      exact run_store_skip hr
    subst hn
    rw [hr] at h4
    rw [Oper.upon_skip] at h4 ⊢
    rw [hsd] at h4 ⊢
    unfold wpList at h4
    obtain ⟨_, ⟨bb, hb1, hb2, hb3, hb4⟩, hG⟩ := h4
    have hdd : b.tmps.getD d undef = a.tmps.getD d undef := by rw [Array.getD_eq_getD_getElem?, hds, ← Array.getD_eq_getD_getElem?]
    rw [hdd] at hb1 hG
    have hu : ∃ u, a.tmps[d]? = some u ∧ a.tmps.getD d undef = u := by
      cases hx : a.tmps[d]? with
      | none => rw [Array.getD_eq_getD_getElem?, hx] at hb1; cases hb1
      | some u => exact ⟨u, rfl, by rw [Array.getD_eq_getD_getElem?, hx]; rfl⟩
    obtain ⟨u, hu1, hu2⟩ := hu
    rw [hu2] at hb1 hG
    exact I.store F hj hi' hT hTs hwait hu1 hb1 hb2 hb3 hb4 hG
  | halt x w' =>
    rw [hr] at h4
    cases x <;> simp only [Oper.upon] at h4
    exact absurd h4.ex (by simp)

/-- what is known of a stored variable from then on -/
def swap : Known → Tmp → Fact → Fact
  | [], _, G => G
  | (t, F) :: ts, d, G => if t == d then F else swap ts d G
def refill (ts rs : Known) : Known := rs.map fun x => (x.1, swap ts x.1 x.2)
theorem swap_spec (d : Tmp) (G : Fact) : ∀ ts : Known, (d, swap ts d G) ∈ ts ∨ ((∀ F, (d, F) ∉ ts) ∧ swap ts d G = G)
  | [] => .inr ⟨fun _ h => (nomatch h), rfl⟩
  | (t, F) :: ts => by
    unfold swap
    split
    · rename_i h
      have h : t = d := by simpa using h
      subst h
      exact .inl (by simp)
    · rename_i h
      have h : ¬ t = d := by simpa using h
      rcases swap_spec d G ts with h1 | ⟨h1, h2⟩
      · exact .inl (List.mem_cons_of_mem _ h1)
      · refine .inr ⟨fun F' hF => ?_, h2⟩
        rcases List.mem_cons.1 hF with e | hF
        · cases e
          exact h rfl
        · exact h1 F' hF

theorem rst_done {K : Act → World → Prop} (hfs : ∀ d ∈ fs, ∃ k o, k < m ∧ l[k]? = some o ∧ o.dst = some d) (F : RstOk l.toArray gs fs a0.tmps.size m (ts.map Prod.fst)) (hy : ∀ j o, j < m → l[j]? = some o → YieldR P l.toArray gs fs (fun w => Below w0.heap.size w0 w) o (lexR l tr (a0, []) j) (tr j))
    (hQ : ∀ w, Below w0.heap.size w0 w → fillR w (refill ts (lexR l tr (a0, []) m).2) (lexR l tr (a0, []) m).1 fun a => Unlike fs a → K a w)
    {L : Array Bool} {a : Act} {w : World} (I : InvS fs ts l tr m a0 w0 L a w) (hall : ∀ k, k < l.length → L.getD k false = true) : K a w := by
  have hsz := F.size
  have hml : m ≤ l.length := by simp at hsz; omega
  have ha : ∀ {k o}, l[k]? = some o → l.toArray[k]? = some o := fun h => by rw [List.getElem?_toArray]; exact h
  have early : ∀ (k : Nat) ok d, l[k]? = some ok → ok.dst = some d → k < m := fun k ok d hk hd => by
    by_cases h : k < m
    · exact h
    · have := (F.sdst k ok (ha hk) (by omega)).1
      rw [this] at hd
      cases hd
  have known := fun d G => lexR_known l tr a0 d G m hml
  have hlexs := lexR_size l tr (a0, []) m hml
  have notT : ∀ d, (∀ G, (d, G) ∉ ts) → ∀ (j : Nat) G, ts[j]? = some (d, G) → L.getD (m + j) false = false := fun d h j G hj => absurd (List.mem_of_getElem? hj) (h G)
  have h := fillR_out (b := a) _ _ (hQ w I.hC) fun d G hm => by
    unfold refill at hm
    obtain ⟨⟨d', G'⟩, hm1, e⟩ := List.mem_map.1 hm
    clear hm
    simp only [Prod.mk.injEq] at e
    obtain ⟨e1, e2⟩ := e
    subst e1 e2
    rcases swap_spec d' G' ts with h1 | ⟨h1, h2⟩
    · obtain ⟨j, hj, hjs⟩ := List.mem_iff_getElem.1 h1
      exact I.hw j d' _ (by rw [List.getElem?_eq_getElem hj, hjs]) (hall _ (by simp at hsz; omega))
    · obtain ⟨j, oj, hj, hoj, hdst, hG⟩ := (known d' G').1 hm1
      obtain ⟨u, h3, h4⟩ := I.hv j oj d' hj (hall j (by omega)) hoj hdst (notT d' h1)
      rw [hG] at h4
      rw [h2]
      exact ⟨u, h3, h4⟩
  have inR : ∀ d, (∃ G, (d, G) ∈ refill ts (lexR l tr (a0, []) m).2) ↔ ∃ G, (d, G) ∈ (lexR l tr (a0, []) m).2 := fun d => by
    unfold refill
    constructor
    · rintro ⟨G, hG⟩
      obtain ⟨⟨d', G'⟩, hm, e⟩ := List.mem_map.1 hG
      simp only [Prod.mk.injEq] at e
      obtain ⟨e1, _⟩ := e
      subst e1
      exact ⟨G', hm⟩
    · rintro ⟨G, hG⟩
      exact ⟨_, List.mem_map.2 ⟨(d, G), hG, rfl⟩⟩
  generalize hrs : refill ts (lexR l tr (a0, []) m).2 = rs at *
  have he : fillAs a rs (lexR l tr (a0, []) m).1 = a := by
    have h1 := fillAs_size a rs (lexR l tr (a0, []) m).1
    have ht : ∀ d : Tmp, (fillAs a rs (lexR l tr (a0, []) m).1).tmps[d]? = a.tmps[d]? := by
      intro d
      by_cases hk : ∃ G, (d, G) ∈ rs
      · obtain ⟨G0, hG0⟩ := (inR d).1 hk
        obtain ⟨G, hG⟩ := hk
        obtain ⟨j, oj, hj, hoj, hdst, hx⟩ := (known d G0).1 hG0
        have hr := F.room j oj d (ha hoj) hdst
        exact fillAs_in a _ _ G hG (by rw [hlexs.1]; exact hr) (by rw [I.hs]; exact hr)
      · rw [fillAs_out a _ _ fun G hG => hk ⟨G, hG⟩]
        have hk : ¬ ∃ G, (d, G) ∈ (lexR l tr (a0, []) m).2 := fun h => hk ((inR d).2 h)
        by_cases hw : ∃ j oj, j < m ∧ l[j]? = some oj ∧ oj.dst = some d
        · obtain ⟨j, oj, hj, hoj, hdst⟩ := hw
          have hnt : ∀ (j : Nat) G, ts[j]? = some (d, G) → L.getD (m + j) false = false := fun j' G' hj' => by
            exfalso
            -- a stored variable is one of the facts
            obtain ⟨k, ok, hk1, _, hk3, hk4, hk5⟩ := InvS.laid (w := w) (a := a) I.hc F hj' fun o' ho' i' hw' => I.hc _ o' i' (hall _ (List.getElem?_eq_some_iff.1 ho').1) ho' hw'
            have hjk : j = k := by
              by_cases e : j = k
              · exact e
              · exact absurd hk4 (F.lone j k oj ok d e (ha hoj) (ha hk3) hdst)
            subst hjk
            have hdf : d ∈ fs := F.fresh d (List.mem_map.2 ⟨(d, G'), List.mem_of_getElem? hj', rfl⟩)
            cases hx : tr j with
            | fact G => exact hk ⟨G, (known d G).2 ⟨j, oj, hj, hoj, hdst, hx⟩⟩
            | val v =>
              have hY := hy j oj hj hoj
              rw [hx] at hY
              obtain ⟨u, hu1, hu2⟩ := I.hw j' d G' hj' (hall _ (by have := (List.getElem?_eq_some_iff.1 hj').1; simp at hsz; omega))
              unfold YieldR at hY
              split at hY
              · obtain ⟨us, _, hnf, _⟩ := hY
                rw [hdst] at hnf
                simp at hnf
                exact hnf hdf
              · rename_i hnw
                rw [hoj] at hk3
                cases hk3
                exact hnw (wanted_free hk5)
          obtain ⟨u, h2, h3⟩ := I.hv j oj d hj (hall j (by omega)) hoj hdst hnt
          cases hx : tr j with
          | fact G => exact absurd ⟨G, (known d G).2 ⟨j, oj, hj, hoj, hdst, hx⟩⟩ hk
          | val v =>
            rw [hx] at h3
            rw [lexR_new l tr (a0, []) d j oj v hoj hdst hx (F.room j oj d (ha hoj) hdst) (fun i' o' hne ho' => F.lone j i' oj o' d (Ne.symm hne) (ha hoj) (ha ho') hdst) m hml hj, h2, show u = v from h3]
        · rw [lexR_old l tr (a0, []) d m hml fun j oj hj hoj hdst => absurd (Exists.intro j (Exists.intro oj ⟨hj, hoj, hdst⟩)) hw]
          exact (I.ho d fun k ok hk hok hdst => hw ⟨k, ok, early k ok d hok hdst, hok, hdst⟩).symm
    generalize fillAs a rs (lexR l tr (a0, []) m).1 = b at *
    have hd : b.defers = a.defers := by rw [h1.2, hlexs.2, I.hd]
    obtain ⟨t, d⟩ := b
    obtain ⟨t', d'⟩ := a
    have e1 : t = t' := Array.ext_getElem? ht
    have e2 : d = d' := hd
    rw [e1, e2]
  rw [he] at h
  refine h ⟨fun d d' u u' b b' hd hd' hne hu hu' hb hb' => ?_⟩
  obtain ⟨k, o, hk, ho, hod⟩ := hfs d hd
  obtain ⟨k', o', hk', ho', hod'⟩ := hfs d' hd'
  refine I.hf k k' o o' d d' u u' b b' (fun e => hne ?_) (hall k (by omega)) (hall k' (by omega)) ho ho' hod hod' hd hd' hu hu' hb hb'
  subst e
  rw [ho] at ho'
  cases ho'
  rw [hod] at hod'
  cases hod'
  rfl

theorem rst_any {Q : Exit → Act → World → Prop} (hfs : ∀ d ∈ fs, ∃ k o, k < m ∧ l[k]? = some o ∧ o.dst = some d) (F : RstOk l.toArray gs fs a0.tmps.size m (ts.map Prod.fst)) (hsF : ∀ (j : Nat) d G, ts[j]? = some (d, G) → Steady G) (hy : ∀ j o, j < m → l[j]? = some o → YieldR P l.toArray gs fs (fun w => Below w0.heap.size w0 w) o (lexR l tr (a0, []) j) (tr j))
    (hT : ∀ k o d G, k < m → l[k]? = some o → o.dst = some d → tr k = .fact G → Tough (fs.contains d) o0 G) (hTs : ∀ (j : Nat) d G, ts[j]? = some (d, G) → Tough true o0 G)
    (hS : ∀ (j : Nat) o d G, l[m + j]? = some o → ts[j]? = some (d, G) → (∃ T x y, o.op = .store T x y) ∧ ∃ us : List Tmp, (gs.filter fun d => (o.looksAt l.toArray).contains d) = us ∧ ∀ w, Below w0.heap.size w0 w → fillR w (pickR us (lexR l tr (a0, []) m).2) (lexR l tr (a0, []) m).1 fun a' => wpList P l.toArray (StorePost o0 w0.heap.size d a' w G) [o] a' w)
    (hQ : ∀ w, Below w0.heap.size w0 w → fillR w (refill ts (lexR l tr (a0, []) m).2) (lexR l tr (a0, []) m).1 fun a => Unlike fs a → Q .normal a w) :
    ∀ (fuel : Nat) (L : Array Bool) (a : Act) (w : World), InvS fs ts l tr m a0 w0 L a w → L.toList.countP (· == false) ≤ fuel → wpAny P .any l.toArray Q fuel L a w := by
  have hsz := F.size
  have done : ∀ (L : Array Bool) (a : Act) (w : World), InvS fs ts l tr m a0 w0 L a w → (∀ k, k < l.length → L.getD k false = true) → Q .normal a w := fun L a w I hall =>
    rst_done (K := fun a w => Q .normal a w) hfs F hy hQ I hall
  have allDone : ∀ (L : Array Bool) (a : Act) (w : World), InvS fs ts l tr m a0 w0 L a w → Region.ready .any l.toArray L = [] → ∀ k, k < l.length → L.getD k false = true := by
    intro L a w I hr k
    induction k using Nat.strongRecOn with
    | ind k ihk =>
      intro hk
      cases hb : L.getD k false with
      | true => rfl
      | false =>
        have hko : l[k]? = some (l[k]'hk) := by simp
        have := ready_of I.hl hko hb fun j hj => by
          have hlow := F.low k _ j (by rw [List.getElem?_toArray]; exact hko) hj
          exact ihk j hlow (by omega)
        rw [hr] at this
        cases this
  intro fuel
  induction fuel with
  | zero =>
    intro L a w I hc
    have hall : ∀ k, k < l.length → L.getD k false = true := fun k hk => count_none hc k (by rw [I.hl]; omega)
    exact ⟨all_ready hall, done L a w I hall⟩
  | succ fuel ih =>
    intro L a w I hc
    refine ⟨fun hr => done L a w I (allDone L a w I hr), fun i hi => ?_⟩
    obtain ⟨hil, hin⟩ := ready_not I.hl hi
    have hn : ∀ a' w', InvS fs ts l tr m a0 w0 (L.setIfInBounds i true) a' w' → wpAny P .any l.toArray Q fuel (L.setIfInBounds i true) a' w' := fun a' w' I' => ih _ a' w' I' (count_set (by rw [I.hl]; exact hil) hin hc)
    by_cases him : i < m
    · exact wpOp_mono hn (rst_step F hsF hy I hi him)
    · obtain ⟨j, rfl⟩ : ∃ j, i = m + j := ⟨i - m, by omega⟩
      have hjt : j < ts.length := by simp at hsz; omega
      have hjs : ts[j]? = some (ts[j].1, ts[j].2) := by rw [List.getElem?_eq_getElem hjt]
      have hio : l[m + j]? = some (l[m + j]'hil) := by simp
      obtain ⟨h1, us, h2, h3⟩ := hS j _ _ _ hio hjs
      exact wpOp_mono hn (rst_store F hy hT hTs I hi hjs hio h1 h2 (h3 w I.hC))

/-- each fact that is known stands over a store into another new block -/
def Toughs (fs : List Tmp) (o0 : Obj) : Known → Prop
  | [] => True
  | (d, G) :: rs => Tough (fs.contains d) o0 G ∧ Toughs fs o0 rs
theorem Toughs.of {fs : List Tmp} {o0 : Obj} : ∀ {rs : Known}, Toughs fs o0 rs → ∀ d G, (d, G) ∈ rs → Tough (fs.contains d) o0 G
  | (d', G') :: rs, h, d, G, hm => by
    rcases List.mem_cons.1 hm with e | hm
    · cases e
      exact h.1
    · exact Toughs.of h.2 d G hm
/-- the stores, each as it may come -/
def Stores (P : Program) (ops : Array Oper) (gs : List Tmp) (o0 : Obj) (w0 : World) (a : Act) (rs : Known) : List Oper → Known → Prop
  | o :: os, (d, G) :: ts => ((∃ us : List Tmp, (gs.filter fun d => (o.looksAt ops).contains d) = us ∧ ∀ p : In w0, fillR p.w (pickR us rs) a fun a' => wpList P ops (StorePost o0 w0.heap.size d a' p.w G) [o] a' p.w) ∧ Steady G ∧ Tough true o0 G) ∧ Stores P ops gs o0 w0 a rs os ts
  | _, _ => True
theorem Stores.of {P : Program} {ops : Array Oper} {gs : List Tmp} {o0 : Obj} {w0 : World} {a : Act} {rs : Known} : ∀ {os : List Oper} {ts : Known}, Stores P ops gs o0 w0 a rs os ts → ∀ (j : Nat) o d G, os[j]? = some o → ts[j]? = some (d, G) →
    ((∃ us : List Tmp, (gs.filter fun d => (o.looksAt ops).contains d) = us ∧ ∀ p : In w0, fillR p.w (pickR us rs) a fun a' => wpList P ops (StorePost o0 w0.heap.size d a' p.w G) [o] a' p.w) ∧ Steady G ∧ Tough true o0 G)
  | o :: os, (d, G) :: ts, h, 0, o', d', G', ho, ht => by
    simp at ho ht
    obtain ⟨rfl, rfl⟩ := ht
    subst ho
    exact h.1
  | o :: os, (d, G) :: ts, h, j + 1, o', d', G', ho, ht => by
    simp only [List.getElem?_cons_succ] at ho ht
    exact Stores.of h.2 j o' d' G' ho ht
  | [], _, _, j, _, _, _, ho, _ => by simp at ho
  | _ :: _, [], _, j, _, _, _, _, ht => by simp at ht
def isStore (o : Oper) : Bool := match o.op with | .store .. => true | _ => false
theorem isStore_spec {o : Oper} (h : isStore o = true) : ∃ T x y, o.op = .store T x y := by
  unfold isStore at h
  split at h
  · rename_i heq
    exact ⟨_, _, _, heq⟩
  · cases h
end

/-- ONE WALK OF THE LEXICAL ORDER SERVES EVERY ORDER, the stores behind it wherever they come. -/
theorem wp_region_rst {P : Program} {id : Nat} {Q : Exit → Act → World → Prop} {a : Act} {w : World} {l : List Oper} (m : Nat) (gs fs : List Tmp) (ts : Known) (o0 : Obj) (hfs : (fs.all fun d => (l.take m).any fun o => o.dst == some d) = true) (hst : ((l.drop m).all isStore) = true) (hm : P.follows .mixedOrders = true) (hml : decide (m ≤ l.length) = true)
    (hB : rstB l.toArray gs fs a.tmps.size m (ts.map Prod.fst) = true)
    (h : wpRel P l.toArray gs fs (fun w' => ∃ p : In w, w' = p.w) (fun a' rs => Toughs fs o0 rs ∧ Stores P l.toArray gs o0 w a' rs (l.drop m) ts ∧ ∀ p : In w, fillR p.w (refill ts rs) a' fun a'' => Unlike fs a'' → Q .normal a'' p.w) (l.take m) a []) :
    (Code.region id l.toArray true).wp P Q a w := by
  have hCC : (fun w' => ∃ p : In w, w' = p.w) = fun w' => Below w.heap.size w w' :=
    funext fun w' => propext ⟨fun ⟨p, hp⟩ => hp ▸ p.h, fun h => ⟨⟨w', h⟩, rfl⟩⟩
  rw [hCC] at h
  have hml : m ≤ l.length := of_decide_eq_true hml
  obtain ⟨tr, h1, hT, hS, h2⟩ := wpRel_trace (l.take m) a [] h
  have hlen : (l.take m).length = m := by rw [List.length_take]; omega
  have lexTake : ∀ (l : List Oper) (tr : Nat → Got) (s : Act × Known) (n j : Nat), j ≤ n → lexR (l.take n) tr s j = lexR l tr s j := by
    intro l
    induction l with
    | nil => intro tr s n j _; simp
    | cons o l ih =>
      intro tr s n j hj
      cases j with
      | zero => simp [lexR]
      | succ j =>
        obtain ⟨n, rfl⟩ : ∃ m, n = m + 1 := ⟨n - 1, by omega⟩
        simp only [List.take_succ_cons, lexR]
        exact ih _ _ n j (by omega)
  rw [hlen, lexTake _ _ _ _ _ (Nat.le_refl _)] at hT hS h2
  have F := rstOk_of hB
  refine wp_region_any hm ?_
  rw [show l.toArray.size = l.length by simp]
  refine rst_any (gs := gs) (fs := fs) (w0 := w) (tr := tr) (m := m) (ts := ts) (o0 := o0) ?_ F (fun j d G hj => ?_) (fun j o hj ho => ?_) (fun k o d G hk ho hd hG => ?_) (fun j d G hj => ?_) (fun j o d G ho hj => ?_) (fun w' hw' => h2 ⟨w', hw'⟩) l.length _ a _ ⟨⟨rfl, rfl, rfl, Nat.le_refl _, fun _ _ => rfl⟩, rfl, rfl, by simp, ?_, ?_, fun _ _ => rfl, ?_, ?_, ?_⟩ ?_
  · intro d hd
    rw [List.all_eq_true] at hfs
    have h1 := hfs d hd
    rw [List.any_eq_true] at h1
    obtain ⟨o, ho, hod⟩ := h1
    obtain ⟨k, hk, rfl⟩ := List.mem_iff_getElem.1 ho
    have hk' : k < m := by rw [hlen] at hk; exact hk
    exact ⟨k, _, hk', by rw [← List.getElem?_take_of_lt hk', List.getElem?_eq_getElem hk], by simpa using hod⟩
  · have hsz := F.size
    have hjt := (List.getElem?_eq_some_iff.1 hj).1
    have : (l.drop m)[j]? = some (l[m + j]'(by simp at hsz; omega)) := by rw [List.getElem?_drop]; simp
    exact (hS.of j _ d G this hj).2.1
  · have := h1 j o (by rw [List.getElem?_take_of_lt hj]; exact ho)
    rwa [lexTake _ _ _ _ _ (by omega)] at this
  · exact hT.of d G ((lexR_known l tr a d G m (by omega)).2 ⟨k, o, hk, ho, hd, hG⟩)
  · have hsz := F.size
    have hjt := (List.getElem?_eq_some_iff.1 hj).1
    have : (l.drop m)[j]? = some (l[m + j]'(by simp at hsz; omega)) := by rw [List.getElem?_drop]; simp
    exact (hS.of j _ d G this hj).2.2
  · have hd : (l.drop m)[j]? = some o := by rw [List.getElem?_drop]; exact ho
    rw [List.all_eq_true] at hst
    refine ⟨isStore_spec (hst o (List.mem_of_getElem? hd)), ?_⟩
    obtain ⟨us, h3, h4⟩ := (hS.of j o d G hd hj).1
    exact ⟨us, h3, fun w' hw' => h4 ⟨w', hw'⟩⟩
  · intro k o d _ hk; exfalso; simp [Array.getD] at hk
  · intro j d G _ hk; exfalso; simp [Array.getD] at hk
  · intro k o i hk; exfalso; simp [Array.getD] at hk
  · intro k o d u b hk; exfalso; simp [Array.getD] at hk
  · intro k k' o o' d d' u u' b b' _ hk; exfalso; simp [Array.getD] at hk
  · simp [List.countP_replicate]

/-- what is said of a new block that was never as the variables are when laid -/
theorem RowAt.tough {base : Nat} {cs : Array Value} {T : TypeId} {n : Nat} {own : Bool} {o0 : Obj} (hne : Obj.cells cs T ≠ o0) : Tough own o0 (RowAt base cs T n) :=
  fun u w w' b ⟨k, h0, h1, h2⟩ ho _ hO => ⟨k, h0, h1, by rw [hO.block k fun e => hne (by subst e; rw [h2] at ho; exact Option.some.inj ho)]; exact h2⟩
theorem VarAt.tough {base : Nat} {cs : Array Value} {T : TypeId} {o0 : Obj} : Tough true o0 (VarAt base cs T) :=
  fun u w w' b ⟨k, h0, h1, h2⟩ ho hu hO => ⟨k, h0, h1, by rw [hO.block k fun e => hu rfl (by subst e; rw [h1]; rfl)]; exact h2⟩
end Go.Proofs.Ytgcoepljlkahoaa
