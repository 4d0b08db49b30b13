
/-
  A region that draws its order, walked by facts (as Rel has it), whose first store waits for all ahead of it but one: an 'extract', of which only what stands behind the store makes use.
-/
import Derived.Test.YtipjelkdbbhcpaaRel
set_option linter.unusedSimpArgs false
set_option linter.unusedVariables false
namespace Go.Proofs.Ytipjelkdbbhcpaa
open Go.RowKit

def lateB (ops : Array Oper) (m e : Nat) : Bool := match ops[e]?, ops[m]? with
  | some oe, some om => decide (e < m) && (match oe.op with | .extract (.tmp _) _ => true | _ => false) && oe.guard.isNone && om.guard.isNone && om.dst.isNone && (match oe.dst with | some d => !(om.looksAt ops).contains d | none => false) && (match om.op with | .store .. => true | _ => false) && (match ops[m + 1]? with | some o => waitsOn o e | none => true)
  | _, _ => false
structure Late (ops : Array Oper) (m e : Nat) : Prop where
  le : e < m
  he : ∃ oe t k d, ops[e]? = some oe ∧ oe.op = .extract (.tmp t) k ∧ oe.guard = none ∧ oe.dst = some d ∧ ∃ om T x y, ops[m]? = some om ∧ om.dst = none ∧ om.guard = none ∧ om.op = .store T x y ∧ d ∉ om.looksAt ops
  next : ∀ o, ops[m + 1]? = some o → waitsOn o e = true
theorem late_of {ops : Array Oper} {m e : Nat} (h : lateB ops m e = true) : Late ops m e := by
  unfold lateB at h
  split at h
  · rename_i oe om h1 h2
    simp only [Bool.and_eq_true] at h
    obtain ⟨⟨⟨⟨⟨⟨⟨a1, a2⟩, a3⟩, a4⟩, a5⟩, a6⟩, a7⟩, a8⟩ := h
    refine ⟨by simpa using a1, ?_, fun o ho => by rw [ho] at a8; exact a8⟩
    obtain ⟨t, k, hop⟩ : ∃ t k, oe.op = .extract (.tmp t) k := by
      cases hop : oe.op with
      | extract x k =>
        rw [hop] at a2
        cases x with
        | tmp t => exact ⟨t, k, rfl⟩
        | _ => cases a2
      | _ => rw [hop] at a2; cases a2
    cases hd : oe.dst with
    | none => rw [hd] at a6; simp at a6
    | some d =>
      rw [hd] at a6
      obtain ⟨T, x, y, hst⟩ : ∃ T x y, om.op = .store T x y := by
        cases hop2 : om.op with
        | store T x y => exact ⟨T, x, y, rfl⟩
        | _ => rw [hop2] at a7; cases a7
      exact ⟨oe, t, k, d, h1, hop, by simpa using a3, hd, om, _, _, _, h2, by simpa using a5, by simpa using a4, hst, by simpa using a6⟩
  · simp at h
def relLB (ops : Array Oper) (gs : List Tmp) (n m e : Nat) : Bool :=
  Region.noSelect ops && decide (m ≤ ops.size) &&
  (List.range ops.size).all fun i => match ops[i]? with
    | none => true
    | some oi =>
      oi.after.all (fun e => !Region.binds .any e || decide (e.on < i)) &&
      (match guardOf ops oi with | none => true | some t => !gs.contains t) &&
      (if i < m then decide (m = ops.size) || i == e || (List.range (m + 1)).any fun j => decide (i < j) && (j != e) && (match ops[j]? with | some oj => waitsOn oj i | none => false) else decide (i = m) || waitsOn oi (i - 1)) &&
      (match oi.dst with
      | none => true
      | some d => decide (d < n) && (List.range ops.size).all fun j => i == j || match ops[j]? with
        | none => true
        | some oj => oj.dst != some d && (!(oj.looksAt ops).contains d || (decide (i < j) && waitsOn oj i) || (decide (j < i) && waitsOn oi j)))

structure RelOkL (ops : Array Oper) (gs : List Tmp) (n m e : Nat) : Prop where
  le : m ≤ ops.size
  sel : ∀ (i : Nat) (o : Oper) cs b, ops[i]? = some o → o.op ≠ .select cs b
  low : ∀ i o j, ops[i]? = some o → waitsOn o j = true → j < i
  guard : ∀ (i : Nat) o t, ops[i]? = some o → guardOf ops o = some t → t ∉ gs
  pre : ∀ (i : Nat), i < m → m < ops.size → i ≠ e → ∃ (j : Nat) (oj : Oper), i < j ∧ j ≤ m ∧ j ≠ e ∧ ops[j]? = some oj ∧ waitsOn oj i = true
  tail : ∀ (i : Nat) o, ops[i]? = some o → m < i → waitsOn o (i - 1) = true
  room : ∀ (i : Nat) o d, ops[i]? = some o → o.dst = some d → d < n
  lone : ∀ (i j : Nat) oi oj d, i ≠ j → ops[i]? = some oi → ops[j]? = some oj → oi.dst = some d → oj.dst ≠ some d
  read : ∀ (i j : Nat) oi oj d, i ≠ j → ops[i]? = some oi → ops[j]? = some oj → oi.dst = some d → d ∈ oj.looksAt ops → (i < j ∧ waitsOn oj i = true) ∨ (j < i ∧ waitsOn oi j = true)

theorem relOkL_of {ops : Array Oper} {gs : List Tmp} {n m e : Nat} (h : relLB ops gs n m e = true) : RelOkL ops gs n m e := by
  unfold relLB at h
  rw [Bool.and_eq_true, Bool.and_eq_true] at h
  obtain ⟨⟨hs, hm⟩, h⟩ := h
  rw [List.all_eq_true] at h
  have lt : ∀ (i : Nat) o, ops[i]? = some o → i ∈ List.range ops.size := fun i o ho => by
    rw [List.mem_range]; exact (Array.getElem?_eq_some_iff.1 ho).1
  have H : ∀ (i : Nat) o, ops[i]? = some o → _ := fun i o ho => by
    have := h i (lt i o ho)
    rw [ho] at this
    simp only [Bool.and_eq_true] at this
    exact this
  refine ⟨by simpa using hm, fun i o cs b ho => Region.noSelect_spec hs i o cs b ho, ?_, ?_, ?_, ?_, ?_, ?_, ?_⟩
  · intro i o j ho hw
    obtain ⟨⟨⟨h1, _⟩, _⟩, _⟩ := H i o ho
    unfold waitsOn at hw
    rw [Array.any_eq_true] at hw
    obtain ⟨k, hk, he⟩ := hw
    rw [Bool.and_eq_true, beq_iff_eq] at he
    rw [Array.all_eq_true] at h1
    have := h1 k hk
    simp only [he.1, Bool.not_true, Bool.false_or, decide_eq_true_eq] at this
    omega
  · intro i o t ho hg
    obtain ⟨⟨⟨_, h1⟩, _⟩, _⟩ := H i o ho
    rw [hg] at h1
    simpa using h1
  · intro i hi hlt hie
    have hio : ops[i]? = some (ops[i]'(by omega)) := by simp
    obtain ⟨⟨⟨_, _⟩, h1⟩, _⟩ := H i _ hio
    rw [if_pos hi] at h1
    rw [Bool.or_eq_true, Bool.or_eq_true] at h1
    rcases h1 with (h1 | h1) | h1
    · have := of_decide_eq_true h1
      omega
    · exact absurd (by simpa using h1) hie
    rw [List.any_eq_true] at h1
    obtain ⟨j, hj, h2⟩ := h1
    rw [List.mem_range] at hj
    rw [Bool.and_eq_true, Bool.and_eq_true] at h2
    cases hoj : ops[j]? with
    | none => rw [hoj] at h2; cases h2.2
    | some oj =>
      rw [hoj] at h2
      exact ⟨j, oj, of_decide_eq_true h2.1.1, by omega, by simpa using h2.1.2, hoj, h2.2⟩
  · intro i o ho hi
    obtain ⟨⟨⟨_, _⟩, h1⟩, _⟩ := H i o ho
    rw [if_neg (by omega), Bool.or_eq_true] at h1
    rcases h1 with h1 | h1
    · have := of_decide_eq_true h1
      omega
    · exact h1
  · intro i o d ho hd
    obtain ⟨_, h1⟩ := H i o ho
    rw [hd] at h1
    simp only [Bool.and_eq_true, decide_eq_true_eq] at h1
    exact h1.1
  · intro i j oi oj d hij hi hj hd
    obtain ⟨_, h1⟩ := H i oi hi
    rw [hd] at h1
    simp only [Bool.and_eq_true, decide_eq_true_eq, List.all_eq_true] at h1
    have := h1.2 j (lt j oj hj)
    simp only [hj, Bool.or_eq_true, beq_iff_eq, hij, false_or, Bool.and_eq_true, bne_iff_ne, ne_eq] at this
    exact this.1
  · intro i j oi oj d hij hi hj hd hr
    obtain ⟨_, h1⟩ := H i oi hi
    rw [hd] at h1
    simp only [Bool.and_eq_true, decide_eq_true_eq, List.all_eq_true] at h1
    have := h1.2 j (lt j oj hj)
    simp only [hj, Bool.or_eq_true, beq_iff_eq, hij, false_or, Bool.and_eq_true, bne_iff_ne, ne_eq, decide_eq_true_eq] at this
    have h3 := this.2
    have hc : (oj.looksAt ops).contains d = true := by simpa using hr
    rw [hc] at h3
    simpa using h3

section
variable {P : Program} {l : List Oper} {gs fs : List Tmp} {a0 : Act} {w0 : World} {tr : Nat → Got} {m e : Nat}
theorem InvR.putL {L : Array Bool} {a : Act} {w w' : World} (I : InvR fs l tr m a0 w0 L a w) (F : RelOkL l.toArray gs a0.tmps.size m e) {i : Nat} {o : Oper} (hi : l[i]? = some o) (him : i < m) (hst : ∀ k, k < m → (tr k).steady)
    (hwait : ∀ j, waitsOn o j = true → L.getD j false = true) {u : Value} (hb : Below w.heap.size w w') (hok : o.dst.isSome = true → (tr i).ok u w') (hown : ∀ d b, o.dst = some d → d ∈ fs → ownB u = some b → w.heap.size ≤ b ∧ b < w'.heap.size) :
    InvR fs l tr m a0 w0 (L.setIfInBounds i true) (a.put o.dst u) w' := by
  have hiL : i < L.size := by rw [I.hl]; exact (List.getElem?_eq_some_iff.1 hi).1
  have ha : ∀ {k o}, l[k]? = some o → l.toArray[k]? = some o := fun h => by rw [List.getElem?_toArray]; exact h
  refine ⟨I.hC.trans (hb.mono I.hC.size), by rw [put_defers]; exact I.hd, by rw [put_size]; exact I.hs, by simp [I.hl], ?_, ?_, ?_, ?_, ?_, ?_⟩
  · intro k hk
    rw [getD_set L i k hiL] at hk
    rcases hk with rfl | hk
    · exact him
    · exact I.hn k hk
  · intro k o' d hk ho' hd
    rw [getD_set L i k hiL] at hk
    by_cases e : k = i
    · subst e
      rw [hi] at ho'
      cases ho'
      rw [hd]
      exact ⟨u, put_getElem_eq (by rw [I.hs]; exact F.room k o d (ha hi) hd), hok (by rw [hd]; rfl)⟩
    · have hk' := hk.resolve_left e
      obtain ⟨x, h1, h2⟩ := I.hv k o' d hk' ho' hd
      exact ⟨x, by rw [put_getElem_ne (F.lone k i o' o d e (ha ho') (ha hi) hd)]; exact h1, Got.keep (hst k (I.hn k hk')) h2 hb⟩
  · intro d hn
    rw [put_getElem_ne (hn i o ((getD_set L i i hiL).2 (.inl rfl)) hi)]
    exact I.ho d fun k o' hk => hn k o' ((getD_set L i k hiL).2 (.inr hk))
  · intro k o' j hk ho' hw
    rw [getD_set L i k hiL] at hk
    refine (getD_set L i j hiL).2 (.inr ?_)
    by_cases e : k = i
    · subst e
      rw [hi] at ho'
      cases ho'
      exact hwait j hw
    · exact I.hc k o' j (hk.resolve_left e) ho' hw
  · intro k o' d u' b hk ho' hd hdf hu' hbb
    rw [getD_set L i k hiL] at hk
    by_cases e : k = i
    · subst e
      rw [hi] at ho'
      cases ho'
      rw [hd, put_getElem_eq (by rw [I.hs]; exact F.room k o d (ha hi) hd)] at hu'
      cases hu'
      exact (hown d b hd hdf hbb).2
    · rw [put_getElem_ne (F.lone k i o' o d e (ha ho') (ha hi) hd)] at hu'
      exact Nat.lt_of_lt_of_le (I.hb k o' d u' b (hk.resolve_left e) ho' hd hdf hu' hbb) hb.size
  · intro k k' o1 o2 d1 d2 u1 u2 b1 b2 hkk hk hk' ho1 ho2 hd1 hd2 hf1 hf2 hu1 hu2 hb1 hb2
    rw [getD_set L i k hiL] at hk
    rw [getD_set L i k' hiL] at hk'
    by_cases e : k = i
    · subst e
      have e' : k' ≠ k := Ne.symm hkk
      rw [hi] at ho1
      cases ho1
      rw [hd1, put_getElem_eq (by rw [I.hs]; exact F.room k o d1 (ha hi) hd1)] at hu1
      cases hu1
      have h1 := (hown d1 b1 hd1 hf1 hb1).1
      rw [put_getElem_ne (F.lone k' k o2 o d2 e' (ha ho2) (ha hi) hd2)] at hu2
      have h2 := I.hb k' o2 d2 u2 b2 (hk'.resolve_left e') ho2 hd2 hf2 hu2 hb2
      omega
    · rw [put_getElem_ne (F.lone k i o1 o d1 e (ha ho1) (ha hi) hd1)] at hu1
      by_cases e' : k' = i
      · subst e'
        rw [hi] at ho2
        cases ho2
        rw [hd2, put_getElem_eq (by rw [I.hs]; exact F.room k' o d2 (ha hi) hd2)] at hu2
        cases hu2
        have h1 := (hown d2 b2 hd2 hf2 hb2).1
        have h2 := I.hb k o1 d1 u1 b1 (hk.resolve_left e) ho1 hd1 hf1 hu1 hb1
        omega
      · rw [put_getElem_ne (F.lone k' i o2 o d2 e' (ha ho2) (ha hi) hd2)] at hu2
        exact I.hf k k' o1 o2 d1 d2 u1 u2 b1 b2 hkk (hk.resolve_left e) (hk'.resolve_left e') ho1 ho2 hd1 hd2 hf1 hf2 hu1 hu2 hb1 hb2
theorem rel_stepL {Q : Exit → Act → World → Prop} (F : RelOkL l.toArray gs a0.tmps.size m e) (hy : ∀ j o, j < m → l[j]? = some o → YieldR P l.toArray gs fs (fun w => Below w0.heap.size w0 w) o (lexR l tr (a0, []) j) (tr j))
    {L : Array Bool} {a : Act} {w : World} (I : InvR fs l tr m a0 w0 L a w) {i : Nat} (hi : i ∈ Region.ready .any l.toArray L) (him : i < m) :
    wpOp P l.toArray Q i (fun a' w' => InvR fs l tr m a0 w0 (L.setIfInBounds i true) a' w') a w := by
  obtain ⟨hun, o, hio, hall⟩ := mem_ready.1 hi
  have hi' : l[i]? = some o := by rw [List.getElem?_toArray] at hio; exact hio
  have hlen : i < l.length := (List.getElem?_eq_some_iff.1 hi').1
  have hml : m ≤ l.length := by have := F.le; simpa using this
  have ha : ∀ {k o}, l[k]? = some o → l.toArray[k]? = some o := fun h => by rw [List.getElem?_toArray]; exact h
  have hunf : ¬ L.getD i false = true := by
    simp only [Array.getD_eq_getD_getElem?] at hun ⊢
    cases h : L[i]? with
    | none => simp
    | some b => rw [h] at hun; simpa using hun
  have hwait : ∀ j, waitsOn o j = true → L.getD j false = true := fun j hw => by
    unfold waitsOn at hw
    rw [Array.any_eq_true] at hw
    obtain ⟨k, hk, he⟩ := hw
    rw [Bool.and_eq_true, beq_iff_eq] at he
    have := hall o.after[k] (by simp) he.1
    rwa [he.2] at this
  have hst : ∀ k, k < m → (tr k).steady := fun k hk => (hy k l[k] hk (by simp)).steady
  have writer : ∀ d ∈ o.looksAt l.toArray, ∀ j oj, j < i → l[j]? = some oj → oj.dst = some d → ∃ u, a.tmps[d]? = some u ∧ (tr j).ok u w := by
    intro d hd j oj hj hoj hdst
    have hL : L.getD j false = true := by
      rcases F.read j i oj o d (by omega) (ha hoj) hio hdst hd with h | h
      · exact hwait j h.2
      · omega
    exact I.hv j oj d hL hoj hdst
  have known := fun d G => lexR_known l tr a0 d G i (by omega)
  have hlexs := lexR_size l tr (a0, []) i (by omega)
  have hY := hy i o him hi'
  generalize hs : lexR l tr (a0, []) i = s at *
  have inGs : ∀ d G, (d, G) ∈ s.2 → d ∈ gs := fun d G h => by
    obtain ⟨j, oj, hj, hoj, hdst, hG⟩ := (known d G).1 h
    have h1 := hy j oj (by omega) hoj
    rw [hG] at h1
    obtain ⟨d', h2, h3⟩ := h1.named
    rw [hdst] at h2
    cases h2
    exact h3
  -- the frame that the walk had, with the true values in the slots of which it knew facts
  have inst : ∀ us : List Tmp, (gs.filter fun d => (o.looksAt l.toArray).contains d) = us → ∀ d G, (d, G) ∈ pickR us s.2 → ∃ u, a.tmps[d]? = some u ∧ G u w := by
    intro us hus d G hm
    obtain ⟨h1, h2⟩ := pickR_mem hm
    obtain ⟨j, oj, hj, hoj, hdst, hG⟩ := (known d G).1 h1
    have hl : d ∈ o.looksAt l.toArray := by
      rw [← hus] at h2
      simpa using (List.mem_filter.1 h2).2
    obtain ⟨u, h3, h4⟩ := writer d hl j oj hj hoj hdst
    rw [hG] at h4
    exact ⟨u, h3, h4⟩
  have plain : ∀ d ∈ o.looksAt l.toArray, (∀ G, (d, G) ∉ s.2) → a.tmps[d]? = s.1.tmps[d]? := by
    intro d hd hno
    by_cases hw : ∃ j oj, j < i ∧ l[j]? = some oj ∧ oj.dst = some d
    · obtain ⟨j, oj, hj, hoj, hdst⟩ := hw
      obtain ⟨u, h1, h2⟩ := writer d hd j oj hj hoj hdst
      cases hx : tr j with
      | fact G => exact absurd ((known d G).2 ⟨j, oj, hj, hoj, hdst, hx⟩) (hno G)
      | val v =>
        rw [hx] at h2
        have h3 := lexR_new l tr (a0, []) d j oj v hoj hdst hx (F.room j oj d (ha hoj) hdst) (fun i' o' hne ho' => F.lone j i' oj o' d (Ne.symm hne) (ha hoj) (ha ho') hdst) i (by omega) hj
        rw [hs] at h3
        rw [h1, h3, show u = v from h2]
    · have hno2 : ∀ j oj, j < i → l[j]? = some oj → oj.dst = some d → ∃ G, tr j = .fact G := fun j oj hj hoj hdst => absurd ⟨j, oj, hj, hoj, hdst⟩ hw
      have h3 := lexR_old l tr (a0, []) d i (by omega) hno2
      rw [hs] at h3
      rw [h3]
      refine I.ho d fun k ok hk hok hdst => ?_
      by_cases e : k = i
      · subst e; exact hunf hk
      · rcases F.read k i ok o d e (ha hok) hio hdst hd with h | h
        · exact hw ⟨k, ok, h.1, hok, hdst⟩
        · exact hunf (I.hc k ok i hk hok h.2)
  have same : ∀ us : List Tmp, (gs.filter fun d => (o.looksAt l.toArray).contains d) = us → ∀ d ∈ o.looksAt l.toArray, (fillAs a (pickR us s.2) s.1).tmps[d]? = a.tmps[d]? := by
    intro us hus d hd
    by_cases hk : ∃ G, (d, G) ∈ s.2
    · obtain ⟨G, hG⟩ := hk
      have hdu : d ∈ us := by
        rw [← hus]
        exact List.mem_filter.2 ⟨inGs d G hG, by simpa using hd⟩
      obtain ⟨j, oj, hj, hoj, hdst, hx⟩ := (known d G).1 hG
      have hr := F.room j oj d (ha hoj) hdst
      exact fillAs_in a _ _ G (pickR_has hdu hG) (by rw [hlexs.1]; exact hr) (by rw [I.hs]; exact hr)
    · rw [fillAs_out a _ _ fun G hG => hk ⟨G, (pickR_mem hG).1⟩]
      exact (plain d hd fun G hG => hk ⟨G, hG⟩).symm
  -- the guard is the same
  have hwan : Region.wanted o (yielded l.toArray a.tmps) = Region.wanted o (yielded l.toArray s.1.tmps) := by
    unfold Region.wanted
    cases hg : o.guard with
    | none => rfl
    | some gw =>
      obtain ⟨g, want⟩ := gw
      have : yielded l.toArray a.tmps g = yielded l.toArray s.1.tmps g := by
        unfold yielded
        cases ht : (l.toArray[g]?).bind (·.dst) with
        | none => rfl
        | some t =>
          have h1 : guardOf l.toArray o = some t := by unfold guardOf; rw [hg]; exact ht
          have h2 : a.tmps[t]? = s.1.tmps[t]? := plain t (List.mem_append_right _ (by rw [hg]; simpa using ht)) fun G hG => F.guard i o t hio h1 (inGs t G hG)
          simp only [Option.bind_some, h2]
      simp only [this]
  unfold YieldR at hY
  unfold wpOp
  simp only [hio]
  rw [hwan]
  by_cases hwn : Region.wanted o (yielded l.toArray s.1.tmps) = true
  · rw [if_pos hwn] at hY
    rw [if_pos hwn]
    refine .inl ?_
    unfold Oper.wp
    cases hx : tr i with
    | val v =>
      rw [hx] at hY
      obtain ⟨us, hus, hnf, h1⟩ := hY
      have noOwn : ∀ (u : Value) (w' : World) d b, o.dst = some d → d ∈ fs → ownB u = some b → w.heap.size ≤ b ∧ b < w'.heap.size := fun u w' d b hd hdf _ => by
        rw [hd] at hnf
        simp at hnf
        exact absurd hdf hnf
      have h3 := fillR_out _ _ (h1 w I.hC) (inst us hus)
      have hrun := exec_run (P := P) (F.sel i o · · hio) (same us hus) w
      unfold Oper.quietAt at h3
      rw [hrun] at h3
      generalize (execOp a.eval o).run P w = r at *
      cases r with
      | ok n w' =>
        cases n <;> simp only [Oper.quietUpon] at h3 <;> simp only [Oper.upon]
        case value u =>
          obtain ⟨e1, e2⟩ := h3
          subst e1 e2
          exact I.putL F hi' him hst hwait (Below.refl _ _) (fun _ => by rw [hx]; exact rfl) (noOwn _ _)
        case skip =>
          obtain ⟨e1, e2⟩ := h3
          subst e1
          exact I.putL F hi' him hst hwait (Below.refl _ _) (fun _ => by rw [hx]; exact e2.symm) (noOwn _ _)
        case enter f args =>
          obtain ⟨e1, hc⟩ := h3
          subst e1
          exact hc.mono fun e w'' ⟨he, hw''⟩ => by
            subst he
            exact I.putL F hi' him hst hwait hw'' (fun _ => by rw [hx]; exact rfl) (noOwn _ _)
      | halt x w' => simp only [Oper.quietUpon] at h3
    | fact G =>
      rw [hx] at hY
      obtain ⟨us, d, hd, hdg, hG, hus, h1⟩ := hY
      have h3 := fillR_out _ _ (h1 w I.hC) (inst us hus)
      have hrun := exec_run (P := P) (F.sel i o · · hio) (same us hus) w
      have hwn' : Region.wanted o (yielded l.toArray (fillAs a (pickR us s.2) s.1).tmps) = true := by rw [wanted_same (same us hus), hwan, hwn]
      have hroom := F.room i o d hio hd
      have hsz : (fillAs a (pickR us s.2) s.1).tmps.size = a0.tmps.size := (fillAs_size a _ _).1.trans hlexs.1
      generalize fillAs a (pickR us s.2) s.1 = b at *
      have noLet : ∀ w, ¬ LetsOut (RelPost (fs.contains d) d b.defers w G) := fun w ⟨_, _, h⟩ => by have := h.ex; cases this
      have h4 : Oper.wp P o b w (wpList P l.toArray (RelPost (fs.contains d) d b.defers w G) []) (RelPost (fs.contains d) d b.defers w G) := by
        unfold wpList at h3
        rw [if_pos hwn'] at h3
        exact h3.resolve_right fun h => noLet _ h.2
      have fin : ∀ (u : Value) (w' : World), RelPost (fs.contains d) d b.defers w G .normal (b.put o.dst u) w' → InvR fs l tr m a0 w0 (L.setIfInBounds i true) (a.put o.dst u) w' := fun u w' h => by
        have hu : (b.put o.dst u).tmps.getD d undef = u := by
          rw [hd, Array.getD_eq_getD_getElem?, put_getElem_eq (by rw [hsz]; exact hroom)]
          rfl
        refine I.putL F hi' him hst hwait h.below (fun _ => ?_) (fun d' b' hd' hdf hb' => ?_)
        · rw [hx]
          have := h.fact
          rw [hu] at this
          exact this
        · rw [hd] at hd'
          cases hd'
          obtain ⟨b2, h1, h2, h3⟩ := h.own (by simpa using hdf)
          rw [hu, hb'] at h1
          cases h1
          exact ⟨h2, h3⟩
      unfold Oper.wp at h4
      rw [hrun] at h4
      generalize (execOp a.eval o).run P w = r at *
      cases r with
      | ok n w' =>
        cases n <;> simp only [Oper.upon] at h4 ⊢
        case value u => exact fin u w' h4
        case skip => exact fin undef w' h4
        case defer df =>
          have := RelPost.df h4
          rw [put_defers] at this
          exact absurd (congrArg List.length this) (by simp)
        case enter f args =>
          refine h4.mono fun e w'' he => ?_
          cases e with
          | returned u => exact fin u w'' he
          | panicked c => exact absurd he.ex (by simp)
          | outgrown => exact absurd he (noLet _)
        case row row args => exact h4.mono fun u w'' he => fin u w'' he
      | halt x w' =>
        cases x <;> simp only [Oper.upon] at h4 ⊢
        exact absurd h4.ex (by simp)
  · rw [if_neg hwn] at hY
    rw [if_neg hwn]
    exact I.putL F hi' him hst hwait (Below.refl _ _) (fun _ => by rw [hY]; exact rfl) (fun d b _ _ hb => by cases hb)

/-- the last operations, one behind the other -/
theorem rel_tailL {Q : Exit → Act → World → Prop} (F : RelOkL l.toArray gs a0.tmps.size m e) : ∀ (n : Nat) (k : Nat), k + n = l.length → m ≤ k → ∀ (fuel : Nat) (L : Array Bool) (a : Act) (w : World), L.size = l.length → (∀ i, i < l.length → (L.getD i false = true ↔ i < k)) → n ≤ fuel →
    wpList P l.toArray Q (l.drop k) a w → wpAny P .any l.toArray Q fuel L a w := by
  intro n
  induction n with
  | zero =>
    intro k hk hm fuel L a w hL hLk _ h
    rw [List.drop_of_length_le (by omega)] at h
    have hr : Region.ready .any l.toArray L = [] := all_ready fun i hi => (hLk i hi).2 (by omega)
    cases fuel with
    | zero => exact ⟨hr, h⟩
    | succ fuel => exact ⟨fun _ => h, fun i hi => by rw [hr] at hi; cases hi⟩
  | succ n ih =>
    intro k hk hm fuel L a w hL hLk hf h
    obtain ⟨fuel, rfl⟩ : ∃ f, fuel = f + 1 := ⟨fuel - 1, by omega⟩
    have hkl : k < l.length := by omega
    have hko : l[k]? = some l[k] := by simp
    have hkr : k ∈ Region.ready .any l.toArray L := by
      refine ready_of hL hko ?_ fun j hj => ?_
      · have := hLk k hkl
        cases hb : L.getD k false with
        | false => rfl
        | true => exact absurd (this.1 hb) (by omega)
      · have hjk := F.low k l[k] j (by rw [List.getElem?_toArray]; exact hko) hj
        exact (hLk j (by omega)).2 hjk
    refine ⟨fun h0 => (List.not_mem_nil (h0 ▸ hkr)).elim, fun i hi => ?_⟩
    obtain ⟨hil, hin⟩ := ready_not hL hi
    have hik : i = k := by
      have h1 : ¬ i < k := fun h => by rw [(hLk i hil).2 h] at hin; cases hin
      by_cases e : i = k
      · exact e
      have hio : l[i]? = some l[i] := by simp
      have h2 := ready_spec hio hi (i - 1) (F.tail i l[i] (by rw [List.getElem?_toArray]; exact hio) (by omega))
      have := (hLk (i - 1) (by omega)).1 h2
      omega
    subst hik
    rw [List.drop_eq_getElem_cons hil] at h
    unfold wpList at h
    unfold wpOp
    have hio : l.toArray[i]? = some l[i] := by simp
    simp only [hio]
    have hnext : ∀ i', i' < l.length → ((L.setIfInBounds i true).getD i' false = true ↔ i' < i + 1) := fun i' hi' => by
      rw [getD_set L i i' (by omega)]
      have := hLk i' hi'
      constructor
      · rintro (rfl | h)
        · omega
        · have := this.1 h; omega
      · intro h
        by_cases e : i' = i
        · exact .inl e
        · exact .inr (this.2 (by omega))
    have hmono : ∀ a' w', wpList P l.toArray Q (l.drop (i + 1)) a' w' → wpAny P .any l.toArray Q fuel (L.setIfInBounds i true) a' w' := fun a' w' h' => ih (i + 1) (by omega) (by omega) fuel _ a' w' (by simp [hL]) hnext (by omega) h'
    split
    · rename_i hw
      rw [if_pos hw] at h
      exact h.imp (Oper.wp_mono hmono) id
    · rename_i hw
      rw [if_neg hw] at h
      exact hmono _ _ h

theorem rel_doneL {K : Act → World → Prop} (hfs : ∀ d ∈ fs, ∃ k o, k < m ∧ l[k]? = some o ∧ o.dst = some d) (F : RelOkL l.toArray gs a0.tmps.size m e) (hy : ∀ j o, j < m → l[j]? = some o → YieldR P l.toArray gs fs (fun w => Below w0.heap.size w0 w) o (lexR l tr (a0, []) j) (tr j))
    (hQ : ∀ w, Below w0.heap.size w0 w → fillR w (lexR l tr (a0, []) m).2 (lexR l tr (a0, []) m).1 fun a => Unlike fs a → K a w)
    {L : Array Bool} {a : Act} {w : World} (I : InvR fs l tr m a0 w0 L a w) (hall : ∀ k, k < m → L.getD k false = true) : K a w := by
  have hml : m ≤ l.length := by have := F.le; simpa using this
  have ha : ∀ {k o}, l[k]? = some o → l.toArray[k]? = some o := fun h => by rw [List.getElem?_toArray]; exact h
  have known := fun d G => lexR_known l tr a0 d G m hml
  have hlexs := lexR_size l tr (a0, []) m hml
  have h := fillR_out (b := a) _ _ (hQ w I.hC) fun d G hm => by
    obtain ⟨j, oj, hj, hoj, hdst, hG⟩ := (known d G).1 hm
    obtain ⟨u, h1, h2⟩ := I.hv j oj d (hall j hj) hoj hdst
    rw [hG] at h2
    exact ⟨u, h1, h2⟩
  have he : fillAs a (lexR l tr (a0, []) m).2 (lexR l tr (a0, []) m).1 = a := by
    have h1 := fillAs_size a (lexR l tr (a0, []) m).2 (lexR l tr (a0, []) m).1
    have ht : ∀ d : Tmp, (fillAs a (lexR l tr (a0, []) m).2 (lexR l tr (a0, []) m).1).tmps[d]? = a.tmps[d]? := by
      intro d
      by_cases hk : ∃ G, (d, G) ∈ (lexR l tr (a0, []) m).2
      · obtain ⟨G, hG⟩ := hk
        obtain ⟨j, oj, hj, hoj, hdst, hx⟩ := (known d G).1 hG
        have hr := F.room j oj d (ha hoj) hdst
        exact fillAs_in a _ _ G hG (by rw [hlexs.1]; exact hr) (by rw [I.hs]; exact hr)
      · rw [fillAs_out a _ _ fun G hG => hk ⟨G, hG⟩]
        by_cases hw : ∃ j oj, j < m ∧ l[j]? = some oj ∧ oj.dst = some d
        · obtain ⟨j, oj, hj, hoj, hdst⟩ := hw
          obtain ⟨u, h2, h3⟩ := I.hv j oj d (hall j hj) hoj hdst
          cases hx : tr j with
          | fact G => exact absurd ⟨G, (known d G).2 ⟨j, oj, hj, hoj, hdst, hx⟩⟩ hk
          | val v =>
            rw [hx] at h3
            rw [lexR_new l tr (a0, []) d j oj v hoj hdst hx (F.room j oj d (ha hoj) hdst) (fun i' o' hne ho' => F.lone j i' oj o' d (Ne.symm hne) (ha hoj) (ha ho') hdst) m hml hj, h2, show u = v from h3]
        · rw [lexR_old l tr (a0, []) d m hml fun j oj hj hoj hdst => absurd (Exists.intro j (Exists.intro oj ⟨hj, hoj, hdst⟩)) hw]
          exact (I.ho d fun k ok hk hok hdst => hw ⟨k, ok, I.hn k hk, hok, hdst⟩).symm
    generalize fillAs a (lexR l tr (a0, []) m).2 (lexR l tr (a0, []) m).1 = b at *
    have hd : b.defers = a.defers := by rw [h1.2, hlexs.2, I.hd]
    obtain ⟨t, d⟩ := b
    obtain ⟨t', d'⟩ := a
    have e1 : t = t' := Array.ext_getElem? ht
    have e2 : d = d' := hd
    rw [e1, e2]
  rw [he] at h
  refine h ⟨fun d d' u u' b b' hd hd' hne hu hu' hb hb' => ?_⟩
  obtain ⟨k, o, hk, ho, hod⟩ := hfs d hd
  obtain ⟨k', o', hk', ho', hod'⟩ := hfs d' hd'
  refine I.hf k k' o o' d d' u u' b b' (fun e => hne ?_) (hall k hk) (hall k' hk') ho ho' hod hod' hd hd' hu hu' hb hb'
  subst e
  rw [ho] at ho'
  cases ho'
  rw [hod] at hod'
  cases hod'
  rfl

/-- the first of the last operations, which gives no value and does not panic, then the others -/
def LateTail (P : Program) (ops : Array Oper) (Q : Exit → Act → World → Prop) : List Oper → Act → World → Prop
  | [], _, _ => True
  | o :: rest, a, w => wpList P ops (fun ex a' w' => ex = .normal ∧ wpList P ops Q rest a' w') [o] a w

theorem run_extract_pure {P : Program} {v : Value} {k : Nat} {n : Next} {w w1 : World} (h : (do pure (Next.value (← Instr.extract v k)) : Sem Next).run P w = .ok n w1) :
    ∃ u, n = .value u ∧ w1 = w ∧ ∀ w', (do pure (Next.value (← Instr.extract v k)) : Sem Next).run P w' = .ok (.value u) w' := by
  cases v with
  | tuple vs =>
    unfold Instr.extract at h ⊢
    cases hv : vs[k]? with
    | none => simp [hv, go_sem] at h
    | some u =>
      simp [hv, go_sem] at h ⊢
      obtain ⟨rfl, rfl⟩ := h
      exact ⟨rfl, rfl⟩
  | _ => simp [Instr.extract, go_sem] at h
theorem run_store_skip {P : Program} {s : Sem Unit} {n : Next} {w w1 : World} (h : (do s; pure .skip : Sem Next).run P w = .ok n w1) : n = .skip := by
  rw [Sem.run_bind] at h
  cases hs : s.run P w with
  | ok x w' =>
    rw [hs] at h
    cases h
    rfl
  | halt x w' => rw [hs] at h; cases h
theorem count_ge : ∀ (xs : List Bool) (m : Nat), (∀ i, i < xs.length → m ≤ i → xs[i]? = some false) → xs.length - m ≤ xs.countP (· == false) := by
  intro xs
  induction xs with
  | nil => intro m _; simp
  | cons x xs ih =>
    intro m h
    cases m with
    | zero =>
      have h0 := h 0 (by simp) (Nat.le_refl _)
      simp at h0
      have := ih 0 fun i hi _ => by have := h (i + 1) (by simpa using hi) (Nat.zero_le _); simpa using this
      subst h0
      simp only [List.length_cons, List.countP_cons, beq_self_eq_true, if_true]
      omega
    | succ m =>
      have := ih m fun i hi hm => by have := h (i + 1) (by simpa using hi) (by omega); simpa using this
      simp only [List.length_cons, List.countP_cons]
      omega
theorem rest_le {L : Array Bool} {m : Nat} (h : ∀ i, i < L.size → (L.getD i false = true → i < m)) {fuel : Nat} (hc : L.toList.countP (· == false) ≤ fuel) : L.size - m ≤ fuel := by
  have h2 := count_ge L.toList m fun i hi hm => by
    have hiL : i < L.size := by simpa using hi
    have hb : L.getD i false = false := by
      cases hb : L.getD i false with
      | false => rfl
      | true => have := h i hiL hb; omega
    rw [Array.getD_eq_getD_getElem?, Array.getElem?_eq_getElem hiL] at hb
    rw [Array.getElem?_toList, Array.getElem?_eq_getElem hiL]
    simpa using hb
  rw [Array.length_toList] at h2
  exact Nat.le_trans h2 hc

theorem rel_anyL (hE : Late l.toArray m e) {Q : Exit → Act → World → Prop} (hfs : ∀ d ∈ fs, ∃ k o, k < m ∧ l[k]? = some o ∧ o.dst = some d) (F : RelOkL l.toArray gs a0.tmps.size m e) (hy : ∀ j o, j < m → l[j]? = some o → YieldR P l.toArray gs fs (fun w => Below w0.heap.size w0 w) o (lexR l tr (a0, []) j) (tr j))
    (hQ : ∀ w, Below w0.heap.size w0 w → fillR w (lexR l tr (a0, []) m).2 (lexR l tr (a0, []) m).1 fun a => Unlike fs a → LateTail P l.toArray Q (l.drop m) a w) :
    ∀ (fuel : Nat) (L : Array Bool) (a : Act) (w : World), InvR fs l tr m a0 w0 L a w → L.toList.countP (· == false) ≤ fuel → wpAny P .any l.toArray Q fuel L a w := by
  have hml : m ≤ l.length := by have := F.le; simpa using this
  have ha : ∀ {k o}, l[k]? = some o → l.toArray[k]? = some o := fun h => by rw [List.getElem?_toArray]; exact h
  have ah : ∀ {k o}, l.toArray[k]? = some o → l[k]? = some o := fun h => by rw [List.getElem?_toArray] at h; exact h
  obtain ⟨oe, t, kk, d, he0, heop, heg, hed, om, T, sx, sy, hm0, hmd, hmg, hmop, hdm⟩ := hE.he
  have he1 := ah he0
  have hm1 := ah hm0
  have hmlt : m < l.length := (List.getElem?_eq_some_iff.1 hm1).1
  have hem := hE.le
  have hdrop : l.drop m = om :: l.drop (m + 1) := by
    rw [List.drop_eq_getElem_cons hmlt]
    congr 1
    rw [List.getElem?_eq_getElem hmlt] at hm1
    exact Option.some.inj hm1
  have wantE : ∀ b : Act, Region.wanted oe (yielded l.toArray b.tmps) = true := fun b => wanted_free heg
  have wantM : ∀ b : Act, Region.wanted om (yielded l.toArray b.tmps) = true := fun b => wanted_free hmg
  -- what the first of the last operations gives
  have tail1 : ∀ (b : Act) (w : World), LateTail P l.toArray Q (l.drop m) b w → ∃ w', (execOp b.eval om).run P w = .ok .skip w' ∧ wpList P l.toArray Q (l.drop (m + 1)) b w' := by
    intro b w h
    rw [hdrop] at h
    have h : wpList P l.toArray (fun ex a' w' => ex = .normal ∧ wpList P l.toArray Q (l.drop (m + 1)) a' w') [om] b w := h
    unfold wpList at h
    rw [if_pos (wantM b)] at h
    have h1 := h.resolve_right fun h => by obtain ⟨_, _, _, h, _⟩ := h; cases h
    unfold Oper.wp at h1
    cases hr : (execOp b.eval om).run P w with
    | ok n w' =>
      have hn : n = .skip := by
        unfold execOp at hr
        rw [hmop] at hr
        exact run_store_skip hr
      subst hn
      rw [hr, Oper.upon_skip, hmd] at h1
      unfold wpList at h1
      exact ⟨w', rfl, h1.2⟩
    | halt x w' =>
      rw [hr] at h1
      cases x <;> simp only [Oper.upon] at h1
      exact absurd h1.1 (by simp)
  have tailed : ∀ (fuel : Nat) (L : Array Bool) (a : Act) (w : World), InvR fs l tr m a0 w0 L a w → L.toList.countP (· == false) ≤ fuel → (∀ k, k < m → L.getD k false = true) → wpAny P .any l.toArray Q fuel L a w := by
    intro fuel L a w I hc hall
    have h := rel_doneL (K := fun a w => LateTail P l.toArray Q (l.drop m) a w) hfs F hy hQ I hall
    have hiff : ∀ i, i < l.length → (L.getD i false = true ↔ i < m) := fun i hi => ⟨I.hn i, hall i⟩
    refine rel_tailL F (l.length - m) m (by omega) (Nat.le_refl _) fuel L a w I.hl hiff ?_ ?_
    · have := rest_le (m := m) (fun i hi => I.hn i) hc
      rwa [I.hl] at this
    · obtain ⟨w', h1, h2⟩ := tail1 a w h
      rw [hdrop]
      unfold wpList
      rw [if_pos (wantM a)]
      refine .inl ?_
      unfold Oper.wp
      rw [h1, Oper.upon_skip, hmd]
      exact h2
  intro fuel
  induction fuel with
  | zero =>
    intro L a w I hc
    exact tailed 0 L a w I hc fun k hk => count_none hc k (by rw [I.hl]; omega)
  | succ fuel ih =>
    intro L a w I hc
    by_cases hdone : ∀ k, k < m → L.getD k false = true
    · exact tailed _ L a w I hc hdone
    have notM : L.getD m false = false := by
      cases hb : L.getD m false with
      | false => rfl
      | true => exact absurd (I.hn m hb) (by omega)
    -- the store is ready: all ahead of it but e are done
    have atM : m ∈ Region.ready .any l.toArray L → ∀ k, k < m → k ≠ e → L.getD k false = true := by
      intro hi
      have spec := ready_spec hm1 hi
      have H : ∀ n k, k + n = m → k < m → k ≠ e → L.getD k false = true := by
        intro n
        induction n using Nat.strongRecOn with
        | ind n ihn =>
          intro k hk hkm hke
          obtain ⟨j, oj, hkj, hjm, hje, hoj, hw⟩ := F.pre k hkm (by simp; omega) hke
          have hoj' := ah hoj
          by_cases e1 : j = m
          · rw [e1, hm1] at hoj'
            cases hoj'
            exact spec k hw
          · exact I.hc j oj k (ihn (m - j) (by omega) j (by omega) (by omega) hje) hoj' hw
      exact fun k hk => H (m - k) k (by omega) hk
    have early : ∀ i, i ∈ Region.ready .any l.toArray L → i < m ∨ i = m := by
      intro i hi
      obtain ⟨hil, hin⟩ := ready_not I.hl hi
      have hio : l[i]? = some l[i] := by simp
      have spec := ready_spec hio hi
      by_cases h1 : m < i
      · have h2 := spec (i - 1) (F.tail i l[i] (ha hio) h1)
        have := I.hn _ h2
        omega
      · omega
    refine ⟨fun hr => ?_, fun i hi => ?_⟩
    · exfalso
      apply hdone
      intro k
      induction k using Nat.strongRecOn with
      | ind k ihk =>
        intro hk
        cases hb : L.getD k false with
        | true => rfl
        | false =>
          have hko : l[k]? = some (l[k]'(by omega)) := by simp
          have := ready_of I.hl hko hb fun j hj => by
            have hlow := F.low k _ j (ha hko) hj
            exact ihk j hlow (by omega)
          rw [hr] at this
          cases this
    · obtain ⟨hil, hin⟩ := ready_not I.hl hi
      rcases early i hi with him | him
      · exact wpOp_mono (fun a' w' I' => ih _ a' w' I' (count_set (by rw [I.hl]; exact hil) hin hc)) (rel_stepL F hy I hi him)
      · subst him
        have hdn := atM hi
        have hLe : L.getD e false = false := by
          cases hb : L.getD e false with
          | false => rfl
          | true =>
            exact absurd (fun k hk => by
              by_cases h : k = e
              · rw [h, hb]
              · exact hdn k hk h) hdone
        have heR : e ∈ Region.ready .any l.toArray L := ready_of I.hl he1 hLe fun j hj => by
          have := F.low e oe j he0 hj
          exact hdn j (by omega) (by omega)
        -- e, as if it came now
        have hs := rel_stepL (Q := fun _ _ _ => False) F hy I heR hem
        unfold wpOp at hs
        simp only [he0] at hs
        rw [if_pos (wantE a)] at hs
        have hs2 := hs.resolve_right fun h => by obtain ⟨_, _, _, h⟩ := h; exact h
        clear hs
        unfold Oper.wp at hs2
        obtain ⟨u, hrun, I'⟩ : ∃ u, (∀ w', (execOp a.eval oe).run P w' = .ok (.value u) w') ∧ InvR fs l tr i a0 w0 (L.setIfInBounds e true) (a.put oe.dst u) w := by
          cases hr : (execOp a.eval oe).run P w with
          | ok n w' =>
            rw [hr] at hs2
            unfold execOp at hr ⊢
            rw [heop] at hr ⊢
            obtain ⟨u, hn, hw, h3⟩ := run_extract_pure hr
            rw [hn, Oper.upon_value, hw] at hs2
            exact ⟨u, h3, hs2⟩
          | halt x w' =>
            rw [hr] at hs2
            cases x <;> simp only [Oper.upon] at hs2
        have hLm : ∀ k, k < i → (L.setIfInBounds e true).getD k false = true := fun k hk => by
          rw [getD_set L e k (by rw [I.hl]; omega)]
          by_cases h : k = e
          · exact .inl h
          · exact .inr (hdn k hk h)
        have hT := rel_doneL (K := fun a w => LateTail P l.toArray Q (l.drop i) a w) hfs F hy hQ I' hLm
        obtain ⟨w', hmr, hrest⟩ := tail1 _ _ hT
        have hsame : execOp (a.put oe.dst u).eval om = execOp a.eval om := exec_same (fun cs b h => by rw [hmop] at h; cases h) fun d' hd' => by
          rw [hed]
          exact put_getElem_ne fun h => by cases h; exact hdm hd'
        rw [hsame] at hmr
        unfold wpOp
        simp only [hm0]
        rw [if_pos (wantM a)]
        refine .inl ?_
        unfold Oper.wp
        rw [hmr, Oper.upon_skip, hmd]
        -- then e
        have hc1 := count_set (by rw [I.hl]; exact hil) hin hc
        have hiL : i < L.size := by rw [I.hl]; exact hil
        have g1 : ∀ k, (L.setIfInBounds i true).getD k false = true ↔ (k = i ∨ L.getD k false = true) := fun k => getD_set L i k hiL
        have hLe1 : (L.setIfInBounds i true).getD e false = false := by
          cases hb : (L.setIfInBounds i true).getD e false with
          | false => rfl
          | true =>
            rcases (g1 e).1 hb with h | h
            · omega
            · rw [hLe] at h; cases h
        have hsz1 : (L.setIfInBounds i true).size = l.length := by simp [I.hl]
        have heR1 : e ∈ Region.ready .any l.toArray (L.setIfInBounds i true) := ready_of hsz1 he1 hLe1 fun j hj => by
          have := F.low e oe j he0 hj
          exact (g1 j).2 (.inr (hdn j (by omega) (by omega)))
        have only : ∀ j, j ∈ Region.ready .any l.toArray (L.setIfInBounds i true) → j = e := by
          intro j hj
          obtain ⟨hjl, hjn⟩ := ready_not hsz1 hj
          have hjo : l[j]? = some l[j] := by simp
          have spec := ready_spec hjo hj
          by_cases h1 : j < i
          · apply Classical.byContradiction
            intro h2
            have := (g1 j).2 (.inr (hdn j h1 h2))
            rw [hjn] at this
            cases this
          by_cases h2 : j = i
          · have := (g1 j).2 (.inl h2)
            rw [hjn] at this
            cases this
          by_cases h3 : j = i + 1
          · have := spec e (hE.next l[j] (by rw [← h3]; exact ha hjo))
            rw [hLe1] at this
            cases this
          · have := spec (j - 1) (F.tail j l[j] (ha hjo) (by omega))
            rcases (g1 (j - 1)).1 this with h | h
            · omega
            · have := I.hn _ h; omega
        cases fuel with
        | zero => exact absurd (count_none hc1 e (by rw [hsz1]; omega)) (by rw [hLe1]; simp)
        | succ fuel =>
          refine ⟨fun h0 => (List.not_mem_nil (h0 ▸ heR1)).elim, fun j hj => ?_⟩
          have := only j hj
          subst this
          unfold wpOp
          simp only [he0]
          rw [if_pos (wantE _)]
          refine .inl ?_
          unfold Oper.wp
          show Oper.upon P oe a _ Q ((execOp a.eval oe).run P w')
          rw [hrun w', Oper.upon_value]
          have hjL : j < (L.setIfInBounds i true).size := by rw [hsz1]; omega
          have g2 : ∀ k, ((L.setIfInBounds i true).setIfInBounds j true).getD k false = true ↔ (k = j ∨ (L.setIfInBounds i true).getD k false = true) := fun k => getD_set _ j k hjL
          have hc2 := count_set hjL hLe1 hc1
          have g3 : ∀ k, k < l.length → (((L.setIfInBounds i true).setIfInBounds j true).getD k false = true ↔ k < i + 1) := fun k hk => by
            rw [g2 k, g1 k]
            constructor
            · rintro (h | h | h)
              · omega
              · omega
              · have := I.hn _ h; omega
            · intro h
              by_cases h1 : k = j
              · exact .inl h1
              by_cases h2 : k = i
              · exact .inr (.inl h2)
              · exact .inr (.inr (hdn k (by omega) h1))
          refine rel_tailL F (l.length - (i + 1)) (i + 1) (by omega) (by omega) fuel _ _ w' (by simp [I.hl]) g3 ?_ hrest
          have := rest_le (m := i + 1) (fun k hk => (g3 k (by simpa [I.hl] using hk)).1) hc2
          simpa [I.hl] using this
end

/-- ONE WALK OF THE LEXICAL ORDER SERVES EVERY ORDER; the last operations as they come. -/
theorem wp_region_late {P : Program} {id : Nat} {Q : Exit → Act → World → Prop} {a : Act} {w : World} {pre post : List Oper} (e : Nat) (gs fs : List Tmp) (hfs : (fs.all fun d => pre.any fun o => o.dst == some d) = true) (hm : P.follows .mixedOrders = true) (hB : relLB (pre ++ post).toArray gs a.tmps.size pre.length e = true) (hE : lateB (pre ++ post).toArray pre.length e = true)
    (h : wpRel P (pre ++ post).toArray gs fs (fun w' => ∃ p : In w, w' = p.w) (fun a' rs => ∀ w', (∃ p : In w, w' = p.w) → fillR w' rs a' fun a'' => Unlike fs a'' → LateTail P (pre ++ post).toArray Q post a'' w') pre a []) :
    (Code.region id (pre ++ post).toArray true).wp P Q a w := by
  have hCC : (fun w' => ∃ p : In w, w' = p.w) = fun w' => Below w.heap.size w w' :=
    funext fun w' => propext ⟨fun ⟨p, hp⟩ => hp ▸ p.h, fun h => ⟨⟨w', h⟩, rfl⟩⟩
  have hCC' : ∀ w', (∃ p : In w, w' = p.w) = Below w.heap.size w w' := fun w' => congrFun hCC w'
  simp only [hCC'] at h
  obtain ⟨tr, h1, h2⟩ := wpRel_trace pre a [] h
  have lexTake : ∀ (l : List Oper) (post : List Oper) (tr : Nat → Got) (s : Act × Known) (j : Nat), j ≤ l.length → lexR l tr s j = lexR (l ++ post) tr s j := by
    intro l
    induction l with
    | nil =>
      intro post tr s j hj
      have : j = 0 := by simpa using hj
      subst this
      cases post <;> rfl
    | cons o l ih =>
      intro post tr s j hj
      cases j with
      | zero => simp [lexR]
      | succ j =>
        simp only [List.cons_append, lexR]
        exact ih _ _ _ j (by simpa using hj)
  refine wp_region_any hm ?_
  rw [show (pre ++ post).toArray.size = (pre ++ post).length by simp]
  rw [lexTake pre post _ _ _ (Nat.le_refl _)] at h2
  refine rel_anyL (e := e) (late_of hE) (fs := fs) (w0 := w) (tr := tr) (m := pre.length) ?_ (relOkL_of hB) (fun j o hj ho => ?_) ?_ (pre ++ post).length _ a _ ⟨⟨rfl, rfl, rfl, Nat.le_refl _, fun _ _ => rfl⟩, rfl, rfl, by simp, ?_, ?_, fun _ _ => rfl, ?_, ?_, ?_⟩ ?_
  · intro d hd
    rw [List.all_eq_true] at hfs
    have h1 := hfs d hd
    rw [List.any_eq_true] at h1
    obtain ⟨o, ho, hod⟩ := h1
    obtain ⟨k, hk, rfl⟩ := List.mem_iff_getElem.1 ho
    exact ⟨k, pre[k], hk, by rw [List.getElem?_append_left hk]; simp, by simpa using hod⟩
  · rw [← lexTake pre post _ _ _ (Nat.le_of_lt hj)]
    exact h1 j o (by rwa [List.getElem?_append_left hj] at ho)
  · rw [show (pre ++ post).drop pre.length = post by simp]
    exact h2
  · intro k hk; exfalso; simp [Array.getD] at hk
  · intro k o d hk; exfalso; simp [Array.getD] at hk
  · intro k o i hk; exfalso; simp [Array.getD] at hk
  · intro k o d u b hk; exfalso; simp [Array.getD] at hk
  · intro k k' o o' d d' u u' b b' _ hk; exfalso; simp [Array.getD] at hk
  · simp [List.countP_replicate]


theorem wp_region_late_at {P : Program} {id : Nat} {Q : Exit → Act → World → Prop} {a : Act} {w : World} {l : List Oper} (m e : Nat) (gs fs : List Tmp) (hfs : (fs.all fun d => (l.take m).any fun o => o.dst == some d) = true) (hm : P.follows .mixedOrders = true) (hB : relLB l.toArray gs a.tmps.size (l.take m).length e = true) (hE : lateB l.toArray (l.take m).length e = true)
    (h : wpRel P l.toArray gs fs (fun w' => ∃ p : In w, w' = p.w) (fun a' rs => ∀ p : In w, fillR p.w rs a' fun a'' => Unlike fs a'' → LateTail P l.toArray Q (l.drop m) a'' p.w) (l.take m) a []) :
    (Code.region id l.toArray true).wp P Q a w := by
  have he : l.take m ++ l.drop m = l := List.take_append_drop m l
  have h1 := wp_region_late (P := P) (id := id) (Q := Q) (a := a) (w := w) (pre := l.take m) (post := l.drop m) e gs fs hfs hm (by rw [he]; exact hB) (by rw [he]; exact hE)
  rw [he] at h1
  refine h1 ?_
  have hp : (fun a' rs => ∀ p : In w, fillR p.w rs a' fun a'' => Unlike fs a'' → LateTail P l.toArray Q (l.drop m) a'' p.w) = fun (a' : Act) (rs : Known) => ∀ w', (∃ p : In w, w' = p.w) → fillR w' rs a' fun a'' => Unlike fs a'' → LateTail P l.toArray Q (l.drop m) a'' w' := by
    funext a' rs
    exact propext ⟨fun h w' ⟨p, hp⟩ => hp ▸ h p, fun h p => h p.w ⟨p, rfl⟩⟩
  rw [hp] at h
  exact h

end Go.Proofs.Ytipjelkdbbhcpaa
