
/-
  Rows of rows that are the call's own: an append to one of them leaves the others.
-/
import Derived.Test.YtipjelkdbbhcpaaGrD
import Derived.Test.YtipjelkdbbhcpaaInsVal
import Derived.Test.YtipjelkdbbhcpaaInsRow
set_option linter.unusedSimpArgs false
set_option linter.unusedVariables false
namespace Go.Proofs.Ytipjelkdbbhcpaa
open Go.RowKit Go.Deep

theorem get_ins {α : Type} {A : List α} {x : α} {n : Nat} (hn : n ≤ A.length) (t : Nat) : (A.take n ++ x :: A.drop n)[t]? = if t < n then A[t]? else if t = n then some x else A[t - 1]? := by
  have l1 : (A.take n).length = n := by rw [List.length_take]; omega
  by_cases h1 : t < n
  · rw [if_pos h1, List.getElem?_append_left (by omega), List.getElem?_take_of_lt h1]
  · rw [if_neg h1, List.getElem?_append_right (by omega), l1]
    by_cases h2 : t = n
    · subst h2
      rw [if_pos rfl, Nat.sub_self]
      rfl
    · obtain ⟨m, hm⟩ : ∃ m, t - n = m + 1 := ⟨t - n - 1, by omega⟩
      rw [if_neg h2, hm, List.getElem?_cons_succ, List.getElem?_drop, show n + m = t - 1 by omega]
theorem grown_any {w w' : World} {r : Option Nat} (h : w.grownBy w' none) : w.grownBy w' r := ⟨h.os, h.tape, h.output, h.size, fun k hk _ => h.block k hk (by simp)⟩
theorem own_types {w : World} {B1 B2 : Nat} {T1 T2 : TypeId} {k1 k2 n1 n2 : Nat} {v1 v2 : Value} {x1 x2 : List Value} (h1 : w.ownsRow B1 T1 k1 v1 n1 x1) (h2 : w.ownsRow B2 T2 k2 v2 n2 x2) (hT : T1 ≠ T2) : v1.ownBlock = none ∨ v1.ownBlock ≠ v2.ownBlock := by
  rcases h1.2 with ⟨hv, _⟩ | ⟨g1, c1, cur1, hv1, _, hb1, _⟩
  · exact .inl (by rw [hv]; rfl)
  · rcases h2.2 with ⟨hv, _⟩ | ⟨g2, c2, cur2, hv2, _, hb2, _⟩
    · exact .inr (by rw [hv, hv1]; simp [Value.ownBlock])
    · refine .inr fun e => hT ?_
      rw [hv1, hv2] at e
      simp [Value.ownBlock] at e
      subst e
      rw [hb1] at hb2
      simp at hb2
      exact hb2.2
/-- the rows in a row, each its own -/
structure InRow (w : World) (B : Nat) (pls : List (List Nat)) (cs : List Value) : Prop where
  len : cs.length = pls.length
  own : ∀ (t : Nat) (c : Value) (pl : List Nat), cs[t]? = some c → pls[t]? = some pl → w.ownsRow B 3 1 c pl.length (intC pl)
  ne : ∀ (t t' : Nat) (c c' : Value), t ≠ t' → cs[t]? = some c → cs[t']? = some c' → c.ownBlock = none ∨ c.ownBlock ≠ c'.ownBlock
theorem InRow.nil (w : World) (B : Nat) : InRow w B [] [] := ⟨rfl, fun t c pl h => by simp at h, fun t t' c c' _ h => by simp at h⟩
theorem InRow.stays {w w' : World} {B : Nat} {pls : List (List Nat)} {cs : List Value} (h : InRow w B pls cs) (hb : Below w.heap.size w w') : InRow w' B pls cs :=
  ⟨h.len, fun t c pl h1 h2 => own_stays (h.own t c pl h1 h2) hb, h.ne⟩
theorem InRow.both {w : World} {B : Nat} {pls : List (List Nat)} {cs : List Value} (h : InRow w B pls cs) {t : Nat} {c : Value} (hc : cs[t]? = some c) : ∃ pl, pls[t]? = some pl ∧ w.ownsRow B 3 1 c pl.length (intC pl) := by
  have hl := (List.getElem?_eq_some_iff.1 hc).1
  have := h.len
  refine ⟨pls[t], by simp, h.own t c _ hc (by simp)⟩
theorem InRow.grown {w w' : World} {B : Nat} {pls : List (List Nat)} {cs : List Value} {r : Option Nat} (h : InRow w B pls cs) (hg : w.grownBy w' r) (hne : ∀ (t : Nat) (c : Value), cs[t]? = some c → c.ownBlock = none ∨ c.ownBlock ≠ r) : InRow w' B pls cs :=
  ⟨h.len, fun t c pl h1 h2 => (h.own t c pl h1 h2).kept hg (hne t c h1), h.ne⟩
theorem InRow.insNil {w : World} {B : Nat} {pls : List (List Nat)} {cs : List Value} (h : InRow w B pls cs) {n : Nat} (hn : n ≤ pls.length) : InRow w B (pls.take n ++ [] :: pls.drop n) (cs.take n ++ [.slice none 0 0] ++ cs.drop n) := by
  have hl := h.len
  have e : cs.take n ++ [Value.slice none 0 0] ++ cs.drop n = cs.take n ++ .slice none 0 0 :: cs.drop n := by simp
  rw [e]
  refine ⟨by simp only [List.length_append, List.length_cons, List.length_take, List.length_drop]; omega, fun t c pl h1 h2 => ?_, fun t t' c c' ht h1 h2 => ?_⟩
  · rw [get_ins (by omega)] at h1 h2
    split at h1
    · rename_i hc
      rw [if_pos hc] at h2
      exact h.own t c pl h1 h2
    · rename_i hc
      rw [if_neg hc] at h2
      split at h1
      · rename_i hc2
        rw [if_pos hc2] at h2
        cases h1
        cases h2
        exact World.ownsRow_nil _ _ _ _
      · rename_i hc2
        rw [if_neg hc2] at h2
        exact h.own (t - 1) c pl h1 h2
  · rw [get_ins (by omega)] at h1 h2
    by_cases e1 : t = n
    · subst e1
      rw [if_neg (by omega), if_pos rfl] at h1
      cases h1
      exact .inl rfl
    · by_cases e2 : t' = n
      · subst e2
        rw [if_neg (by omega), if_pos rfl] at h2
        cases h2
        cases hb : c.ownBlock with
        | none => exact .inl rfl
        | some k => exact .inr (by simp [Value.ownBlock])
      · rw [if_neg (c := t = n) e1] at h1
        rw [if_neg (c := t' = n) e2] at h2
        have h1' : cs[if t < n then t else t - 1]? = some c := by split at h1 <;> simp [*]
        have h2' : cs[if t' < n then t' else t' - 1]? = some c' := by split at h2 <;> simp [*]
        refine h.ne _ _ c c' ?_ h1' h2'
        split <;> split <;> omega
theorem InRow.put {w w' : World} {B : Nat} {pls : List (List Nat)} {cs : List Value} (h : InRow w B pls cs) {n x : Nat} {c v' : Value} {q : List Nat} (hc : cs[n]? = some c) (hq : pls[n]? = some q) (hg : w.grownBy w' c.ownBlock) (ho : w'.ownsRow B 3 1 v' (q.length + 1) (intC (q ++ [x])))
    (hf : v'.ownBlock = c.ownBlock ∨ ∀ k, v'.ownBlock = some k → w.heap.size ≤ k) : InRow w' B (pls.set n (q ++ [x])) (cs.set n v') := by
  have hn := (List.getElem?_eq_some_iff.1 hc).1
  have hl := h.len
  have far : ∀ (t : Nat) (d : Value), t ≠ n → cs[t]? = some d → (d.ownBlock = none ∨ d.ownBlock ≠ v'.ownBlock) ∧ (v'.ownBlock = none ∨ v'.ownBlock ≠ d.ownBlock) := fun t d ht hd => by
    obtain ⟨pl, _, hod⟩ := h.both hd
    rcases hf with hf | hf
    · rw [hf]
      exact ⟨h.ne t n d c ht hd hc, h.ne n t c d (fun e => ht e.symm) hc hd⟩
    · cases hb : d.ownBlock with
      | none => exact ⟨.inl rfl, by cases hv : v'.ownBlock with | none => exact .inl rfl | some k => exact .inr (by simp)⟩
      | some k =>
        have h1 := (hod.lt k hb).2
        refine ⟨.inr fun e => ?_, .inr fun e => ?_⟩
        · have := hf k e.symm; omega
        · have := hf k e; omega
  refine ⟨by rw [List.length_set, List.length_set]; exact hl, fun t d pl h1 h2 => ?_, fun t t' d d' ht h1 h2 => ?_⟩
  · rw [List.getElem?_set] at h1 h2
    by_cases e : n = t
    · rw [if_pos e, if_pos (by omega)] at h1 h2
      cases h1
      cases h2
      rw [List.length_append]
      exact ho
    · rw [if_neg e] at h1 h2
      exact (h.own t d pl h1 h2).kept hg (h.ne t n d c (fun e' => e e'.symm) h1 hc)
  · rw [List.getElem?_set] at h1 h2
    by_cases e : n = t
    · rw [if_pos e, if_pos (by omega)] at h1
      cases h1
      by_cases e2 : n = t'
      · omega
      · rw [if_neg e2] at h2
        exact (far t' d' (fun e' => e2 e'.symm) h2).2
    · rw [if_neg e] at h1
      by_cases e2 : n = t'
      · rw [if_pos e2, if_pos (by omega)] at h2
        cases h2
        exact (far t d (fun e' => e e'.symm) h1).1
      · rw [if_neg e2] at h2
        exact h.ne t t' d d' ht h1 h2
theorem InRow.rrow {w : World} {B : Nat} {pls : List (List Nat)} {cs : List Value} (h : InRow w B pls cs) : RRow w pls cs := ⟨h.len, fun t pl hq => by
  have hl := h.len
  have ht := (List.getElem?_eq_some_iff.1 hq).1
  have hc : cs[t]? = some (cs[t]'(by omega)) := by simp
  obtain ⟨R, rc, hv, hI, _⟩ := IntsAt.ofOwn (h.own t _ pl hc hq) rfl
  exact ⟨R, rc, by rw [hc, hv], hI⟩⟩
theorem run_append_cells {P : Program} (w : World) (t ty e : TypeId) (i : TypeInfo) (ht : P.underlying t = some (.slice e)) (hi : P.info? e = some i)
    (g sLen sCap : Nat) (a : Addr) (m c : Nat) (news : List Value) (hl : news.length = m * i.size) (hnews : ∀ j u, news[j]? = some u → w.cell? (a.add j) = some u) (h1 : ∀ u ∈ news, u.oneCell' = true)
    (hroom : sLen + m ≤ sCap) (hc : ∀ j, j < news.length → (w.cell? ⟨g, sLen * i.size + j, none⟩).isSome = true) (hf : ∀ j, j < news.length → w.frozen? ⟨g, sLen * i.size + j, none⟩ = false) :
    (Builtin.append_ #[t, t] ty #[.slice (some ⟨g, 0, none⟩) sLen sCap, .slice (some a) m c]).run P w = .ok (.slice (some ⟨g, 0, none⟩) (sLen + m) sCap) (w.setCells g (sLen * i.size) news) := by
  have hf' := run_firstCells_some (P := P) w i.size m a m c news hl hnews
  have hst := run_storeCells_cells (P := P) g (sLen * i.size) news 0 w (by simpa using hc) (by simpa using hf) h1
  simp only [Nat.add_zero] at hst
  simp [Builtin.append_, run_underlying ht, sizeOf, typeInfo, hi, Builtin.lenOf, hroom, hf', Addr.add_lit, hst]
/-- an element appended to an own row of one-cell elements: where it lies -/
theorem wpList_append_own2 {P : Program} {w : World} {ops : Array Oper} {rest : List Oper} {o : Oper} {a : Act} {Q : Exit → Act → World → Prop} (hgd : o.guard = none) (s x : Operand) (t : TypeId)
    (ho : o.op = .call { callee := .builtin .append, args := #[s, x], argTypes := #[t, t] })
    (base : Nat) (e : TypeId) (i : TypeInfo) (z : Value) (bytes : Nat) (ht : P.underlying t = some (.slice e)) (hi : P.info? e = some i) (hz : i.zero = some z)
    (hsize : i.size = 1) (hby : i.bytes = bytes) (hzs : z.cells.size = 1)
    (v : Value) (n : Nat) (xs : List Value) (hs : a.eval s = v) (hown : w.ownsRow base e 1 v n xs)
    (ad : Addr) (c : Nat) (u : Value) (hx : a.eval x = .slice (some ad) 1 c) (hnew : w.cell? (ad.add 0) = some u) (h1 : u.oneCell' = true)
    (h63 : n + 1 ≤ maxLen) (hbytes : (n + 1) * bytes ≤ 140737488355328) (hbase : base ≤ w.heap.size)
    (h : ∀ v' w', w'.ownsRow base e 1 v' (n + 1) (xs ++ [u]) → w.grownBy w' v.ownBlock → (v'.ownBlock = v.ownBlock ∨ ∀ k, v'.ownBlock = some k → w.heap.size ≤ k) → wpList P ops Q rest (a.put o.dst v') w') : wpList P ops Q (o :: rest) a w := by
  have hnews : ∀ j y, [u][j]? = some y → w.cell? (ad.add j) = some y := fun j y hj => by
    match j, hj with
    | 0, hj => simp at hj; subst hj; exact hnew
  have h1c : ∀ y ∈ [u], y.oneCell' = true := fun y hy => by rw [List.mem_singleton.1 hy]; exact h1
  rcases hown.2 with ⟨hv, hn⟩ | ⟨g, cap, cur, hv, hbg, hg, hnc, hcm, hcs, htk⟩
  · subst hv
    subst hn
    have hx0 : xs = [] := List.eq_nil_of_length_eq_zero (by simpa using hown.1)
    subst hx0
    refine wpList_append_grows w hgd s x t ho e i z 1 bytes ht hi hz hsize hby hzs (by decide) none 0 0 [] hs (fun _ => ⟨rfl, rfl⟩) rfl (fun b hb => by cases hb) ad 1 c [u] hx rfl hnews h1c (by omega) h63 hbytes ?_
    intro v' w' r1 r2
    exact h v' w' (r1.mono hbase) (grown_any r2) (.inr fun k hk => (r1.lt k hk).1)
  · subst hv
    by_cases hroom : n + 1 ≤ cap
    · obtain ⟨ys, hyl, hF⟩ := own_further hown (m := n + 1) (by omega) hroom
      have hxl := hown.1
      obtain ⟨o1, g1⟩ := own_puts [u] (n * 1) hF (by rw [List.length_append, hxl, hyl]; simp)
      have e1 : puts (xs ++ ys) (n * 1) [u] = xs ++ [u] := by
        unfold puts
        have hyl1 : ys.length = 1 := by rw [hyl]; omega
        rw [List.take_left' (by omega), List.drop_of_length_le (by rw [List.length_append, hyl1]; simp; omega), List.append_nil]
      rw [e1] at o1
      have hr := run_append_cells (P := P) w t o.type e i ht hi g n cap ad 1 c [u] (by rw [hsize]; rfl) hnews h1c hroom
        (fun j hj => own_there hF _ (by rw [List.length_append, hxl, hyl, hsize]; simp at hj; omega)) (fun j hj => own_unfrozen hF _)
      rw [hsize] at hr
      exact Lib.wpList_append_run w hgd s x t t ho _ _ hs hx _ _ hr (h _ _ o1 g1 (.inl rfl))
    · refine wpList_append_grows w hgd s x t ho e i z 1 bytes ht hi hz hsize hby hzs (by decide) (some ⟨g, 0, none⟩) n cap xs hs (fun hh => by cases hh) hown.1 (fun b hb j y hy => by cases hb; exact hown.cells (g := g) rfl j y hy) ad 1 c [u] hx rfl hnews h1c (by omega) h63 hbytes ?_
      intro v' w' r1 r2
      exact h v' w' (r1.mono hbase) (grown_any r2) (.inr fun k hk => (r1.lt k hk).1)
end Go.Proofs.Ytipjelkdbbhcpaa
