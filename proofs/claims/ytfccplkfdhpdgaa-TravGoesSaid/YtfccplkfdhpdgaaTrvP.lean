
/-
  Traversers merged, spread: what holds of the plain lists.
-/
import Derived.Test.YtfccplkfdhpdgaaTrvF
import Derived.Test.YtfccplkfdhpdgaaValP
set_option linter.unusedSimpArgs false
set_option linter.unusedVariables false
namespace Go.Proofs.Ytfccplkfdhpdgaa
open Go.RowKit

theorem eqV_self (v : Val) : eqV v v = true := by simp [eqV, cmpV_self]
theorem eqV_symm (a b : Val) : eqV b a = eqV a b := by
  unfold eqV
  rw [cmpV_anti a b, Bool.eq_iff_iff, beq_iff_eq, beq_iff_eq]
  omega
theorem eqTg_self (x : List UInt8 × Val) : eqTg x x = true := by simp [eqTg, eqV_self]
theorem eqTg_symm (x y : List UInt8 × Val) : eqTg y x = eqTg x y := by
  unfold eqTg
  rw [eqV_symm x.2 y.2]
  congr 1
  rw [Bool.eq_iff_iff, beq_iff_eq, beq_iff_eq]
  exact ⟨Eq.symm, Eq.symm⟩
theorem sameT_self (t : TravD) : sameT t t = true := by simp [sameT, eqV_self, eqBy_self eqV_self, eqBy_self eqTg_self]
theorem sameT_symm (a b : TravD) : sameT b a = sameT a b := by
  unfold sameT
  rw [eqV_symm a.v b.v, eqBy_symm eqV_symm a.path b.path, eqBy_symm eqTg_symm a.tags b.tags]
def rowT (x y : TravD) : Bool := sameT x y && x.bulk == y.bulk
def rowsT (a b : List TravD) : Bool := eqBy rowT a b
theorem rowsT_self (a : List TravD) : rowsT a a = true := eqBy_self (fun t => by simp [rowT, sameT_self]) a

theorem mstep_nil (t : TravD) : mstep [] t = [t] := rfl
theorem mstep_snoc (ys : List TravD) (l t : TravD) : mstep (ys ++ [l]) t = if sameT l t then ys ++ [{ l with bulk := l.bulk + t.bulk }] else ys ++ [l] ++ [t] := by
  unfold mstep
  simp
theorem mstep_ne (out : List TravD) (t : TravD) : mstep out t ≠ [] := by
  rcases List.eq_nil_or_concat out with h | ⟨ys, l, h⟩
  · subst h; simp [mstep_nil]
  · rw [List.concat_eq_append] at h
    subst h
    rw [mstep_snoc]
    split <;> simp
theorem mstep_sum (out : List TravD) (t : TravD) : sumB (mstep out t) = sumB out + t.bulk := by
  rcases List.eq_nil_or_concat out with h | ⟨ys, l, h⟩
  · subst h; simp [mstep_nil, sumB]
  · rw [List.concat_eq_append] at h
    subst h
    rw [mstep_snoc]
    split <;> simp [sumB_append, sumB] <;> omega
theorem foldl_sum (ts : List TravD) : ∀ out, sumB (ts.foldl mstep out) = sumB out + sumB ts := by
  induction ts with
  | nil => intro out; simp [sumB]
  | cons t ts ih => intro out; rw [List.foldl_cons, ih, mstep_sum, sumB]; omega
theorem mergeV_sum (ts : List TravD) : sumB (mergeV ts) = sumB ts := by
  unfold mergeV; rw [foldl_sum]; simp [sumB]
/-- each stands for one at the least -/
def Ones (ts : List TravD) : Prop := ∀ t ∈ ts, 1 ≤ t.bulk
theorem mstep_ones {out : List TravD} {t : TravD} (h : Ones out) (ht : 1 ≤ t.bulk) : Ones (mstep out t) := by
  rcases List.eq_nil_or_concat out with he | ⟨ys, l, he⟩
  · subst he
    intro x hx
    rw [mstep_nil, List.mem_singleton] at hx
    rw [hx]; exact ht
  · rw [List.concat_eq_append] at he
    subst he
    have hl := h l (by simp)
    rw [mstep_snoc]
    intro x hx
    split at hx
    · rcases List.mem_append.1 hx with h1 | h1
      · exact h x (by simp [h1])
      · rw [List.mem_singleton.1 h1]
        show 1 ≤ l.bulk + t.bulk
        omega
    · rcases List.mem_append.1 hx with h1 | h1
      · exact h x h1
      · rw [List.mem_singleton.1 h1]; exact ht
theorem foldl_ones (ts : List TravD) : ∀ out, Ones out → Ones ts → Ones (ts.foldl mstep out) := by
  induction ts with
  | nil => intro out h _; exact h
  | cons t ts ih => intro out h ht; rw [List.foldl_cons]; exact ih _ (mstep_ones h (ht t (by simp))) fun x hx => ht x (by simp [hx])
theorem mergeV_ones {ts : List TravD} (h : Ones ts) : Ones (mergeV ts) := foldl_ones ts [] (fun t h => by cases h) h
theorem spreadV_append (a b : List TravD) : spreadV (a ++ b) = spreadV a ++ spreadV b := by simp [spreadV]
theorem spreadV_one (t : TravD) : spreadV [t] = List.replicate t.bulk.toNat (oneB t) := by simp [spreadV]
theorem spreadV_len {ts : List TravD} (h : Ones ts) : ((spreadV ts).length : Int) = sumB ts := by
  induction ts with
  | nil => rfl
  | cons t ts ih =>
    have h1 := ih fun x hx => h x (by simp [hx])
    have h2 := h t (by simp)
    rw [show t :: ts = [t] ++ ts from rfl, spreadV_append, spreadV_one, List.length_append, List.length_replicate, sumB_append]
    simp only [sumB]
    omega
theorem eqBy_replicate {p : TravD → TravD → Bool} {a b : TravD} (h : p a b = true) : ∀ n, eqBy p (List.replicate n a) (List.replicate n b) = true
  | 0 => rfl
  | n + 1 => by rw [List.replicate_succ, List.replicate_succ]; simp [eqBy, h, eqBy_replicate h n]
theorem mstep_spread {xs out : List TravD} {t : TravD} (h : eqBy sameT (spreadV xs) (spreadV out) = true) (ho : Ones out) (ht : 1 ≤ t.bulk) : eqBy sameT (spreadV (xs ++ [t])) (spreadV (mstep out t)) = true := by
  have hs : ∀ u : TravD, sameT t u = true → eqBy sameT (List.replicate t.bulk.toNat (oneB t)) (List.replicate t.bulk.toNat (oneB u)) = true := fun u hu => eqBy_replicate (show sameT (oneB t) (oneB u) = true from hu) _
  rcases List.eq_nil_or_concat out with he | ⟨ys, l, he⟩
  · subst he
    rw [mstep_nil, spreadV_append, spreadV_one]
    have e : spreadV [] = [] := rfl
    rw [e] at h
    have h1 := eqBy_append h (hs t (sameT_self t))
    simpa using h1
  · rw [List.concat_eq_append] at he
    subst he
    have hl := ho l (by simp)
    rw [mstep_snoc, spreadV_append, spreadV_one]
    split
    · rename_i hsm
      have e : spreadV (ys ++ [{ l with bulk := l.bulk + t.bulk }]) = spreadV (ys ++ [l]) ++ List.replicate t.bulk.toNat (oneB l) := by
        rw [spreadV_append, spreadV_append, spreadV_one, spreadV_one, List.append_assoc]
        show _ ++ List.replicate (l.bulk + t.bulk).toNat (oneB l) = _
        rw [show (l.bulk + t.bulk).toNat = l.bulk.toNat + t.bulk.toNat by omega, ← List.replicate_append_replicate]
      rw [e]
      exact eqBy_append h (hs l (by rw [sameT_symm]; exact hsm))
    · rw [spreadV_append, spreadV_one]
      exact eqBy_append h (hs t (sameT_self t))
theorem foldl_spread (ts : List TravD) : ∀ xs out, eqBy sameT (spreadV xs) (spreadV out) = true → Ones out → Ones ts → eqBy sameT (spreadV (xs ++ ts)) (spreadV (ts.foldl mstep out)) = true := by
  induction ts with
  | nil => intro xs out h _ _; simpa using h
  | cons t ts ih =>
    intro xs out h ho ht
    rw [List.foldl_cons, show xs ++ t :: ts = (xs ++ [t]) ++ ts by simp]
    exact ih _ _ (mstep_spread h ho (ht t (by simp))) (mstep_ones ho (ht t (by simp))) fun x hx => ht x (by simp [hx])
theorem mergeV_spread {ts : List TravD} (h : Ones ts) : eqBy sameT (spreadV ts) (spreadV (mergeV ts)) = true := by
  have := foldl_spread ts [] [] rfl (fun t h => by cases h) h
  rwa [List.nil_append] at this
/-- no two that are the same stand side by side -/
def Apart (m : List TravD) : Prop := ∀ (i : Nat) (a b : TravD), m[i]? = some a → m[i + 1]? = some b → sameT a b = false
theorem Apart.snoc {ys : List TravD} {l t : TravD} (h : Apart (ys ++ [l])) (hs : sameT l t = false) : Apart (ys ++ [l] ++ [t]) := by
  intro i a b ha hb
  by_cases hi : i + 1 < (ys ++ [l]).length
  · rw [List.getElem?_append_left (by omega)] at ha
    rw [List.getElem?_append_left hi] at hb
    exact h i a b ha hb
  · have hlt : i + 1 < (ys ++ [l] ++ [t]).length := (List.getElem?_eq_some_iff.1 hb).1
    have he : i = ys.length := by simp at hi hlt; omega
    subst he
    have ea : a = l := by simpa using ha.symm
    have eb : b = t := by
      rw [List.getElem?_append_right (by simp)] at hb
      simpa using hb.symm
    rw [ea, eb]; exact hs
theorem Apart.bulk {ys : List TravD} {l : TravD} (h : Apart (ys ++ [l])) (q : Int) : Apart (ys ++ [{ l with bulk := q }]) := by
  intro i a b ha hb
  have hlt : i + 1 < (ys ++ [{ l with bulk := q }]).length := (List.getElem?_eq_some_iff.1 hb).1
  simp at hlt
  rw [List.getElem?_append_left hlt] at ha
  by_cases hi : i + 1 < ys.length
  · rw [List.getElem?_append_left hi] at hb
    exact h i a b (by rw [List.getElem?_append_left hlt]; exact ha) (by rw [List.getElem?_append_left hi]; exact hb)
  · have he : i + 1 = ys.length := by omega
    rw [he] at hb
    have eb : b = { l with bulk := q } := by simpa using hb.symm
    have := h i a l (by rw [List.getElem?_append_left hlt]; exact ha) (by rw [he]; simp)
    rw [eb]
    exact this
theorem mstep_apart {out : List TravD} {t : TravD} (h : Apart out) : Apart (mstep out t) := by
  rcases List.eq_nil_or_concat out with he | ⟨ys, l, he⟩
  · subst he
    intro i a b ha hb
    rw [mstep_nil] at hb
    simp at hb
  · rw [List.concat_eq_append] at he
    subst he
    rw [mstep_snoc]
    split
    · exact h.bulk _
    · rename_i hs
      exact h.snoc (by simpa using hs)
theorem foldl_apart (ts : List TravD) : ∀ out, Apart out → Apart (ts.foldl mstep out) := by
  induction ts with
  | nil => intro out h; exact h
  | cons t ts ih => intro out h; rw [List.foldl_cons]; exact ih _ (mstep_apart h)
theorem mergeV_apart (ts : List TravD) : Apart (mergeV ts) := foldl_apart ts [] fun i a b ha => by simp at ha
theorem Apart.fold (xs : List TravD) : ∀ out, Apart (out ++ xs) → xs.foldl mstep out = out ++ xs := by
  induction xs with
  | nil => intro out _; simp
  | cons t xs ih =>
    intro out h
    have e : mstep out t = out ++ [t] := by
      rcases List.eq_nil_or_concat out with he | ⟨ys, l, he⟩
      · subst he; rfl
      · rw [List.concat_eq_append] at he
        subst he
        have hs : sameT l t = false := h ys.length l t (by simp) (by rw [List.getElem?_append_right (by simp)]; simp)
        rw [mstep_snoc, hs]
        simp
    rw [List.foldl_cons, e, ih _ (by simpa using h)]
    simp
theorem mergeV_again (ts : List TravD) : mergeV (mergeV ts) = mergeV ts := by
  have := Apart.fold (mergeV ts) [] (by simpa using mergeV_apart ts)
  simpa [mergeV] using this
theorem mstep_two (out : List TravD) (t : TravD) (p q : Int) : mstep (mstep out { t with bulk := p }) { t with bulk := q } = mstep out { t with bulk := p + q } := by
  have hst : ∀ a b : Int, sameT { t with bulk := a } { t with bulk := b } = true := fun a b => sameT_self t
  rcases List.eq_nil_or_concat out with he | ⟨ys, l, he⟩
  · subst he
    rw [mstep_nil, mstep_nil]
    have h := mstep_snoc [] { t with bulk := p } { t with bulk := q }
    rw [hst] at h
    simpa using h
  · rw [List.concat_eq_append] at he
    subst he
    rw [mstep_snoc, mstep_snoc]
    cases hs : sameT l t
    · have h1 : sameT l { t with bulk := p } = false := hs
      have h2 : sameT l { t with bulk := p + q } = false := hs
      rw [h1, h2]
      simp only [Bool.false_eq_true, if_false]
      rw [mstep_snoc, hst]
      simp
    · have h1 : sameT l { t with bulk := p } = true := hs
      have h2 : sameT l { t with bulk := p + q } = true := hs
      rw [h1, h2]
      simp only [if_true]
      rw [mstep_snoc]
      have h3 : sameT { l with bulk := l.bulk + p } { t with bulk := q } = true := hs
      rw [h3]
      simp [Int.add_assoc]
theorem foldl_copies (t : TravD) : ∀ (n : Nat) (out : List TravD), (List.replicate (n + 1) (oneB t)).foldl mstep out = mstep out { t with bulk := (n : Int) + 1 }
  | 0, out => by simp [List.replicate_succ]
  | n + 1, out => by
    rw [List.replicate_succ', List.foldl_append, foldl_copies t n out]
    show mstep (mstep out { t with bulk := (n : Int) + 1 }) { t with bulk := 1 } = _
    rw [mstep_two]
    simp
theorem foldl_spreadV (ts : List TravD) : ∀ out, Ones ts → (spreadV ts).foldl mstep out = ts.foldl mstep out := by
  induction ts with
  | nil => intro out _; rfl
  | cons t ts ih =>
    intro out h
    have h1 := h t (by simp)
    rw [show t :: ts = [t] ++ ts from rfl, spreadV_append, spreadV_one, List.foldl_append, List.foldl_append, ih _ fun x hx => h x (by simp [hx])]
    obtain ⟨n, hn⟩ : ∃ n : Nat, t.bulk = (n : Int) + 1 := ⟨t.bulk.toNat - 1, by omega⟩
    rw [show t.bulk.toNat = n + 1 by omega, foldl_copies, ← hn]
    rfl
theorem mergeV_spreadV {ts : List TravD} (h : Ones ts) : mergeV (spreadV ts) = mergeV ts := foldl_spreadV ts [] h
theorem spreadV_ones (ts : List TravD) : ∀ x ∈ spreadV ts, x.bulk = 1 := by
  intro x hx
  unfold spreadV at hx
  rw [List.mem_flatMap] at hx
  obtain ⟨t, _, h⟩ := hx
  rw [List.eq_of_mem_replicate h]
theorem spreadV_id : ∀ {ts : List TravD}, (∀ x ∈ ts, x.bulk = 1) → spreadV ts = ts
  | [], _ => rfl
  | t :: ts, h => by
    have h1 := h t (by simp)
    rw [show t :: ts = [t] ++ ts from rfl, spreadV_append, spreadV_one, spreadV_id fun x hx => h x (by simp [hx]), h1]
    show [oneB t] ++ ts = _
    obtain ⟨v, p, g, b⟩ := t
    dsimp only at h1
    rw [h1]
theorem spreadV_twice (ts : List TravD) : spreadV (spreadV ts) = spreadV ts := spreadV_id (spreadV_ones ts)
end Go.Proofs.Ytfccplkfdhpdgaa
