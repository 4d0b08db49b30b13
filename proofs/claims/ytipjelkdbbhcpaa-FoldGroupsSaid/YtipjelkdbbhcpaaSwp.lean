
/-
  A drawn region, by facts, of which some operations that follow the m-th are walked ahead of it.
-/
import Derived.Test.YtipjelkdbbhcpaaRel
set_option linter.unusedSimpArgs false
set_option linter.unusedVariables false
namespace Go.Proofs.Ytipjelkdbbhcpaa
open Go.RowKit

def swN (m d j : Nat) : Nat := if j < m then j else if j = m then m + d else if j ≤ m + d then j - 1 else j
def reN (m d : Nat) (o : Oper) : Oper := ⟨o.dst, o.op, o.type, o.pos, o.after.map fun e => ⟨swN m d e.on, e.ground⟩, o.guard⟩
/-- d operations behind the m-th stand ahead of it -/
def swL (m d : Nat) (l : List Oper) : List Oper := l.take m ++ (((l.drop (m + 1)).take d ++ (l.drop m).take 1) ++ l.drop (m + 1 + d)).map (reN m d)
theorem swN_inj {m d i j : Nat} (h : swN m d i = swN m d j) : i = j := by
  unfold swN at h
  repeat' split at h
  all_goals omega
theorem swN_lt {m d n j : Nat} (h : m + 1 + d ≤ n) : swN m d j < n ↔ j < n := by
  unfold swN
  split <;> (try split) <;> (try split) <;> omega
theorem swN_onto {m d j : Nat} : ∃ i, swN m d i = j := by
  unfold swN
  by_cases h1 : j < m
  · exact ⟨j, by rw [if_pos h1]⟩
  · by_cases h2 : j = m + d
    · exact ⟨m, by rw [if_neg (by omega), if_pos rfl, h2]⟩
    · by_cases h3 : j < m + d
      · exact ⟨j + 1, by rw [if_neg (by omega), if_neg (by omega), if_pos (by omega)]; omega⟩
      · exact ⟨j, by rw [if_neg (by omega), if_neg (by omega), if_neg (by omega)]⟩
theorem swL_get {m d : Nat} {l : List Oper} (hl : m + 1 + d ≤ l.length) {i : Nat} {o : Oper} (h : l[i]? = some o) : (swL m d l)[swN m d i]? = some (if i < m then o else reN m d o) := by
  have hil := (List.getElem?_eq_some_iff.1 h).1
  unfold swL swN
  have ht : (l.take m).length = m := by rw [List.length_take]; omega
  have hd : ((l.drop (m + 1)).take d).length = d := by rw [List.length_take, List.length_drop]; omega
  have h1 : ((l.drop m).take 1).length = 1 := by rw [List.length_take, List.length_drop]; omega
  by_cases c1 : i < m
  · rw [if_pos c1, if_pos c1, List.getElem?_append_left (by omega), List.getElem?_take_of_lt c1]
    exact h
  · rw [if_neg c1, if_neg c1]
    by_cases c2 : i = m
    · subst c2
      rw [if_pos rfl, List.getElem?_append_right (by omega), ht, Nat.add_sub_cancel_left, List.getElem?_map, List.getElem?_append_left (by rw [List.length_append]; omega), List.getElem?_append_right (by omega), hd, Nat.sub_self, List.getElem?_take_of_lt (by omega), List.getElem?_drop, Nat.add_zero, h]
      rfl
    · rw [if_neg c2]
      by_cases c3 : i ≤ m + d
      · rw [if_pos c3, List.getElem?_append_right (by omega), ht, List.getElem?_map, List.getElem?_append_left (by rw [List.length_append]; omega), List.getElem?_append_left (by omega), List.getElem?_take_of_lt (by omega), List.getElem?_drop, show m + 1 + (i - 1 - m) = i by omega, h]
        rfl
      · rw [if_neg c3, List.getElem?_append_right (by omega), ht, List.getElem?_map, List.getElem?_append_right (by rw [List.length_append]; omega), List.length_append, hd, h1, List.getElem?_drop, show m + 1 + d + (i - m - (d + 1)) = i by omega, h]
        rfl
theorem swL_len {m d : Nat} {l : List Oper} (hl : m + 1 + d ≤ l.length) : (swL m d l).length = l.length := by
  unfold swL
  simp only [List.length_append, List.length_take, List.length_drop, List.length_map]
  omega
theorem reN_waits {m d : Nat} {o : Oper} {j : Nat} : waitsOn (reN m d o) j = true ↔ ∃ i, swN m d i = j ∧ waitsOn o i = true := by
  unfold waitsOn reN
  simp only [Array.any_map, Array.any_eq_true, Function.comp, Bool.and_eq_true, beq_iff_eq]
  constructor
  · rintro ⟨k, hk, hb, he⟩
    exact ⟨_, he, k, hk, hb, rfl⟩
  · rintro ⟨i, hi, k, hk, hb, he⟩
    exact ⟨k, hk, hb, by rw [he]; exact hi⟩
/-- how an operation of the one stands in the other -/
def lowB (m : Nat) (l : List Oper) : Bool := l.all (fun o => o.guard.isNone) && (List.range m).all fun i => match l[i]? with | some o => o.after.all fun e => !Region.binds .any e || decide (e.on < i) | none => true
theorem lowB_spec {m : Nat} {l : List Oper} (h : lowB m l = true) : (∀ (i : Nat) o, l[i]? = some o → o.guard = none) ∧ ∀ (i : Nat) o j, i < m → l[i]? = some o → waitsOn o j = true → j < i := by
  unfold lowB at h
  rw [Bool.and_eq_true, List.all_eq_true, List.all_eq_true] at h
  refine ⟨fun i o ho => ?_, fun i o j him ho hw => ?_⟩
  · have := h.1 o (List.mem_of_getElem? ho)
    simpa using this
  · have h1 := h.2 i (by rw [List.mem_range]; exact him)
    rw [ho] at h1
    unfold waitsOn at hw
    rw [Array.any_eq_true] at hw
    obtain ⟨k, hk, he⟩ := hw
    rw [Bool.and_eq_true, beq_iff_eq] at he
    simp only [Array.all_eq_true] at h1
    have := h1 k hk
    simp only [he.1, Bool.not_true, Bool.false_or, decide_eq_true_eq] at this
    omega
section
variable {P : Program} {l : List Oper} {m d : Nat} {Q : Exit → Act → World → Prop}
theorem sw_waits (hl : m + 1 + d ≤ l.length) (hB : lowB m l = true) {i : Nat} {o : Oper} (h : l[i]? = some o) : ∀ j, waitsOn (if i < m then o else reN m d o) j = true ↔ ∃ k, swN m d k = j ∧ waitsOn o k = true := by
  intro j
  split
  · rename_i him
    have low := fun j => (lowB_spec hB).2 i o j him
    constructor
    · intro hw
      have := low j h hw
      exact ⟨j, by unfold swN; rw [if_pos (by omega)], hw⟩
    · rintro ⟨k, hk, hw⟩
      have := low k h hw
      unfold swN at hk
      rw [if_pos (by omega)] at hk
      rwa [← hk]
  · exact reN_waits
theorem sw_ready (hl : m + 1 + d ≤ l.length) (hB : lowB m l = true) {L L' : Array Bool} (hL : L.size = l.length) (hL' : L'.size = l.length) (hs : ∀ i, L'.getD (swN m d i) false = L.getD i false) (i : Nat) :
    i ∈ Region.ready .any l.toArray L ↔ swN m d i ∈ Region.ready .any (swL m d l).toArray L' := by
  constructor
  · intro hi
    obtain ⟨hil, hin⟩ := ready_not hL hi
    have hio : l[i]? = some l[i] := by simp
    have hw := ready_spec hio hi
    refine ready_of (hL'.trans (swL_len hl).symm) (swL_get hl hio) (by rw [hs]; exact hin) fun j hj => ?_
    obtain ⟨k, rfl, hk⟩ := (sw_waits hl hB hio j).1 hj
    rw [hs]
    exact hw k hk
  · intro hi
    obtain ⟨hil, hin⟩ := ready_not (hL'.trans (swL_len hl).symm) hi
    rw [swL_len hl, swN_lt hl] at hil
    have hio : l[i]? = some l[i] := by simp
    have hw := ready_spec (swL_get hl hio) hi
    refine ready_of hL hio (by rw [← hs]; exact hin) fun j hj => ?_
    rw [← hs]
    exact hw _ ((sw_waits hl hB hio _).2 ⟨j, rfl, hj⟩)
theorem reN_wp {o : Oper} {a : Act} {w : World} {K : Act → World → Prop} : Oper.wp P (reN m d o) a w K Q = Oper.wp P o a w K Q := rfl
theorem reN_asks {o : Oper} {a : Act} {w : World} : Oper.asks P (reN m d o) a w = Oper.asks P o a w := rfl
theorem sw_any (hl : m + 1 + d ≤ l.length) (hB : lowB m l = true) : ∀ (fuel : Nat) (L L' : Array Bool) (a : Act) (w : World), L.size = l.length → L'.size = l.length → (∀ i, L'.getD (swN m d i) false = L.getD i false) →
    wpAny P .any (swL m d l).toArray Q fuel L' a w → wpAny P .any l.toArray Q fuel L a w := by
  have none_ : ∀ {L L' : Array Bool}, L.size = l.length → L'.size = l.length → (∀ i, L'.getD (swN m d i) false = L.getD i false) → (Region.ready .any l.toArray L = [] ↔ Region.ready .any (swL m d l).toArray L' = []) := by
    intro L L' h1 h2 hs
    constructor
    · intro h
      refine List.eq_nil_iff_forall_not_mem.2 fun j hj => ?_
      obtain ⟨i, rfl⟩ := swN_onto (m := m) (d := d) (j := j)
      have := (sw_ready hl hB h1 h2 hs i).2 hj
      rw [h] at this
      cases this
    · intro h
      refine List.eq_nil_iff_forall_not_mem.2 fun j hj => ?_
      have := (sw_ready hl hB h1 h2 hs j).1 hj
      rw [h] at this
      cases this
  intro fuel
  induction fuel with
  | zero => exact fun L L' a w h1 h2 hs h => ⟨(none_ h1 h2 hs).2 h.1, h.2⟩
  | succ fuel ih =>
    intro L L' a w h1 h2 hs h
    refine ⟨fun h0 => h.1 ((none_ h1 h2 hs).1 h0), fun i hi => ?_⟩
    have hi' := (sw_ready hl hB h1 h2 hs i).1 hi
    obtain ⟨hil, _⟩ := ready_not h1 hi
    have hio : l[i]? = some l[i] := by simp
    have hg : l[i].guard = none := (lowB_spec hB).1 i _ hio
    have hw := h.2 _ hi'
    have hmono : ∀ a' w', wpAny P .any (swL m d l).toArray Q fuel (L'.setIfInBounds (swN m d i) true) a' w' → wpAny P .any l.toArray Q fuel (L.setIfInBounds i true) a' w' := fun a' w' h' => by
      refine ih _ _ a' w' (by simp [h1]) (by simp [h2]) (fun k => ?_) h'
      have e1 := getD_set L' (swN m d i) (swN m d k) (by rw [h2, swN_lt hl]; exact hil)
      have e2 := getD_set L i k (by rw [h1]; exact hil)
      rw [Bool.eq_iff_iff, e1, e2, hs]
      constructor
      · rintro (h | h)
        · exact .inl (swN_inj h)
        · exact .inr h
      · rintro (rfl | h)
        · exact .inl rfl
        · exact .inr h
    unfold wpOp at hw ⊢
    rw [List.getElem?_toArray, swL_get hl hio] at hw
    rw [List.getElem?_toArray, hio]
    have w1 : ∀ y, Region.wanted l[i] y = true := fun y => by simp [Region.wanted, hg]
    have w2 : ∀ y, Region.wanted (if i < m then l[i] else reN m d l[i]) y = true := fun y => by
      split
      · exact w1 y
      · exact w1 y
    simp only [w1, w2, if_true] at hw ⊢
    refine hw.imp (fun h => ?_) fun h => ?_
    · refine Oper.wp_mono hmono ?_
      split at h
      · exact h
      · exact h
    · split at h
      · exact h
      · exact h
/-- the walk of the lexical order, as 'wpAny' -/
theorem rel_wpAny {a : Act} {w : World} {pre post : List Oper} (gs fs : List Tmp) (hfs : (fs.all fun d => pre.any fun o => o.dst == some d) = true) (hB : relB (pre ++ post).toArray gs a.tmps.size pre.length = true)
    (h : wpRel P (pre ++ post).toArray gs fs (fun w' => ∃ p : In w, w' = p.w) (fun a' rs => ∀ w', (∃ p : In w, w' = p.w) → fillR w' rs a' fun a'' => Unlike fs a'' → wpList P (pre ++ post).toArray Q post a'' w') pre a []) :
    wpAny P .any (pre ++ post).toArray Q (pre ++ post).length (Array.replicate (pre ++ post).length false) a { w with drawn := w.drawn + 1 } := by
  have hCC : (fun w' => ∃ p : In w, w' = p.w) = fun w' => Below w.heap.size w w' :=
    funext fun w' => propext ⟨fun ⟨p, hp⟩ => hp ▸ p.h, fun h => ⟨⟨w', h⟩, rfl⟩⟩
  have hCC' : ∀ w', (∃ p : In w, w' = p.w) = Below w.heap.size w w' := fun w' => congrFun hCC w'
  simp only [hCC'] at h
  obtain ⟨tr, h1, h2⟩ := wpRel_trace pre a [] h
  have lexTake : ∀ (l : List Oper) (post : List Oper) (tr : Nat → Got) (s : Act × Known) (j : Nat), j ≤ l.length → lexR l tr s j = lexR (l ++ post) tr s j := by
    intro l
    induction l with
    | nil =>
      intro post tr s j hj
      have : j = 0 := by simpa using hj
      subst this
      cases post <;> rfl
    | cons o l ih =>
      intro post tr s j hj
      cases j with
      | zero => simp [lexR]
      | succ j =>
        simp only [List.cons_append, lexR]
        exact ih _ _ _ j (by simpa using hj)
  rw [lexTake pre post _ _ _ (Nat.le_refl _)] at h2
  refine rel_any (fs := fs) (w0 := w) (tr := tr) (m := pre.length) ?_ (relOk_of hB) (fun j o hj ho => ?_) ?_ (pre ++ post).length _ a _ ⟨⟨rfl, rfl, rfl, Nat.le_refl _, fun _ _ => rfl⟩, rfl, rfl, by simp, ?_, ?_, fun _ _ => rfl, ?_, ?_, ?_⟩ ?_
  · intro d hd
    rw [List.all_eq_true] at hfs
    have h1 := hfs d hd
    rw [List.any_eq_true] at h1
    obtain ⟨o, ho, hod⟩ := h1
    obtain ⟨k, hk, rfl⟩ := List.mem_iff_getElem.1 ho
    exact ⟨k, pre[k], hk, by rw [List.getElem?_append_left hk]; simp, by simpa using hod⟩
  · rw [← lexTake pre post _ _ _ (Nat.le_of_lt hj)]
    exact h1 j o (by rwa [List.getElem?_append_left hj] at ho)
  · rw [show (pre ++ post).drop pre.length = post by simp]
    exact h2
  · intro k hk; exfalso; simp [Array.getD] at hk
  · intro k o d hk; exfalso; simp [Array.getD] at hk
  · intro k o i hk; exfalso; simp [Array.getD] at hk
  · intro k o d u b hk; exfalso; simp [Array.getD] at hk
  · intro k k' o o' d d' u u' b b' _ hk; exfalso; simp [Array.getD] at hk
  · simp [List.countP_replicate]
end
/-- ONE WALK, the operations behind the m-th ahead of it; the last ones as they come -/
theorem swp_any {P : Program} {Q : Exit → Act → World → Prop} {a : Act} {w : World} {l : List Oper} (m d M : Nat) (gs fs : List Tmp) (hl : decide (m + 1 + d ≤ l.length) = true) (hlow : lowB m l = true) (hfs : (fs.all fun t => ((swL m d l).take M).any fun o => o.dst == some t) = true) (hB : relB (swL m d l).toArray gs a.tmps.size ((swL m d l).take M).length = true)
    (h : ∀ ops : Array Oper, wpRel P ops gs fs (fun w' => ∃ p : In w, w' = p.w) (fun a' rs => ∀ p : In w, fillR p.w rs a' fun a'' => Unlike fs a'' → wpList P ops Q ((swL m d l).drop M) a'' p.w) ((swL m d l).take M) a []) :
    wpAny P .any l.toArray Q l.length (Array.replicate l.length false) a { w with drawn := w.drawn + 1 } := by
  have hl := of_decide_eq_true hl
  have he : (swL m d l).take M ++ (swL m d l).drop M = swL m d l := List.take_append_drop M _
  have h1 := rel_wpAny (P := P) (Q := Q) (a := a) (w := w) (pre := (swL m d l).take M) (post := (swL m d l).drop M) gs fs hfs (by rw [he]; exact hB)
  rw [he, swL_len hl] at h1
  refine sw_any hl hlow _ _ _ a _ (by simp) (by simp) (fun i => ?_) (h1 ?_)
  · by_cases hi : i < l.length <;> simp [Array.getD, hi, swN_lt hl]
  · have hp : ∀ ops : Array Oper, (fun a' rs => ∀ p : In w, fillR p.w rs a' fun a'' => Unlike fs a'' → wpList P ops Q ((swL m d l).drop M) a'' p.w) = fun (a' : Act) (rs : Known) => ∀ w', (∃ p : In w, w' = p.w) → fillR w' rs a' fun a'' => Unlike fs a'' → wpList P ops Q ((swL m d l).drop M) a'' w' := by
      intro ops
      funext a' rs
      exact propext ⟨fun h w' ⟨p, hp⟩ => hp ▸ h p, fun h p => h p.w ⟨p, rfl⟩⟩
    have h := h (swL m d l).toArray
    rw [hp] at h
    exact h
/-- the m-th waits for the d that follow it -/
def wtO (m d : Nat) (o : Oper) : Oper := ⟨o.dst, o.op, o.type, o.pos, o.after ++ (Array.range d).map (fun k => ⟨m + 1 + k, .data⟩), o.guard⟩
def wtL (m d : Nat) (l : List Oper) : List Oper := l.take m ++ (((l.drop m).take 1).map (wtO m d) ++ l.drop (m + 1))
theorem wtL_len {m d : Nat} {l : List Oper} (hl : m + 1 + d ≤ l.length) : (wtL m d l).length = l.length := by
  unfold wtL
  simp only [List.length_append, List.length_take, List.length_drop, List.length_map]
  omega
theorem wtL_get {m d : Nat} {l : List Oper} (hl : m + 1 + d ≤ l.length) {i : Nat} {o : Oper} (h : l[i]? = some o) : (wtL m d l)[i]? = some (if i = m then wtO m d o else o) := by
  have hil := (List.getElem?_eq_some_iff.1 h).1
  unfold wtL
  have ht : (l.take m).length = m := by rw [List.length_take]; omega
  have h1 : (((l.drop m).take 1).map (wtO m d)).length = 1 := by rw [List.length_map, List.length_take, List.length_drop]; omega
  by_cases c1 : i < m
  · rw [if_neg (by omega), List.getElem?_append_left (by omega), List.getElem?_take_of_lt c1]
    exact h
  · by_cases c2 : i = m
    · subst c2
      rw [if_pos rfl, List.getElem?_append_right (by omega), ht, Nat.sub_self, List.getElem?_append_left (by omega), List.getElem?_map, List.getElem?_take_of_lt (by omega), List.getElem?_drop, Nat.add_zero, h]
      rfl
    · rw [if_neg c2, List.getElem?_append_right (by omega), ht, List.getElem?_append_right (by omega), h1, List.getElem?_drop, show m + 1 + (i - m - 1) = i by omega]
      exact h
theorem wtO_waits {m d : Nat} {o : Oper} {j : Nat} : waitsOn (wtO m d o) j = true ↔ waitsOn o j = true ∨ m < j ∧ j ≤ m + d := by
  unfold waitsOn wtO
  simp only [Array.any_append, Bool.or_eq_true, Array.any_map, Array.any_eq_true, Function.comp, Bool.and_eq_true, beq_iff_eq]
  refine or_congr Iff.rfl ⟨?_, ?_⟩
  · rintro ⟨k, hk, _, he⟩
    simp only [Array.size_range] at hk
    simp only [Array.getElem_range] at he
    omega
  · intro h
    refine ⟨j - m - 1, by simp only [Array.size_range]; omega, rfl, by simp only [Array.getElem_range]; omega⟩

/-- a run that leaves no mark -/
inductive Mute {α : Type} : Sem α → Prop
  | pure (a : α) : Mute (.pure a)
  | halt (h : Halt) : Mute (.halt h)
  | prog (k : Program → Sem α) (h : ∀ p, Mute (k p)) : Mute (.program k)
  | draw (q : Question) (k : Nat → Sem α) (h : ∀ n, Mute (k n)) : Mute (.choose q k)
theorem Mute.bind {α β : Type} {s : Sem α} {f : α → Sem β} (h : Mute s) (hf : ∀ a, Mute (f a)) : Mute (s.bind f) := by
  induction h with
  | pure a => exact hf a
  | halt h => exact .halt h
  | prog k h ih => exact .prog _ ih
  | draw q k h ih => exact .draw _ _ ih
theorem halt_bind {α β : Type} (h : Halt) (f : α → Sem β) : Mute (Sem.bind (.halt h) f) := .halt h
theorem Mute.runT {α : Type} {s : Sem α} (h : Mute s) (P : Program) : ∀ w es, (s.runT P w es).2 = es := by
  induction h with
  | pure a => intro w es; rfl
  | halt h => intro w es; rfl
  | prog k h ih => intro w es; exact ih P w es
  | draw q k h ih =>
    intro w es
    unfold Sem.runT
    split
    · exact ih _ _ _
    · exact ih _ _ _
theorem Mute.asks {P : Program} {o : Oper} {a : Act} (h : Mute (execOp a.eval o)) (w : World) : ¬ o.asks P a w := by
  intro ha
  have h1 := ha.1
  rw [h.runT] at h1
  simp at h1
theorem mute_info (t : TypeId) : Mute (typeInfo t) := by
  refine Mute.bind (.prog _ fun p => .pure p) fun p => ?_
  split
  · exact .pure _
  · exact .halt _
theorem mute_under (t : TypeId) : Mute (underlying t) := by
  refine Mute.bind (.prog _ fun p => .pure p) fun p => ?_
  split
  · exact .pure _
  · exact .halt _
theorem mute_size (t : TypeId) : Mute (sizeOf t) := Mute.bind (mute_info t) fun _ => .pure _
theorem mute_panic {α : Type} (x y : Int) (b : Bool) (c : BoundsCode) : Mute (runtimePanic (α := α) (.bounds x y b c)) :=
  Mute.bind (.prog _ fun p => .pure p) fun p => .halt _
theorem mute_int (v : Value) : Mute (asIntOf v) := by
  unfold asIntOf
  split <;> first | exact .pure _ | exact .halt _
theorem mute_bounds {α : Type} (k : IntKind) (x y : Int) (c : BoundsCode) : Mute (boundsPanic (α := α) k x y c) := by
  unfold boundsPanic
  split
  · exact Mute.bind (Mute.bind (.draw _ _ fun _ => .pure _) fun _ => .pure _) fun _ => mute_panic _ _ _ _
  · exact Mute.bind (.pure _) fun _ => mute_panic _ _ _ _
theorem mute_bound (x : Value) (y : Nat) (c : BoundsCode) : Mute (Instr.sliceBound x y c) := by
  refine Mute.bind (mute_int _) fun a => ?_
  obtain ⟨k, i⟩ := a
  by_cases h : 0 ≤ i ∧ i ≤ y
  · have e : (if 0 ≤ i ∧ i ≤ (y : Int) then (pure i.toNat : Sem Nat) else boundsPanic k i y c) = pure i.toNat := if_pos h
    exact Eq.mpr (congrArg Mute e) (.pure _)
  · have e : (if 0 ≤ i ∧ i ≤ (y : Int) then (pure i.toNat : Sem Nat) else boundsPanic k i y c) = boundsPanic k i y c := if_neg h
    exact Eq.mpr (congrArg Mute e) (mute_bounds _ _ _ _)
theorem mute_sliceBounds (b : Bool) (len cap : Nat) (lo hi : Option Value) : Mute (Instr.sliceBounds b len cap lo hi none) := by
  cases lo <;> cases hi <;> repeat (first | exact .pure _ | exact mute_bound _ _ _ | refine Mute.bind ?_ fun _ => ?_)
theorem mute_slice (t : TypeId) (A : Option Addr) (n c : Nat) (lo hi : Option Value) : Mute (Instr.slice t (.slice A n c) lo hi none) := by
  refine Mute.bind (mute_under _) fun u => ?_
  cases u <;> first
    | exact .halt _
    | exact Mute.bind (mute_sliceBounds _ _ _ _ _) fun r => Mute.bind (mute_size _) fun _ => .pure _
    | exact halt_bind _ _
theorem mute_sliceAt (t : TypeId) (A : Option Addr) (n c : Nat) (lo hi : Option Value) : Mute (Instr.sliceAt t (.slice A n c) lo hi none) := by
  refine Mute.bind (mute_under _) fun u => ?_
  cases u <;> first
    | exact mute_slice _ _ _ _ _ _
    | exact halt_bind _ _
/-- the operations that only copy or cut -/
theorem mute_op {o : Oper} {a : Act} (h : (∃ x, o.op = .move x) ∨ ∃ t x lo hi A n c, o.op = .slice t x lo hi none ∧ a.eval x = .slice A n c) : Mute (execOp a.eval o) := by
  unfold execOp
  rcases h with ⟨x, h⟩ | ⟨t, x, lo, hi, A, n, c, h, hx⟩
  · rw [h]
    exact .pure _
  · rw [h]
    refine Mute.bind ?_ fun _ => .pure _
    show Mute (Instr.sliceAt t (a.eval x) _ _ _)
    rw [hx]
    exact mute_sliceAt _ _ _ _ _ _
section
variable {P : Program} {l : List Oper} {m d : Nat} {Q : Exit → Act → World → Prop}
theorem wt_ready {L : Array Bool} (hl : m + 1 + d ≤ l.length) (hL : L.size = l.length) (i : Nat) (h : i ∈ Region.ready .any (wtL m d l).toArray L) : i ∈ Region.ready .any l.toArray L := by
  obtain ⟨hil, hin⟩ := ready_not (hL.trans (wtL_len hl).symm) h
  rw [wtL_len hl] at hil
  have hio : l[i]? = some l[i] := by simp
  have hw := ready_spec (wtL_get hl hio) h
  refine ready_of hL hio hin fun j hj => hw j ?_
  split
  · exact wtO_waits.2 (.inl hj)
  · exact hj
theorem wt_ready' {L : Array Bool} (hl : m + 1 + d ≤ l.length) (hL : L.size = l.length) (i : Nat) (hD : i = m → ∀ j, m < j → j ≤ m + d → L.getD j false = true) (h : i ∈ Region.ready .any l.toArray L) : i ∈ Region.ready .any (wtL m d l).toArray L := by
  obtain ⟨hil, hin⟩ := ready_not hL h
  have hio : l[i]? = some l[i] := by simp
  have hw := ready_spec hio h
  refine ready_of (hL.trans (wtL_len hl).symm) (wtL_get hl hio) hin fun j hj => ?_
  split at hj
  · rename_i him
    rcases wtO_waits.1 hj with hj | hj
    · exact hw j hj
    · exact hD him j hj.1 hj.2
  · exact hw j hj
theorem wt_any (hl : m + 1 + d ≤ l.length) (hg : ∀ (i : Nat) o, l[i]? = some o → o.guard = none) : ∀ (fuel : Nat) (L : Array Bool) (a : Act) (w : World), L.size = l.length → (∀ j, m < j → j ≤ m + d → L.getD j false = true) →
    wpAny P .any (wtL m d l).toArray Q fuel L a w → wpAny P .any l.toArray Q fuel L a w := by
  have none_ : ∀ {L : Array Bool}, L.size = l.length → (∀ j, m < j → j ≤ m + d → L.getD j false = true) → (Region.ready .any l.toArray L = [] ↔ Region.ready .any (wtL m d l).toArray L = []) := by
    intro L hL hD
    constructor
    · intro h
      refine List.eq_nil_iff_forall_not_mem.2 fun j hj => ?_
      have := wt_ready hl hL j hj
      rw [h] at this
      cases this
    · intro h
      refine List.eq_nil_iff_forall_not_mem.2 fun j hj => ?_
      have := wt_ready' hl hL j (fun _ => hD) hj
      rw [h] at this
      cases this
  intro fuel
  induction fuel with
  | zero => exact fun L a w hL hD h => ⟨(none_ hL hD).2 h.1, h.2⟩
  | succ fuel ih =>
    intro L a w hL hD h
    refine ⟨fun h0 => h.1 ((none_ hL hD).1 h0), fun i hi => ?_⟩
    obtain ⟨hil, _⟩ := ready_not hL hi
    have hio : l[i]? = some l[i] := by simp
    have hw := h.2 _ (wt_ready' hl hL i (fun _ => hD) hi)
    have hmono : ∀ a' w', wpAny P .any (wtL m d l).toArray Q fuel (L.setIfInBounds i true) a' w' → wpAny P .any l.toArray Q fuel (L.setIfInBounds i true) a' w' := fun a' w' h' =>
      ih _ a' w' (by simp [hL]) (fun j h1 h2 => (getD_set L i j (by omega)).2 (.inr (hD j h1 h2))) h'
    unfold wpOp at hw ⊢
    rw [List.getElem?_toArray, wtL_get hl hio] at hw
    rw [List.getElem?_toArray, hio]
    have w1 : ∀ y, Region.wanted l[i] y = true := fun y => by simp [Region.wanted, hg i _ hio]
    have w2 : ∀ y, Region.wanted (if i = m then wtO m d l[i] else l[i]) y = true := fun y => by
      split
      · exact w1 y
      · exact w1 y
    simp only [w1, w2, if_true] at hw ⊢
    refine hw.imp (fun h => ?_) fun h => ?_
    · refine Oper.wp_mono hmono ?_
      split at h
      · exact h
      · exact h
    · split at h
      · exact h
      · exact h
/-- what the operations yield, one after the other -/
def YieldsD (P : Program) : List Oper → List Value → Act → Prop
  | o :: os, v :: vs, a => o.dst.isSome = true ∧ Mute (execOp a.eval o) ∧ (∀ w, (execOp a.eval o).run P w = .ok (.value v) w) ∧ YieldsD P os vs (a.put o.dst v)
  | [], [], _ => True
  | _, _, _ => False
/-- which may be taken first, in both lists -/
def takeB (m d : Nat) (l : List Oper) : Nat → Nat → Array Bool → Bool
  | _, 0, _ => true
  | i, k + 1, L => Region.free .any l.toArray L i && (Region.ready .any l.toArray L).contains i && decide (i ≠ m) && takeB m d l (i + 1) k (L.setIfInBounds i true)
theorem wt_take (hl : m + 1 + d ≤ l.length) (hs : Region.noSelect l.toArray = true) (hg : ∀ (i : Nat) o, l[i]? = some o → o.guard = none) (hQ : ∀ c dst v a w, Q (.panic c) (a.put (some dst) v) w → Q (.panic c) a w) :
    ∀ (k i : Nat) (vs : List Value) (fuel : Nat) (L : Array Bool) (a : Act) (w : World), i + k = m + 1 + d → L.size = l.length → (∀ j, m < j → j < i → L.getD j false = true) → takeB m d l i k L = true → YieldsD P ((l.drop i).take k) vs a →
      wpAny P .any (wtL m d l).toArray Q (fuel + k) L a w → wpAny P .any l.toArray Q (fuel + k) L a w := by
  intro k
  induction k with
  | zero =>
    intro i vs fuel L a w hi hL hD _ _ h
    exact wt_any hl hg _ L a w hL (fun j h1 h2 => hD j h1 (by omega)) h
  | succ k ih =>
    intro i vs fuel L a w hi hL hD hB hy h
    have hil : i < l.length := by omega
    have hio : l[i]? = some l[i] := by simp
    rw [List.drop_eq_getElem_cons hil, List.take_succ_cons] at hy
    cases vs with
    | nil => exact hy.elim
    | cons v vs =>
      obtain ⟨hds, hmu, hv, hy⟩ := hy
      obtain ⟨dd, hdd⟩ := Option.isSome_iff_exists.1 hds
      unfold takeB at hB
      simp only [Bool.and_eq_true, decide_eq_true_eq] at hB
      obtain ⟨⟨⟨hf, hr⟩, hne⟩, hB⟩ := hB
      have hwant : ∀ y, Region.wanted l[i] y = true := fun y => by simp [Region.wanted, hg i _ hio]
      rw [show fuel + (k + 1) = (fuel + k) + 1 from rfl] at h ⊢
      refine wpAny_take (i := i) (oi := l[i]) (v := v) (by rw [List.getElem?_toArray]; exact hio) hs hf hr (fun c a w => by rw [hdd]; exact hQ c _ v a w) (.inl ⟨hwant _, hv⟩) ?_
      have hr' : i ∈ Region.ready .any (wtL m d l).toArray L := wt_ready' hl hL i (fun h => absurd h hne) (by simpa using hr)
      have hw := h.2 i hr'
      unfold wpOp at hw
      rw [List.getElem?_toArray, wtL_get hl hio, if_neg hne] at hw
      simp only [hwant, if_true] at hw
      have hw := hw.resolve_right fun h => hmu.asks w h.1
      unfold Oper.wp at hw
      rw [hv] at hw
      simp only [Oper.upon] at hw
      exact ih (i + 1) vs fuel _ _ w (by omega) (by simp [hL]) (fun j h1 h2 => (getD_set L i j (by omega)).2 ((Nat.lt_succ_iff_lt_or_eq.1 h2).elim (fun h => .inr (hD j h1 h)) .inl)) hB hy hw
end
/-- ONE WALK: the d operations behind the m-th only copy or cut, and are taken ahead of it; the last ones as they come -/
theorem wp_region_swq {P : Program} {id : Nat} {Q : Exit → Act → World → Prop} {a : Act} {w : World} {l : List Oper} (m d M : Nat) (vs : List Value) (gs fs : List Tmp) (hl : decide (m + 1 + d ≤ l.length) = true) (hs : Region.noSelect l.toArray = true) (hlow : lowB m l = true) (ht : takeB m d l (m + 1) d (Array.replicate l.length false) = true)
    (hlow2 : lowB m (wtL m d l) = true) (hfs : (fs.all fun t => ((swL m d (wtL m d l)).take M).any fun o => o.dst == some t) = true) (hm : P.follows .mixedOrders = true) (hB : relB (swL m d (wtL m d l)).toArray gs a.tmps.size ((swL m d (wtL m d l)).take M).length = true)
    (hQ : ∀ c dst v a w, Q (.panic c) (a.put (some dst) v) w → Q (.panic c) a w) (hy : YieldsD P ((l.drop (m + 1)).take d) vs a)
    (h : ∀ ops : Array Oper, wpRel P ops gs fs (fun w' => ∃ p : In w, w' = p.w) (fun a' rs => ∀ p : In w, fillR p.w rs a' fun a'' => Unlike fs a'' → wpList P ops Q ((swL m d (wtL m d l)).drop M) a'' p.w) ((swL m d (wtL m d l)).take M) a []) :
    (Code.region id l.toArray true).wp P Q a w := by
  have hl' := of_decide_eq_true hl
  have h1 := swp_any (P := P) (Q := Q) (a := a) (w := w) (l := wtL m d l) m d M gs fs (by rw [wtL_len hl']; exact hl) hlow2 hfs hB h
  rw [wtL_len hl'] at h1
  refine wp_region_any hm ?_
  rw [show l.toArray.size = l.length by simp]
  have e : l.length = (l.length - d) + d := by omega
  rw [e] at h1 ⊢
  have e2 : (l.length - d) + d = l.length := by omega
  rw [show Array.replicate (l.length - d + d) false = Array.replicate l.length false by rw [e2]] at h1 ⊢
  refine wt_take hl' hs (lowB_spec hlow).1 hQ d (m + 1) vs _ _ a _ rfl (by simp) (fun j h1 h2 => by omega) ht hy h1
end Go.Proofs.Ytipjelkdbbhcpaa
