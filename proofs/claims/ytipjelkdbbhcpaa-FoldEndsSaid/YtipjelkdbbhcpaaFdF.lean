
/-
  FoldEnds: the plain law, the walk.
-/
import Derived.Test.YtipjelkdbbhcpaaFdR
import Derived.Test.YtipjelkdbbhcpaaTra
set_option linter.unusedSimpArgs false
set_option linter.unusedVariables false
namespace Go.Proofs.Ytipjelkdbbhcpaa
open Go.RowKit Go.Deep

theorem okV_bt (g : Bool) (x y : Val) : okV g x y = !btV g y x := by
  unfold okV okC btV
  generalize cmpV y x = c
  cases g
  · by_cases h : c < 0
    · have h0 : (c == 0) = false := by simp; omega
      simp [h, h0]
    · simp [h]
  · by_cases h : 0 < c
    · have h0 : (c == 0) = false := by simp; omega
      have h1 : ¬ c < 0 := by omega
      simp [h, h0, h1]
    · by_cases hc : c = 0
      · simp [hc]
      · have h1 : c < 0 := by omega
        simp [h, h1]
theorem bt_asymm {g : Bool} {x y : Val} (h : btV g x y = true) : btV g y x = false := by
  unfold btV at *
  rw [cmpV_anti x y]
  cases g <;> simp at h ⊢ <;> omega
theorem bt_self (g : Bool) (x : Val) : btV g x x = false := by
  unfold btV
  rw [cmpV_self]
  cases g <;> rfl
theorem bt_trans {g : Bool} {x m z : Val} (hx : Lies x) (hm : Lies m) (hz : Lies z) (h : btV g x m = true) (h2 : btV g z m = false) : btV g x z = true := by
  unfold btV at *
  cases g
  · simp at h h2 ⊢
    apply Classical.byContradiction
    intro hn
    have h3 : cmpV m z ≤ 0 := by rw [cmpV_anti z m]; omega
    have h4 : cmpV z x ≤ 0 := by rw [cmpV_anti x z]; omega
    have h5 := cmpV_goes hm hz hx h3 h4
    rw [cmpV_anti x m] at h5
    omega
  · simp at h h2 ⊢
    apply Classical.byContradiction
    intro hn
    have h5 := cmpV_goes hx hz hm (by omega) h2
    omega
theorem best_find (g : Bool) : ∀ (n : Nat) (l : List Val), l.length = n + 1 → (∀ x ∈ l, Lies x) → l.find? (topV g l) = some (bestV g l) := by
  intro n
  induction n with
  | zero =>
    intro l hl hL
    match l, hl with
    | [x], _ => simp [bestV, topV, okV_bt, bt_self]
  | succ n ih =>
    intro l hl hL
    rcases List.eq_nil_or_concat l with h | ⟨L, x, h⟩
    · subst h; simp at hl
    rw [List.concat_eq_append] at h
    subst h
    have hn : L.length = n + 1 := by simpa using hl
    have hne : L ≠ [] := by intro e; rw [e] at hn; simp at hn
    have hf := ih L hn fun y hy => hL y (by simp [hy])
    rw [bestV_snoc g hne]
    generalize bestV g L = m at *
    have hmL : m ∈ L := List.mem_of_find?_eq_some hf
    have htop : topV g L m = true := List.find?_some hf
    have hmax : ∀ y ∈ L, btV g y m = false := fun y hy => by
      unfold topV at htop
      have := List.all_eq_true.1 htop y hy
      rw [okV_bt] at this
      simpa using this
    have hT : ∀ z, topV g (L ++ [x]) z = (topV g L z && okV g z x) := fun z => by simp [topV]
    cases hb : btV g x m
    · simp only [Bool.false_eq_true, if_false]
      obtain ⟨hp, xs1, bs, he, hno⟩ := List.find?_eq_some_iff_append.1 hf
      refine List.find?_eq_some_iff_append.2 ⟨?_, xs1, bs ++ [x], ?_, fun a ha => ?_⟩
      · rw [hT, hp, okV_bt, hb]; rfl
      · rw [he]; simp
      · have := hno a ha
        rw [hT]
        simp at this ⊢
        exact .inl this
    · rw [if_pos rfl]
      have hxl := hL x (by simp)
      have hml := hL m (by simp [hmL])
      have h1 : ∀ z ∈ L, btV g x z = true := fun z hz => bt_trans hxl hml (hL z (by simp [hz])) hb (hmax z hz)
      rw [List.find?_append]
      have hnone : L.find? (topV g (L ++ [x])) = none := List.find?_eq_none.2 fun z hz => by
        rw [hT, okV_bt, h1 z hz]
        simp
      rw [hnone]
      have hx : topV g (L ++ [x]) x = true := by
        rw [hT, okV_bt, bt_self]
        simp only [Bool.not_false, Bool.and_true]
        unfold topV
        rw [List.all_eq_true]
        intro y hy
        rw [okV_bt, bt_asymm (h1 y hy)]
        rfl
      simp [hx]
theorem ends_same (g : Bool) (l : List Val) (hL : ∀ x ∈ l, Lies x) : rendV g l = endV g l := by
  cases l with
  | nil => rfl
  | cons x l =>
    have := best_find g l.length (x :: l) (by simp) hL
    unfold rendV
    rw [this]
    rfl
theorem Parts.lies {w : World} {A : Option Addr} {l : List Val} (h : Parts w A l) : ∀ x ∈ l, Lies x := fun x hx => by
  obtain ⟨i, hi, rfl⟩ := List.mem_iff_getElem.1 hx
  obtain ⟨ad, k, b, n, f, s, B, len, c, _, hv, _⟩ := h i l[i] (by simp)
  exact ⟨w, _, hv⟩
set_option maxRecDepth 8000 in
set_option maxHeartbeats 2000000 in
theorem foldEnds_walk (A : Option Addr) (cap : Nat) (l : List Val) (g : Bool) (w : World) (hx : Parts w A l) (hl : l.length ≤ cap) (hcap : cap ≤ maxLen) :
    Calls Try.prog 4 #[.slice A l.length cap, .bool g] w fun e w' => e = .returned (.bool true) ∧ Below w.heap.size w w' := by
  have c1 := cut_c A cap l w hx hl hcap
  clear hx hl hcap
  go_enter Try.func4, Try.ntmps4
  go_upto_region 2 with ((with_reducible refine c1.mono ?_); rintro e w1 ⟨A1, cap1, ys, rfl, hp1, hyc, hcm, h20, hsm, hb1⟩)
  have hsame := ends_same g ys hp1.lies
  have c2 := fend_c A1 cap1 ys g w1 hp1 hyc hcm h20
  have c3 : ∀ wx, Below w1.heap.size w1 wx → Calls Try.prog 14 #[.slice A1 ys.length cap1, .bool g] wx (EndEnds (endV g ys) wx) := fun wx h => hsame ▸ rend_c A1 cap1 ys g wx (hp1.keep h) (by omega)
  clear c1 hp1 hsm hsame
  generalize endV g ys = X at *
  generalize ys.length = L at *
  unfold EndEnds at c2 c3
  go_upto_region 3 with ((with_reducible refine c2.mono ?_); rintro e w2 ⟨u2, rfl, hu2, hb2⟩; obtain ⟨A2, cap2, hu2e, _⟩ := hu2.open; subst hu2e)
  obtain ⟨w3, hw3⟩ : ∃ w3, w3 = w2.alloc (.cells #[.int .i64 X.1.k, .bool X.1.b, .int .i64 X.1.n, .float .f64 X.1.f, .string (st X.1.s), .slice A2 X.1.l.length cap2] 27) := ⟨_, rfl⟩
  have k3 : Below w2.heap.size w2 w3 := hw3 ▸ below_alloc w2 _
  have hx3 : Box w3 w2.heap.size X.1.k X.1.b X.1.n X.1.f X.1.s A2 X.1.l.length cap2 := hw3 ▸ Box.new w2 _ _ _ _ _ _ _ _ _
  have k13 := hb2.trans (k3.mono hb2.size)
  have hu3 := hu2.keep k3
  have B3 := hb1.trans (k13.mono hb1.size)
  have c3 := c3 w3 k13
  rw [← hw3]
  clear hw3 c2 hu2 hb2 k3 hb1 k13
  go_upto_region 4 with ((with_reducible refine c3.mono ?_); rintro e w4 ⟨u4, rfl, hu4, hb4⟩; obtain ⟨A4, cap4, hu4e, _⟩ := hu4.open; subst hu4e)
  obtain ⟨w5, hw5⟩ : ∃ w5, w5 = w4.alloc (.cells #[.int .i64 X.1.k, .bool X.1.b, .int .i64 X.1.n, .float .f64 X.1.f, .string (st X.1.s), .slice A4 X.1.l.length cap4] 27) := ⟨_, rfl⟩
  have k5 : Below w4.heap.size w4 w5 := hw5 ▸ below_alloc w4 _
  have hx5 : Box w5 w4.heap.size X.1.k X.1.b X.1.n X.1.f X.1.s A4 X.1.l.length cap4 := hw5 ▸ Box.new w4 _ _ _ _ _ _ _ _ _
  have k35 := hb4.trans (k5.mono hb4.size)
  have hx35 := hx3.keep k35
  have hu35 := hu3.keep k35
  have hu5 := hu4.keep k5
  have B5 := B3.trans (k35.mono B3.size)
  have cs : ∀ p : In w5, Calls Try.prog 15 #[valV X.1.k X.1.b X.1.n X.1.f X.1.s A2 X.1.l.length cap2, valV X.1.k X.1.b X.1.n X.1.f X.1.s A4 X.1.l.length cap4] p.w fun e w' => e = .returned (.bool true) ∧ Below p.w.heap.size p.w w' := fun p => by
    have := rsame_c X.1 X.1 _ _ p.w (hu35.keep p.h) (hu5.keep p.h)
    rwa [sameV_self] at this
  obtain ⟨x6, x0, x1, x2, x3, x4, x5⟩ := hx35
  obtain ⟨y6, y0, y1, y2, y3, y4, y5⟩ := hx5
  rw [← hw5]
  clear hw5 c3 hu3 hu4 hu35 hu5 hb4 k5 k35 hx3 B3
  have aw := fun w => awake_c w
  go_wp2_with (first | ((with_reducible refine (aw _).mono ?_); rintro e w6 ⟨rfl, hb6⟩; (first | ((with_reducible obtain ⟨p, hw''⟩ := In.of2 p hb6); subst hw'') | (obtain ⟨p, hw''⟩ := In.of hb6; subst hw''))) | ((with_reducible refine (cs _).mono ?_); rintro e w7 ⟨rfl, hb7⟩; (first | ((with_reducible obtain ⟨p, hw''⟩ := In.of2 p hb7); subst hw'') | (obtain ⟨p, hw''⟩ := In.of hb7; subst hw''))))
  go_ret
  exact ⟨rfl, p.back B5⟩
end Go.Proofs.Ytipjelkdbbhcpaa
