
/-
  fold.Add and fold.Sum; the reference's.
-/
import Derived.Test.YtipjelkdbbhcpaaValD
import Derived.Test.YtipjelkdbbhcpaaValS
import Derived.Test.YtipjelkdbbhcpaaNumS
import Derived.Test.YtipjelkdbbhcpaaRel
set_option linter.unusedSimpArgs false
set_option linter.unusedVariables false
namespace Go.Proofs.Ytipjelkdbbhcpaa
open Go.RowKit Go.Deep

def isNum (v : Val) : Bool := v.k == 2 || v.k == 3
def floV (v : Val) : Nat := if v.k = 2 then floatOfInt .f64 v.n else v.f
/-- what is made of two floats, canonical -/
def opC (op : BinOp) (f x : Nat) : Nat := match floatBits op .f64 f x with | some r => canon r | none => 9221120237041090561
abbrev intV (n : Int) : Val := .mk 2 false n 0 [] []
abbrev floV1 (f : Nat) : Val := .mk 3 false 0 f [] []
abbrev noV : Val := .mk 0 false 0 0 [] []
/-- what is made of two values, or why not -/
def arV (op : BinOp) (g : Int → Int → Int) (a b : Val) : Val × Int :=
  if (isNum a && isNum b) = false then (noV, 190)
  else if (a.k == 3 || b.k == 3) = true then (floV1 (opC op (floV a) (floV b)), 0)
  else if fits (g a.n b.n) then (intV (g a.n b.n), 0) else (noV, 191)
abbrev flat (v : Val) : Value := valV v.k v.b v.n v.f v.s none 0 0
/-- a value without parts, within its bounds -/
structure Flat (v : Val) : Prop where
  l : v.l = []
  k : I64 v.k
  n : I64 v.n
  f : U64 v.f
  s : v.s = []
theorem Flat.has {v : Val} (h : Flat v) (w : World) : Has w (flat v) v := by
  obtain ⟨k, b, n, f, s, l⟩ := v
  obtain ⟨h1, h2, h3, h4, h5⟩ := h
  cases h1
  cases h5
  exact Has.mk (w := w) (k := k) (b := b) (n := n) (f := f) (s := []) (l := []) (A := none) (cap := 0) (fun _ => .agg #[]) h2 h3 h4 (Nat.zero_le _) (Nat.zero_le _) (Nat.zero_le _) (Nat.zero_le _) (fun i x hx => by cases hx) (fun i hi => absurd hi (Nat.not_lt_zero _))
theorem canon_u64 {x : Nat} (h : U64 x) : U64 (canon x) := by
  unfold canon
  split
  · exact ⟨by omega⟩
  · exact h
theorem opC_u64 (op : BinOp) (f x : Nat) : U64 (opC op f x) := by
  unfold opC
  split
  · rename_i r h
    exact canon_u64 (u64_some h)
  · exact ⟨by omega⟩
theorem opC_canon (op : BinOp) (f x : Nat) : canon (opC op f x) = opC op f x := by
  unfold opC
  split
  · exact canon_canon _
  · decide
theorem noV_flat : Flat noV := ⟨rfl, ⟨by show (-9223372036854775808 : Int) ≤ 0; omega, by show (0 : Int) ≤ 9223372036854775807; omega⟩, ⟨by show (-9223372036854775808 : Int) ≤ 0; omega, by show (0 : Int) ≤ 9223372036854775807; omega⟩, ⟨by show (0 : Nat) < _; omega⟩, rfl⟩
theorem intV_flat {n : Int} (h : I64 n) : Flat (intV n) := ⟨rfl, ⟨by show (-9223372036854775808 : Int) ≤ 2; omega, by show (2 : Int) ≤ 9223372036854775807; omega⟩, h, ⟨by show (0 : Nat) < _; omega⟩, rfl⟩
theorem floV_flat {f : Nat} (h : U64 f) : Flat (floV1 f) := ⟨rfl, ⟨by show (-9223372036854775808 : Int) ≤ 3; omega, by show (3 : Int) ≤ 9223372036854775807; omega⟩, ⟨by show (-9223372036854775808 : Int) ≤ 0; omega, by show (0 : Int) ≤ 9223372036854775807; omega⟩, h, rfl⟩
theorem fits_i64 {n : Int} (h : fits n = true) : I64 n := by
  unfold fits at h
  simp at h
  exact ⟨h.1, h.2⟩
theorem arV_flat (op : BinOp) (g : Int → Int → Int) (a b : Val) : Flat (arV op g a b).1 := by
  unfold arV
  split
  · exact noV_flat
  split
  · exact floV_flat (opC_u64 _ _ _)
  split
  · rename_i h
    exact intV_flat (fits_i64 h)
  · exact noV_flat

theorem vint_c (n : Int) (w : World) : Calls Try.prog 39 #[.int .i64 n] w fun e w' => e = .returned (valV 2 false n 0 [] none 0 0) ∧ Below w.heap.size w w' := by
  go_enter Try.func39, Try.ntmps39
  go_wp2
  obtain ⟨w1, hw1⟩ : ∃ w1, w1 = w.alloc (.cells #[.int .i64 2, .bool false, .int .i64 n, .float .f64 0, .string (st []), .slice none 0 0] 27) := ⟨_, rfl⟩
  have hB : Below w.heap.size w w1 := hw1 ▸ below_alloc w _
  obtain ⟨x6, x0, x1, x2, x3, x4, x5⟩ : Box w1 w.heap.size 2 false n 0 [] none 0 0 := hw1 ▸ Box.new w 2 false n 0 [] none 0 0 _
  rw [← hw1]
  clear hw1
  exact bodyPost_ret (v := valV 2 false n 0 [] none 0 0) (by simp only [results, Try.results39]; go_simp) rfl ⟨rfl, hB⟩
theorem vfloat_c (x : Nat) (w : World) : Calls Try.prog 42 #[.float .f64 x] w fun e w' => e = .returned (valV 3 false 0 (canon x) [] none 0 0) ∧ Below w.heap.size w w' := by
  have cc := fun w => canon_c x w
  go_enter Try.func42, Try.ntmps42
  go_wp2_with ((with_reducible refine (cc _).mono ?_); rintro e w2 ⟨rfl, rfl⟩)
  obtain ⟨w1, hw1⟩ : ∃ w1, w1 = w.alloc (.cells #[.int .i64 3, .bool false, .int .i64 0, .float .f64 (canon x), .string (st []), .slice none 0 0] 27) := ⟨_, rfl⟩
  have hB : Below w.heap.size w w1 := hw1 ▸ below_alloc w _
  obtain ⟨x6, x0, x1, x2, x3, x4, x5⟩ : Box w1 w.heap.size 3 false 0 (canon x) [] none 0 0 := hw1 ▸ Box.new w 3 false 0 (canon x) [] none 0 0 _
  rw [← hw1]
  clear hw1
  exact bodyPost_ret (v := valV 3 false 0 (canon x) [] none 0 0) (by simp only [results, Try.results42]; go_simp) rfl ⟨rfl, hB⟩
set_option maxRecDepth 8000 in
theorem fnum_c (v : Val) (A : Option Addr) (len cap : Nat) (w : World) : Calls Try.prog 40 #[valV v.k v.b v.n v.f v.s A len cap] w fun e w' => e = .returned (.bool (isNum v)) ∧ Below w.heap.size w w' := by
  have hN : isNum v = (v.k == 2 || v.k == 3) := rfl
  have hN' := Lib.hid hN
  clear hN
  cases h2 : (v.k == 2)
  · go_enter Try.func40, Try.ntmps40
    go_wp2
    go_ret
    exact ⟨ret_bool (by rw [hN'.out, h2]; rfl), below_alloc _ _⟩
  · go_enter Try.func40, Try.ntmps40
    go_wp2
    go_ret
    exact ⟨ret_bool (by rw [hN'.out, h2]; rfl), below_alloc _ _⟩
set_option maxRecDepth 8000 in
theorem rfnum_c (v : Val) (A : Option Addr) (len cap : Nat) (w : World) : Calls Try.prog 44 #[valV v.k v.b v.n v.f v.s A len cap] w fun e w' => e = .returned (.bool (isNum v)) ∧ Below w.heap.size w w' := by
  have hN : isNum v = (v.k == 2 || v.k == 3) := rfl
  have hN' := Lib.hid hN
  clear hN
  cases h2 : (v.k == 2)
  · go_enter Try.func44, Try.ntmps44
    go_wp2
    go_ret
    exact ⟨ret_bool (by rw [hN'.out, h2]; rfl), below_alloc _ _⟩
  · go_enter Try.func44, Try.ntmps44
    go_wp2
    go_ret
    exact ⟨ret_bool (by rw [hN'.out, h2]; rfl), below_alloc _ _⟩
theorem flo_c (v : Val) (A : Option Addr) (len cap : Nat) (w : World) : Calls Try.prog 41 #[valV v.k v.b v.n v.f v.s A len cap] w fun e w' => e = .returned (.float .f64 (floV v)) ∧ Below w.heap.size w w' := by
  have hF : floV v = if v.k = 2 then floatOfInt .f64 v.n else v.f := rfl
  have hF' := Lib.hid hF
  clear hF
  cases h2 : (v.k == 2)
  · go_enter Try.func41, Try.ntmps41
    go_wp2
    go_ret
    exact ⟨by rw [hF'.out, if_neg (by simpa using h2)]; rfl, below_alloc _ _⟩
  · go_enter Try.func41, Try.ntmps41
    go_wp2
    go_ret
    exact ⟨by rw [hF'.out, if_pos (by simpa using h2)]; rfl, below_alloc _ _⟩
theorem rflo_c (v : Val) (hv : isNum v = true) (A : Option Addr) (len cap : Nat) (w : World) : Calls Try.prog 45 #[valV v.k v.b v.n v.f v.s A len cap] w fun e w' => e = .returned (.float .f64 (floV v)) ∧ Below w.heap.size w w' := by
  have hF : floV v = if v.k = 3 then v.f else floatOfInt .f64 v.n := by
    unfold isNum at hv
    simp at hv
    unfold floV
    rcases hv with h | h <;> simp [h]
  have hF' := Lib.hid hF
  clear hF hv
  cases h2 : (v.k == 3)
  · go_enter Try.func45, Try.ntmps45
    go_wp2
    go_ret
    exact ⟨by rw [hF'.out, if_neg (by simpa using h2)]; rfl, below_alloc _ _⟩
  · go_enter Try.func45, Try.ntmps45
    go_wp2
    go_ret
    exact ⟨by rw [hF'.out, if_pos (by simpa using h2)]; rfl, below_alloc _ _⟩
end Go.Proofs.Ytipjelkdbbhcpaa
