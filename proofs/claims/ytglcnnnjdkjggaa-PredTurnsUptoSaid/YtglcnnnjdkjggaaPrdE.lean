
/-
  Predicates: PredFloats.
-/
import Derived.Test.YtglcnnnjdkjggaaPrdD
import Derived.Test.YtglcnnnjdkjggaaPrdF
import Derived.Test.YtglcnnnjdkjggaaRst
set_option linter.unusedSimpArgs false
set_option linter.unusedVariables false
namespace Go.Proofs.Ytglcnnnjdkjggaa
open Go.RowKit

/-- a value made over a row that was laid in the region -/
def BuiltAt (base : Nat) (mk : Addr → Value) (cs : Array Value) (T : TypeId) : Fact := fun u w => ∃ b, base ≤ b ∧ u = mk ⟨b, 0, none⟩ ∧ w.heap[b]? = some (.cells cs T)
theorem BuiltAt.steady (base : Nat) (mk : Addr → Value) (cs : Array Value) (T : TypeId) : Steady (BuiltAt base mk cs T) :=
  ⟨fun u w w' ⟨b, h0, h1, h2⟩ hb => ⟨b, h0, h1, by rw [hb.block b (Array.getElem?_eq_some_iff.1 h2).1]; exact h2⟩⟩
theorem BuiltAt.tough {base : Nat} {mk : Addr → Value} {cs : Array Value} {T : TypeId} {own : Bool} {o0 : Obj} (hne : Obj.cells cs T ≠ o0) : Tough own o0 (BuiltAt base mk cs T) :=
  fun u w w' b ⟨k, h0, h1, h2⟩ ho _ hO => ⟨k, h0, h1, by rw [hO.block k fun e => hne (by subst e; rw [h2] at ho; exact Option.some.inj ho)]; exact h2⟩
/-- a variable that holds such a value -/
def FillAt (base : Nat) (mk : Addr → Array Value) (T2 : TypeId) (cs : Array Value) (T : TypeId) : Fact := fun u w => ∃ b b', base ≤ b ∧ base ≤ b' ∧ u = .pointer (some ⟨b, 0, none⟩) ∧ w.heap[b]? = some (.cells (mk ⟨b', 0, none⟩) T2) ∧ w.heap[b']? = some (.cells cs T)
theorem FillAt.steady (base : Nat) (mk : Addr → Array Value) (T2 : TypeId) (cs : Array Value) (T : TypeId) : Steady (FillAt base mk T2 cs T) :=
  ⟨fun u w w' ⟨b, b', h0, h1, h2, h3, h4⟩ hb => ⟨b, b', h0, h1, h2, by rw [hb.block b (Array.getElem?_eq_some_iff.1 h3).1]; exact h3, by rw [hb.block b' (Array.getElem?_eq_some_iff.1 h4).1]; exact h4⟩⟩
theorem FillAt.tough {base : Nat} {mk : Addr → Array Value} {T2 : TypeId} {cs : Array Value} {T : TypeId} {o0 : Obj} (hne : Obj.cells cs T ≠ o0) : Tough true o0 (FillAt base mk T2 cs T) :=
  fun u w w' b ⟨k, k', h0, h1, h2, h3, h4⟩ ho hu hO => ⟨k, k', h0, h1, h2, by rw [hO.block k fun e => hu rfl (by subst e; rw [h2]; rfl)]; exact h3, by rw [hO.block k' fun e => hne (by subst e; rw [h4] at ho; exact Option.some.inj ho)]; exact h4⟩

def opN (i : Nat) : List UInt8 := [[101, 113], [110, 101, 113], [108, 116], [108, 116, 101], [103, 116], [103, 116, 101]].getD i []
theorem opN_six {i : Nat} (h : i < 6) : Six (opN i) := by
  unfold Six opN
  match i, h with
  | 0, _ => simp
  | 1, _ => simp
  | 2, _ => simp
  | 3, _ => simp
  | 4, _ => simp
  | 5, _ => simp

abbrev vcells (k : Int) (b : Bool) (n : Int) (f : Nat) (s : List UInt8) (B : Option Addr) (len c : Nat) : Array Value := #[.int .i64 k, .bool b, .int .i64 n, .float .f64 f, .string (st s), .slice B len c]

theorem types_ne {cs ds : Array Value} : Obj.cells cs 31 ≠ Obj.cells ds 25 := by
  intro h
  injection h with _ h
  cases h

theorem set3_heap {w : World} {b : Nat} {x y z u v t : Value} {T : TypeId} (h : w.heap[b]? = some (.cells #[x, y, z] T)) : (((w.setCell ⟨b, 0, none⟩ u).setCell ⟨b, 1, none⟩ v).setCell ⟨b, 2, none⟩ t).heap[b]? = some (.cells #[u, v, t] T) := by
  obtain ⟨hb, h⟩ := Array.getElem?_eq_some_iff.1 h
  simp [World.setCell, hb, h, Array.modify, Array.modifyM]
theorem fill_post {B : Nat} {d : Tmp} {a a' : Act} {w : World} {b b' : Nat} {x y z u v t : Value} {T2 T : TypeId} {cs : Array Value} {mk : Addr → Array Value} (hd : a.tmps.getD d undef = .pointer (some ⟨b, 0, none⟩)) (h1 : B ≤ b) (h2 : w.heap[b]? = some (.cells #[x, y, z] T2)) (h3 : B ≤ b') (h4 : w.heap[b']? = some (.cells cs T))
    (hne : Obj.cells cs T ≠ Obj.cells #[x, y, z] T2) (hmk : mk ⟨b', 0, none⟩ = #[u, v, t]) : StorePost (.cells #[x, y, z] T2) B d a w (FillAt B mk T2 cs T) .normal a' (((w.setCell ⟨b, 0, none⟩ u).setCell ⟨b, 1, none⟩ v).setCell ⟨b, 2, none⟩ t) := by
  have hO := (((Only.refl b w).set 0 u).set 1 v).set 2 t
  refine ⟨rfl, ⟨b, by rw [hd]; rfl, h1, h2, hO⟩, ⟨b, b', h1, h3, hd, by rw [hmk]; exact set3_heap h2, ?_⟩⟩
  rw [hO.block b' fun e => hne (by subst e; rw [h4] at h2; exact Option.some.inj h2)]
  exact h4
theorem box_cells {w : World} {b : Nat} {k : Int} {x : Bool} {n : Int} {f : Nat} {s : List UInt8} {B : Option Addr} {len c : Nat} {T : TypeId} (h : w.heap[b]? = some (.cells (vcells k x n f s B len c) T)) : Box w b k x n f s B len c :=
  ⟨(Array.getElem?_eq_some_iff.1 h).1, cell_of h 0, cell_of h 1, cell_of h 2, cell_of h 3, cell_of h 4, cell_of h 5⟩

set_option maxRecDepth 8000 in
set_option maxHeartbeats 40000000 in
theorem predFloats_walk (n : Int) (f g : Nat) (w : World) (hn : I64 n) (hf : U64 f) (hg : U64 g) : Calls Try.prog 4 #[.int .i64 n, .float .f64 f, .float .f64 g] w fun e w' => e = .returned (.bool true) ∧ Below w.heap.size w w' := by
  go_enter Try.func4, Try.ntmps4
  go_upto_region 3 with fail
  obtain ⟨w1, hw1⟩ : ∃ w1, w1 = (((w.alloc (.cells #[.int .i64 2, .bool false, .int .i64 n, .float .f64 0, .string ⟨#[]⟩, .slice none 0 0] 31)).alloc (.cells #[.int .i64 3, .bool false, .int .i64 0, .float .f64 f, .string ⟨#[]⟩, .slice none 0 0] 31)).alloc (.cells #[.int .i64 3, .bool false, .int .i64 0, .float .f64 g, .string ⟨#[]⟩, .slice none 0 0] 31)).alloc (.cells #[.string ⟨#[101, 113]⟩, .string ⟨#[110, 101, 113]⟩, .string ⟨#[108, 116]⟩, .string ⟨#[108, 116, 101]⟩, .string ⟨#[103, 116]⟩, .string ⟨#[103, 116, 101]⟩] 9) := ⟨_, rfl⟩
  have bk : Below w.heap.size w w1 := hw1 ▸ (((below_alloc w _).alloc (by simp) _).alloc (by simp <;> omega) _).alloc (by simp <;> omega) _
  have xa : Box w1 w.heap.size 2 false n 0 [] none 0 0 := by constructor <;> (rw [hw1]; simp [go_sem]) <;> rfl
  have xb : Box w1 (w.heap.size + 1) 3 false 0 f [] none 0 0 := by constructor <;> (rw [hw1]; simp [go_sem]) <;> rfl
  have xc : Box w1 (w.heap.size + 1 + 1) 3 false 0 g [] none 0 0 := by constructor <;> (rw [hw1]; simp [go_sem]) <;> rfl
  have hs : w.heap.size + 1 + 1 + 1 < w1.heap.size := by rw [hw1]; simp
  have hr : ∀ i : Nat, i < 6 → w1.cell? ⟨w.heap.size + 1 + 1 + 1, i, none⟩ = some (.string (st (opN i))) := by
    intro j hj
    have : w1.cell? ⟨w.heap.size + 1 + 1 + 1, j, none⟩ = #[Value.string (st [101, 113]), .string (st [110, 101, 113]), .string (st [108, 116]), .string (st [108, 116, 101]), .string (st [103, 116]), .string (st [103, 116, 101])][j]? := by rw [hw1]; simp [go_sem]
    rw [this]
    match j, hj with
    | 0, _ => rfl
    | 1, _ => rfl
    | 2, _ => rfl
    | 3, _ => rfl
    | 4, _ => rfl
    | 5, _ => rfl
  rw [← hw1]
  clear hw1
  have aw := fun w => awake_c w
  go_wp2_with fail
  go_loopw [11] (fun a11 wr => ∃ i : Nat, a11 = .int .i64 i ∧ i ≤ 6 ∧ Below w1.heap.size w1 wr) (fun a _ => 6 - (intOf a).toNat)
  case atStart => exact ⟨0, rfl, Nat.zero_le _, Below.refl _ _⟩
  case round =>
    obtain ⟨i, rfl, hi, hbr⟩ := hrel
    have bkr := bk.trans (hbr.mono bk.size)
    by_cases h6 : i < 6
    · have xa := xa.keep hbr
      have xb := xb.keep hbr
      have xc := xc.keep hbr
      have r0 : wr.cell? ⟨w.heap.size + 1 + 1 + 1, i, none⟩ = some (.string (st (opN i))) := (hbr.cell (p := ⟨w.heap.size + 1 + 1 + 1, i, none⟩) hs).trans (hr i h6)
      have rs : w.heap.size + 1 + 1 + 1 < wr.heap.size := Nat.lt_of_lt_of_le hs hbr.size
      have h6i : (i : Int) < 6 := by omega
      have hsix := opN_six h6
      clear hr
      generalize opN i = op at *
      have hop : op ≠ [] := by
        unfold Six at hsix
        rcases hsix with rfl | rfl | rfl | rfl | rfl | rfl <;> simp
      go_upto_region 6 with fail
      have kxa := xa
      have kxb := xb
      have kxc := xc
      obtain ⟨x6, x0, x1, x2, x3, x4, x5⟩ := xa
      obtain ⟨y6, y0, y1, y2, y3, y4, y5⟩ := xb
      (refine wp_region_rst (16) [32, 33, 39, 40, 12, 13] [32, 39, 12, 13] [(12, FillAt wr.heap.size (fun ad => #[.string (st op), .slice (some ad) 1 1, .slice none 0 0]) 25 (vcells 3 false 0 f [] none 0 0) 31), (13, FillAt wr.heap.size (fun ad => #[.string (st op), .slice (some ad) 1 1, .slice none 0 0]) 25 (vcells 2 false n 0 [] none 0 0) 31)] ((.cells #[.string ⟨#[]⟩, .slice none 0 0, .slice none 0 0] 25)) (by kernel_rfl) (by kernel_rfl) (by kernel_rfl) (by kernel_rfl) (by kernel_rfl) ?_; (simp only [List.take_succ_cons, List.take_zero, List.drop_succ_cons, List.drop_zero]))
      ((with_reducible refine wpRel_none (by kernel_rfl) (by kernel_rfl) ?_); intro K hK; go_simp; first | (with_reducible refine hK _ ?_; clear hK K) | (apply Exists.intro; (with_reducible refine ⟨fun _ => ⟨?_, _, rfl⟩, hK _ ?_⟩); (· exact rfl); clear hK K) | (apply Exists.intro; (with_reducible refine ⟨fun _ => ?_, hK _ ?_⟩); (· (with_reducible (fail))); clear hK K))
      ((with_reducible refine wpRel_none (by kernel_rfl) (by kernel_rfl) ?_); intro K hK; go_simp; first | (with_reducible refine hK _ ?_; clear hK K) | (apply Exists.intro; (with_reducible refine ⟨fun _ => ⟨?_, _, rfl⟩, hK _ ?_⟩); (· exact rfl); clear hK K) | (apply Exists.intro; (with_reducible refine ⟨fun _ => ?_, hK _ ?_⟩); (· (with_reducible (fail))); clear hK K))
      ((with_reducible refine wpRel_none (by kernel_rfl) (by kernel_rfl) ?_); intro K hK; go_simp; first | (with_reducible refine hK _ ?_; clear hK K) | (apply Exists.intro; (with_reducible refine ⟨fun _ => ⟨?_, _, rfl⟩, hK _ ?_⟩); (· exact rfl); clear hK K) | (apply Exists.intro; (with_reducible refine ⟨fun _ => ?_, hK _ ?_⟩); (· (with_reducible (fail))); clear hK K))
      ((with_reducible refine wpRel_none (by kernel_rfl) (by kernel_rfl) ?_); intro K hK; go_simp; first | (with_reducible refine hK _ ?_; clear hK K) | (apply Exists.intro; (with_reducible refine ⟨fun _ => ⟨?_, _, rfl⟩, hK _ ?_⟩); (· exact rfl); clear hK K) | (apply Exists.intro; (with_reducible refine ⟨fun _ => ?_, hK _ ?_⟩); (· (with_reducible (fail))); clear hK K))
      ((with_reducible refine wpRel_none (by kernel_rfl) (by kernel_rfl) ?_); intro K hK; go_simp; first | (with_reducible refine hK _ ?_; clear hK K) | (apply Exists.intro; (with_reducible refine ⟨fun _ => ⟨?_, _, rfl⟩, hK _ ?_⟩); (· exact rfl); clear hK K) | (apply Exists.intro; (with_reducible refine ⟨fun _ => ?_, hK _ ?_⟩); (· (with_reducible (fail))); clear hK K))
      ((with_reducible refine wpRel_fact [] (32) (RowAt (wr.heap.size) ((vcells 3 false 0 f [] none 0 0)) (31) (1)) (by kernel_rfl) rfl rfl (RowAt.steady _ _ _ _) (by first | exact rfl | go_simp) ?_ ?_); (· intro p; rw [pickR_nil]; (simp only [fillR]); go_wp2_with fail; exact row_post p.h.size rfl rfl))
      (with_reducible refine wpRel_fact [32] (33) ((BuiltAt wr.heap.size (fun ad => predV op (some ad) 1 1 none 0 0) (vcells 3 false 0 f [] none 0 0) 31)) (by kernel_rfl) rfl rfl ((BuiltAt.steady _ _ _ _)) (by first | exact rfl | go_simp) (fun p => ?_) ?_)
      · (try simp only [pickR, pickR_nil, fillR, List.contains_cons, List.contains_nil, Nat.reduceBEq, Bool.or_false, Bool.or_true, Bool.true_or, Bool.false_or, if_true, if_false, Bool.false_eq_true])
        rintro u ⟨b, hb1, rfl, hb2⟩
        go_wp2_with fail
        exact ⟨fun h => (nomatch h), rfl, rfl, Below.refl _ _, b, hb1, rfl, hb2⟩
      ((with_reducible refine wpRel_none (by kernel_rfl) (by kernel_rfl) ?_); intro K hK; go_simp; first | (with_reducible refine hK _ ?_; clear hK K) | (apply Exists.intro; (with_reducible refine ⟨fun _ => ⟨?_, _, rfl⟩, hK _ ?_⟩); (· exact rfl); clear hK K) | (apply Exists.intro; (with_reducible refine ⟨fun _ => ?_, hK _ ?_⟩); (· (with_reducible (fail))); clear hK K))
      ((with_reducible refine wpRel_none (by kernel_rfl) (by kernel_rfl) ?_); intro K hK; go_simp; first | (with_reducible refine hK _ ?_; clear hK K) | (apply Exists.intro; (with_reducible refine ⟨fun _ => ⟨?_, _, rfl⟩, hK _ ?_⟩); (· exact rfl); clear hK K) | (apply Exists.intro; (with_reducible refine ⟨fun _ => ?_, hK _ ?_⟩); (· (with_reducible (fail))); clear hK K))
      ((with_reducible refine wpRel_none (by kernel_rfl) (by kernel_rfl) ?_); intro K hK; go_simp; first | (with_reducible refine hK _ ?_; clear hK K) | (apply Exists.intro; (with_reducible refine ⟨fun _ => ⟨?_, _, rfl⟩, hK _ ?_⟩); (· exact rfl); clear hK K) | (apply Exists.intro; (with_reducible refine ⟨fun _ => ?_, hK _ ?_⟩); (· (with_reducible (fail))); clear hK K))
      ((with_reducible refine wpRel_none (by kernel_rfl) (by kernel_rfl) ?_); intro K hK; go_simp; first | (with_reducible refine hK _ ?_; clear hK K) | (apply Exists.intro; (with_reducible refine ⟨fun _ => ⟨?_, _, rfl⟩, hK _ ?_⟩); (· exact rfl); clear hK K) | (apply Exists.intro; (with_reducible refine ⟨fun _ => ?_, hK _ ?_⟩); (· (with_reducible (fail))); clear hK K))
      ((with_reducible refine wpRel_none (by kernel_rfl) (by kernel_rfl) ?_); intro K hK; go_simp; first | (with_reducible refine hK _ ?_; clear hK K) | (apply Exists.intro; (with_reducible refine ⟨fun _ => ⟨?_, _, rfl⟩, hK _ ?_⟩); (· exact rfl); clear hK K) | (apply Exists.intro; (with_reducible refine ⟨fun _ => ?_, hK _ ?_⟩); (· (with_reducible (fail))); clear hK K))
      ((with_reducible refine wpRel_fact [] (39) (RowAt (wr.heap.size) ((vcells 2 false n 0 [] none 0 0)) (31) (1)) (by kernel_rfl) rfl rfl (RowAt.steady _ _ _ _) (by first | exact rfl | go_simp) ?_ ?_); (· intro p; rw [pickR_nil]; (simp only [fillR]); go_wp2_with fail; exact row_post p.h.size rfl rfl))
      (with_reducible refine wpRel_fact [39] (40) ((BuiltAt wr.heap.size (fun ad => predV op (some ad) 1 1 none 0 0) (vcells 2 false n 0 [] none 0 0) 31)) (by kernel_rfl) rfl rfl ((BuiltAt.steady _ _ _ _)) (by first | exact rfl | go_simp) (fun p => ?_) ?_)
      · (try simp only [pickR, pickR_nil, fillR, List.contains_cons, List.contains_nil, Nat.reduceBEq, Bool.or_false, Bool.or_true, Bool.true_or, Bool.false_or, if_true, if_false, Bool.false_eq_true])
        rintro u ⟨b, hb1, rfl, hb2⟩
        go_wp2_with fail
        exact ⟨fun h => (nomatch h), rfl, rfl, Below.refl _ _, b, hb1, rfl, hb2⟩
      ((with_reducible refine wpRel_fact [] (12) (VarAt (wr.heap.size) (#[.string ⟨#[]⟩, .slice none 0 0, .slice none 0 0]) (25)) (by kernel_rfl) rfl rfl (VarAt.steady _ _ _) (by first | exact rfl | go_simp) ?_ ?_); (· intro p; rw [pickR_nil]; (simp only [fillR]); go_wp2_with fail; exact var_post p.h.size rfl rfl))
      ((with_reducible refine wpRel_fact [] (13) (VarAt (wr.heap.size) (#[.string ⟨#[]⟩, .slice none 0 0, .slice none 0 0]) (25)) (by kernel_rfl) rfl rfl (VarAt.steady _ _ _) (by first | exact rfl | go_simp) ?_ ?_); (· intro p; rw [pickR_nil]; (simp only [fillR]); go_wp2_with fail; exact var_post p.h.size rfl rfl))
      ((with_reducible refine wpRel_nil ⟨?_, ?_, ?_⟩))
      · exact ⟨VarAt.tough, VarAt.tough, BuiltAt.tough types_ne, RowAt.tough types_ne, BuiltAt.tough types_ne, RowAt.tough types_ne, trivial⟩
      · refine ⟨⟨⟨[33, 12], by kernel_rfl, fun p => ?_⟩, FillAt.steady _ _ _ _ _, FillAt.tough types_ne⟩, ⟨⟨[40, 13], by kernel_rfl, fun p => ?_⟩, FillAt.steady _ _ _ _ _, FillAt.tough types_ne⟩, trivial⟩
        · (try simp only [pickR, pickR_nil, fillR, List.contains_cons, List.contains_nil, Nat.reduceBEq, Bool.or_false, Bool.or_true, Bool.true_or, Bool.false_or, if_true, if_false, Bool.false_eq_true])
          rintro u12 ⟨b, hb1, rfl, hb2⟩ u33 ⟨b', hb3, rfl, hb4⟩
          have z0 := cell_of hb2 0
          have z1 := cell_of hb2 1
          have z2 := cell_of hb2 2
          have q0 := frozen_of hb2 0
          have q1 := frozen_of hb2 1
          have q2 := frozen_of hb2 2
          have zl := (Array.getElem?_eq_some_iff.1 hb2).1
          simp at z0 z1 z2
          go_wp2_with fail
          exact fill_post rfl hb1 hb2 hb3 hb4 types_ne rfl
        · (try simp only [pickR, pickR_nil, fillR, List.contains_cons, List.contains_nil, Nat.reduceBEq, Bool.or_false, Bool.or_true, Bool.true_or, Bool.false_or, if_true, if_false, Bool.false_eq_true])
          rintro u13 ⟨b, hb1, rfl, hb2⟩ u40 ⟨b', hb3, rfl, hb4⟩
          have z0 := cell_of hb2 0
          have z1 := cell_of hb2 1
          have z2 := cell_of hb2 2
          have q0 := frozen_of hb2 0
          have q1 := frozen_of hb2 1
          have q2 := frozen_of hb2 2
          have zl := (Array.getElem?_eq_some_iff.1 hb2).1
          simp at z0 z1 z2
          go_wp2_with fail
          exact fill_post rfl hb1 hb2 hb3 hb4 types_ne rfl
      · intro p
        (simp only [refill, swap, List.map_cons, List.map_nil, Nat.reduceBEq, if_true, if_false, Bool.false_eq_true, fillR])
        rintro u13 ⟨b13, d13, _, _, rfl, h13, k13⟩ u12 ⟨b12, d12, _, _, rfl, h12, k12⟩ u40 _ u39 _ u33 _ u32 _
        intro _
        have l13 := (Array.getElem?_eq_some_iff.1 h13).1
        have l12 := (Array.getElem?_eq_some_iff.1 h12).1
        have z0 := cell_of h12 0
        have z1 := cell_of h12 1
        have z2 := cell_of h12 2
        have v0 := cell_of h13 0
        have v1 := cell_of h13 1
        have v2 := cell_of h13 2
        simp at z0 z1 z2 v0 v1 v2
        have hA : Has p.w (valV 2 false n 0 [] none 0 0) (intV n) := flat_has p.w ⟨by omega, by omega⟩ hn ⟨by omega⟩ (by simp)
        have hB : Has p.w (valV 3 false 0 f [] none 0 0) (floV f) := flat_has p.w ⟨by omega, by omega⟩ ⟨by omega, by omega⟩ hf (by simp)
        have hC : Has p.w (valV 3 false 0 g [] none 0 0) (floV g) := flat_has p.w ⟨by omega, by omega⟩ ⟨by omega, by omega⟩ hg (by simp)
        have p12 := parts1 (box_cells k12) hB
        have p13 := parts1 (box_cells k13) hA
        have c1 := fun q : In p.w => pHolds_c op hsix _ (intV n) (floV f) _ 1 q.w (hA.keep q.h) (p12.keep q.h) (check_flo f)
        have c2 := fun q : In p.w => rholds1_c op hsix _ (intV n) (floV f) _ 1 q.w (hA.keep q.h) (p12.keep q.h)
        have c3 := fun q : In p.w => pHolds_c op hsix _ (floV g) (floV f) _ 1 q.w (hC.keep q.h) (p12.keep q.h) (check_flo f)
        have c4 := fun q : In p.w => rholds1_c op hsix _ (floV g) (floV f) _ 1 q.w (hC.keep q.h) (p12.keep q.h)
        have c5 := fun q : In p.w => pHolds_c op hsix _ (floV f) (intV n) _ 1 q.w (hB.keep q.h) (p13.keep q.h) (check_int n)
        have c6 := fun q : In p.w => rholds1_c op hsix _ (floV f) (intV n) _ 1 q.w (hB.keep q.h) (p13.keep q.h)
        have f12 := (d12 : Nat)
        obtain ⟨s6, s0, s1, s2, s3, s4, s5⟩ := kxc
        have X0 := (p.cell ⟨w.heap.size, 0, none⟩ x6).trans x0
        clear hsix h12 h13 k12 k13 hA hB hC p12 p13 kxa kxb
        generalize tellV op (intV n) (floV f) = t1 at *
        generalize tellV op (floV g) (floV f) = t2 at *
        generalize tellV op (floV f) (intV n) = t3 at *
        go_simp
        have X6 : w.heap.size < p.w.heap.size := Nat.lt_of_lt_of_le x6 p.h.size
        have Y6 : w.heap.size + 1 < p.w.heap.size := Nat.lt_of_lt_of_le y6 p.h.size
        have S6 : w.heap.size + 1 + 1 < p.w.heap.size := Nat.lt_of_lt_of_le s6 p.h.size
        clear X0 f12
        go_upto_region 7 with fail
        (refine wp_region_flow [] (by kernel_rfl) (by kernel_rfl) ?_; (repeat (((with_reducible refine wpFlow_steps ?_); intro K hK; go_simp; first | (with_reducible refine hK _ ?_; clear hK K) | (apply Exists.intro; (with_reducible refine ⟨fun _ => ⟨?_, _, rfl⟩, hK _ ?_⟩); (· exact rfl); clear hK K) | (apply Exists.intro; (with_reducible refine ⟨fun _ => ⟨_, rfl⟩, hK _ ?_⟩); clear hK K) | (apply Exists.intro; (with_reducible refine ⟨fun _ => ?_, hK _ ?_⟩); (· (with_reducible (first | exact c1 _ | exact c2 _ | exact c3 _ | exact c4 _ | exact c5 _ | exact c6 _))); clear hK K)))); (refine wpFlow_nil ?_; rintro w1 ⟨q0, hq0⟩; have hb := In.h q0; rw [← hq0] at hb; clear hq0 q0; (first | ((with_reducible obtain ⟨p, hw''⟩ := In.of2 p hb); subst hw'') | (obtain ⟨p, hw''⟩ := In.of hb; subst hw'')); go_simp; intros))
        go_wp2_with fail
        exact ⟨⟨i + 1, by simp, by omega, p.back hbr⟩, by simp [intOf]; omega⟩
    · have e6 : i = 6 := by omega
      subst e6
      go_wp2_with ((with_reducible refine (aw _).mono ?_); rintro e w2 ⟨rfl, hb2⟩)
      go_ret
      exact ⟨rfl, bkr.trans (hb2.mono bkr.size)⟩
end Go.Proofs.Ytglcnnnjdkjggaa
