
/-
  Pages: a page's bytes (Encode).
-/
import Derived.Test.YtgcoepljlkahoaaPgC
import Derived.Test.YtgcoepljlkahoaaShelf
set_option linter.unusedSimpArgs false
set_option linter.unusedVariables false
namespace Go.Proofs.Ytgcoepljlkahoaa
open Go.RowKit

@[go_sem] theorem eightL_len (n : Int) : (eightL n).length = 8 := rfl
@[go_sem] theorem twoL_len (n : Int) : (twoL n).length = 2 := rfl
/-- a record more: the slots from the front, the records from the back -/
def encStep (p : List UInt8 × List UInt8) (b : Rec) : List UInt8 × List UInt8 :=
  (p.1 ++ (eightL (b.1 : Int) ++ twoL (512 - ((b.2 ++ p.2).length : Int)) ++ twoL (b.2.length : Int)), b.2 ++ p.2)
def encF (n : Nat) (l : List Rec) : List UInt8 × List UInt8 := l.foldl encStep (twoL (n : Int), [])
def sumL (l : List Rec) : Nat := (l.map fun b => b.2.length).sum
def usedN (l : List Rec) : Nat := 2 + 12 * l.length + sumL l
theorem encF_take {n : Nat} {l : List Rec} {i : Nat} {b : Rec} (h : l[i]? = some b) : encF n (l.take (i + 1)) = encStep (encF n (l.take i)) b := by
  obtain ⟨hi, rfl⟩ := List.getElem?_eq_some_iff.1 h
  unfold encF
  rw [List.take_succ_eq_append_getElem hi, List.foldl_append]
  rfl
theorem encF_len (n : Nat) (l : List Rec) : (encF n l).1.length = 2 + 12 * l.length ∧ (encF n l).2.length = sumL l := by
  suffices h : ∀ (l : List Rec) (p : List UInt8 × List UInt8), (l.foldl encStep p).1.length = p.1.length + 12 * l.length ∧ (l.foldl encStep p).2.length = p.2.length + sumL l from by
    have := h l (twoL (n : Int), [])
    simpa [twoL, encF] using this
  intro l
  induction l with
  | nil => intro p; simp [sumL]
  | cons b l ih =>
    intro p
    have := ih (encStep p b)
    simp only [List.foldl_cons, this]
    simp [encStep, eightL, twoL, sumL]
    omega
theorem sumL_take_le (l : List Rec) (i : Nat) : sumL (l.take i) ≤ sumL l := by
  have h : sumL l = sumL (l.take i) + sumL (l.drop i) := by
    unfold sumL
    rw [← List.sum_append, ← List.map_append, List.take_append_drop]
  omega
theorem sumL_get {l : List Rec} {i : Nat} {b : Rec} (h : l[i]? = some b) : sumL (l.take i) + b.2.length ≤ sumL l := by
  obtain ⟨hi, rfl⟩ := List.getElem?_eq_some_iff.1 h
  have h1 := sumL_take_le l (i + 1)
  rw [List.take_succ_eq_append_getElem hi] at h1
  have h2 : sumL (l.take i ++ [l[i]]) = sumL (l.take i) + l[i].2.length := by simp only [sumL, List.map_append, List.map_cons, List.map_nil, List.sum_append, List.sum_cons, List.sum_nil]; omega
  omega
/-- a page's bytes -/
def encL (l : List Rec) : List UInt8 := (encF l.length l).1 ++ Lib.repeatL [0] (512 - (encF l.length l).1.length - (encF l.length l).2.length) ++ (encF l.length l).2
set_option maxRecDepth 8000 in
set_option maxHeartbeats 4000000 in
theorem enc_c (base g : Nat) (v : Value) (l : List Rec) (used : Int) (w : World) (hp : PageAt w base g v l used) (hu : usedN l ≤ 512) :
    Calls Try.prog 15 #[.pointer (some ⟨g, 0, none⟩)] w (StrEnds (encL l) w) := by
  have hll : l.length ≤ 42 := by unfold usedN at hu; omega
  have hsl : sumL l ≤ 510 := by unfold usedN at hu; omega
  have ct := fun n w => two_c n w
  unfold StrEnds at ct ⊢
  obtain ⟨A, cap, rfl, hcap, hb, _⟩ := hp.parts
  have c0 : w.cell? ⟨g, 0, none⟩ = some (.slice A l.length cap) := cell_of hp.blk 0
  have c1 : w.cell? ⟨g, 1, none⟩ = some (.int .i64 used) := cell_of hp.blk 1
  have hlt := (Array.getElem?_eq_some_iff.1 hp.blk).1
  clear hp
  go_enter Try.func15, Try.ntmps15
  go_upto_region 4 with ((with_reducible refine (ct _ _).mono ?_); rintro e w1 ⟨rfl, hb1⟩)
  have c0' : w1.cell? ⟨g, 0, none⟩ = some (.slice A l.length cap) := (hb1.cell (p := ⟨g, 0, none⟩) hlt).trans c0
  have hlt1 := Nat.lt_of_lt_of_le hlt hb1.size
  have hbd := hb.keep hb1
  clear hb c0 c1 hlt
  go_wp2_with fail
  go_loopw [3, 4, 20] (fun a3 a4 a20 wr => ∃ i : Nat, a20 = .int .i64 i ∧ a3 = .string (st (encF l.length (l.take i)).1) ∧ a4 = .string (st (encF l.length (l.take i)).2) ∧ i ≤ l.length ∧ Below w1.heap.size w1 wr) (fun _ _ c _ => l.length - (intOf c).toNat)
  case atStart => exact ⟨0, rfl, rfl, rfl, Nat.zero_le _, Below.refl _ _⟩
  case round =>
    obtain ⟨i, rfl, rfl, rfl, hi, hbr⟩ := hrel
    by_cases hil : i < l.length
    · have hil' : (i : Int) < l.length := by omega
      have hget : l[i]? = some l[i] := by simp
      have hst := Lib.hid (encF_take (n := l.length) hget)
      have hln := encF_len l.length (l.take i)
      have hsg := sumL_get hget
      obtain ⟨ad, rfl, hB⟩ := hbd i l[i] hget
      obtain ⟨q6, q0, q1⟩ := hB.keep hbr
      clear hbd hget
      generalize l[i] = x at *
      generalize hE : encF l.length (l.take i) = E at *
      clear hE
      obtain ⟨head, back⟩ := E
      obtain ⟨id, s⟩ := x
      dsimp only at *
      go_upto_region 7 with fail
      obtain ⟨wa, hwa⟩ : ∃ wa, wa = wr.alloc (.cells #[.int .u64 (id : Int), .string (st s)] 53) := ⟨_, rfl⟩
      have y0 : wa.cell? ⟨wr.heap.size, 0, none⟩ = some (.int .u64 (id : Int)) := by rw [hwa]; simp [go_sem]
      have y1 : wa.cell? ⟨wr.heap.size, 1, none⟩ = some (.string (st s)) := by rw [hwa]; simp [go_sem]
      have y6 : wr.heap.size < wa.heap.size := by rw [hwa]; simp
      have hba : Below w1.heap.size w1 wa := hwa ▸ hbr.alloc hbr.size _
      rw [← hwa]
      clear hwa hbr q6 q0 q1 hB
      have htk : (l.take i).length = i := by rw [List.length_take]; omega
      rw [htk] at hln
      obtain ⟨hl1, hl2⟩ := hln
      have n1 : ¬ 9223372036854775807 < s.length + back.length := by omega
      have n2 : ¬ 9223372036854775807 < head.length + 12 := by omega
      have n3 : ¬ 9223372036854775807 < head.length + (8 + 2 + 2) := by omega
      have w5 : IntKind.i64.wrap (512 - ((s.length : Int) + back.length)) = 512 - ((s.length : Int) + back.length) := by rw [IntKind.wrap_i64]; omega
      have w6 : IntKind.i64.wrap (512 - ((s ++ back).length : Int)) = 512 - ((s ++ back).length : Int) := by rw [IntKind.wrap_i64, List.length_append]; omega
      clear hl1 hl2 htk hsg
      have ce := fun n w h => eight_c n w h
      have ce1 := fun w => ce (id : Int) w (by omega)
      unfold StrEnds at ce1
      clear ce
      go_upto_region 8 with fail
      (refine wp_region_flow [] (by kernel_rfl) (by kernel_rfl) ?_; (repeat (((with_reducible refine wpFlow_steps ?_); intro K hK; go_simp; first | (with_reducible refine hK _ ?_; clear hK K) | (apply Exists.intro; (with_reducible refine ⟨fun _ => ⟨?_, _, rfl⟩, hK _ ?_⟩); (· exact rfl); clear hK K) | (apply Exists.intro; (with_reducible refine ⟨fun _ => ⟨_, rfl⟩, hK _ ?_⟩); clear hK K) | (apply Exists.intro; (with_reducible refine ⟨fun _ => ?_, hK _ ?_⟩); (· (with_reducible (first | exact ct _ _ | exact ce1 _))); clear hK K)))); (refine wpFlow_nil ?_; rintro w1 ⟨q0, hq0⟩; have hb := In.h q0; rw [← hq0] at hb; clear hq0 q0; (first | ((with_reducible obtain ⟨p, hw''⟩ := In.of2 p hb); subst hw'') | (obtain ⟨p, hw''⟩ := In.of hb; subst hw'')); go_simp; intros))
      go_wp2_with fail
      exact ⟨⟨i + 1, rfl, by rw [hst.out]; simp [encStep, List.append_assoc], by rw [hst.out]; rfl, hil, p.back hba⟩, by simp [intOf]; omega⟩
    · have e : i = l.length := by omega
      subst e
      have hil' : ¬ (l.length : Int) < l.length := by omega
      rw [List.take_length]
      have hln := encF_len l.length l
      have hE : encL l = (encF l.length l).1 ++ Lib.repeatL [0] (512 - (encF l.length l).1.length - (encF l.length l).2.length) ++ (encF l.length l).2 := rfl
      have hu' : (encF l.length l).1.length + (encF l.length l).2.length ≤ 512 := by rw [hln.1, hln.2]; unfold usedN at hu; omega
      clear hln hbd
      generalize encF l.length l = E at *
      obtain ⟨head, back⟩ := E
      dsimp only at *
      have hE := Lib.hid hE
      obtain ⟨c, hc⟩ : ∃ c, c = 512 - head.length - back.length := ⟨_, rfl⟩
      have hcz : 512 - (head.length : Int) - back.length = (c : Int) := by omega
      have w7 : IntKind.i64.wrap (512 - (head.length : Int)) = 512 - (head.length : Int) := by rw [IntKind.wrap_i64]; omega
      have w8 : IntKind.i64.wrap (c : Int) = (c : Int) := by rw [IntKind.wrap_i64]; omega
      have w9 : IntKind.i64.wrap (512 - (head.length : Int) - back.length) = (c : Int) := by rw [IntKind.wrap_i64]; omega
      have hrl : (Lib.repeatL [0] c).length = c := by rw [Lib.repeatL_length]; simp
      have n1 : ¬ 9223372036854775807 < head.length + (Lib.repeatL [0] c).length := by omega
      have n2 : ¬ 9223372036854775807 < head.length + (Lib.repeatL [0] c).length + back.length := by omega
      have n3 : ¬ 9223372036854775807 < head.length + ((Lib.repeatL [0] c).length + back.length) := by omega
      have cr : ∀ w, Calls Try.prog 29 #[.string ⟨#[0]⟩, .int .i64 (c : Int)] w fun e w' => e = .returned (.string (st (Lib.repeatL [0] c))) ∧ Below w.heap.size w w' := fun w => Try.strings_Repeat ⟨#[0]⟩ c w (by omega) (by simp [ByteArray.size]; omega)
      rw [← hc] at hE
      clear hrl hc
      generalize Lib.repeatL [0] c = R at *
      go_wp2_with ((with_reducible refine (cr _).mono ?_); rintro e w2 ⟨rfl, hb2⟩)
      go_ret
      exact ⟨by rw [hE.out]; simp [List.append_assoc], (hb1.trans (hbr.mono hb1.size)).trans (hb2.mono (hb1.trans (hbr.mono hb1.size)).size)⟩
end Go.Proofs.Ytgcoepljlkahoaa
