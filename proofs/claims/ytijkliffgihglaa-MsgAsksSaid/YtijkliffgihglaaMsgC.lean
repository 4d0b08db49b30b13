/-
  Requests from bytes.
-/
import Derived.Test.YtijkliffgihglaaMsgB
set_option linter.unusedSimpArgs false
set_option linter.unusedVariables false
namespace Go.Proofs.Ytijkliffgihglaa
open Go.RowKit

theorem below_of_same {P : Program} {f : FuncId} {args : Array Value} {w : World} {v : Value} (h : Calls P f args w fun e w' => e = .returned v ∧ w = w') : Calls P f args w fun e w'' => e = .returned v ∧ Below w.heap.size w w'' :=
  h.mono fun _ _ h => ⟨h.1, h.2 ▸ Below.refl _ _⟩
theorem st_extract (l : List UInt8) (a b : Nat) : (⟨l.toArray⟩ : ByteArray).extract a b = ⟨((l.take b).drop a).toArray⟩ := by
  apply ByteArray.ext
  simp [ByteArray.data_extract, List.extract_eq_take_drop, List.drop_take]
attribute [go_sem] st_extract
def getK (l : List UInt8) (k : Nat) : Int := (l.getD k 0).toNat
theorem getK_eq (l : List UInt8) (k : Nat) (h : k < l.length) : IntKind.i64.wrap ((st l)[k]'(st_lt h)).toNat = getK l k := by
  rw [st_get l k h]
  unfold getK
  rw [List.getD_eq_getElem?_getD, List.getElem?_eq_getElem h]
  simp only [Option.getD_some]
  have := l[k].toNat_lt
  simp [IntKind.wrap, IntKind.bits, IntKind.signed]
  omega
def gid (l : List UInt8) : Int := wideN (l.take 8) 8
def gsess (l : List UInt8) : Int := IntKind.i64.wrap (wideN ((l.take 17).drop 9) 8)
def gfuel (l : List UInt8) : Int := IntKind.i64.wrap (wideN ((l.take 26).drop 18) 8)
def groom (l : List UInt8) : Int := IntKind.i64.wrap (wideN ((l.take 34).drop 26) 8)
def gbatch (l : List UInt8) : Int := IntKind.i64.wrap (wideN ((l.take 36).drop 34) 8)
def getE (l : List UInt8) : Int := askE (getK l 8) (gsess l) (getK l 17) (gfuel l) (groom l) (gbatch l) (l.drop 36).length
/-- what the bytes are -/
def getV (l : List UInt8) : Value :=
  if l.length < 36 then .tuple #[askV 0 0 0 0 0 0 0 [], .int .i64 4]
  else if getE l = 0 then .tuple #[askV (gid l) (getK l 8) (gsess l) (getK l 17) (gfuel l) (groom l) (gbatch l) (l.drop 36), .int .i64 0]
  else .tuple #[askV 0 0 0 0 0 0 0 [], .int .i64 6]
def GetEnds (l : List UInt8) (w : World) (e : Ending) (w' : World) : Prop := e = .returned (getV l) ∧ Below w.heap.size w w'

theorem get_short (l : List UInt8) (w : World) (h36 : l.length < 36) :
    Calls Try.prog 11 #[.string (st l)] w (GetEnds l w) := by
  have h36' : (l.length : Int) < 36 := by omega
  go_enter Try.func11, Try.ntmps11
  go_wp2
  refine bodyPost_ret (v := .tuple #[.agg #[.int .u64 0, .int .i64 0, .int .i64 0, .int .i64 0, .int .i64 0, .int .i64 0, .int .i64 0, .string (st [])], .int .i64 4]) (by simp [results, Try.results11, go_sem]) rfl ⟨by unfold getV; rw [if_pos h36], by go_grown⟩
set_option maxHeartbeats 4000000 in
theorem get_long (l : List UInt8) (w : World) (hl : l.length ≤ maxLen) (h36 : 36 ≤ l.length) :
    Calls Try.prog 11 #[.string (st l)] w (GetEnds l w) := by
  unfold maxLen at hl
  have h36' : ¬ (l.length : Int) < 36 := by omega
  have c1 := fun w => below_of_same (wide_c (l.take 8) w (by unfold maxLen; simp; omega))
  have c2 := fun w => below_of_same (wide_c ((l.take 17).drop 9) w (by unfold maxLen; simp; omega))
  have c3 := fun w => below_of_same (wide_c ((l.take 26).drop 18) w (by unfold maxLen; simp; omega))
  have c4 := fun w => below_of_same (wide_c ((l.take 34).drop 26) w (by unfold maxLen; simp; omega))
  have c5 := fun w => below_of_same (wide_c ((l.take 36).drop 34) w (by unfold maxLen; simp; omega))
  have l8 : 8 ≤ (l.length : Int) := by omega
  have l9 : 9 ≤ (l.length : Int) := by omega
  have l17 : 17 ≤ (l.length : Int) := by omega
  have l18 : 18 ≤ (l.length : Int) := by omega
  have l26 : 26 ≤ (l.length : Int) := by omega
  have l34 : 34 ≤ (l.length : Int) := by omega
  have l36 : 36 ≤ (l.length : Int) := by omega
  have m8 : 8 < (l.length : Int) := by omega
  have m17 : 17 < (l.length : Int) := by omega
  have n8 : 8 < l.length := by omega
  have n17 : 17 < l.length := by omega
  have g8 := getK_eq l 8 n8
  have g17 := getK_eq l 17 n17
  have g1 : wideN (l.take 8) 8 = gid l := rfl
  have g2 : IntKind.i64.wrap (wideN ((l.take 17).drop 9) 8) = gsess l := rfl
  have g3 : IntKind.i64.wrap (wideN ((l.take 26).drop 18) 8) = gfuel l := rfl
  have g4 : IntKind.i64.wrap (wideN ((l.take 34).drop 26) 8) = groom l := rfl
  have g5 : IntKind.i64.wrap (wideN ((l.take 36).drop 34) 8) = gbatch l := rfl
  rw [g1] at c1
  have c0 := fun w => check_c (gid l) (getK l 8) (gsess l) (getK l 17) (gfuel l) (groom l) (gbatch l) (l.drop 36) w (by unfold maxLen; simp; omega)
  have hV : getV l = if getE l = 0 then .tuple #[askV (gid l) (getK l 8) (gsess l) (getK l 17) (gfuel l) (groom l) (gbatch l) (l.drop 36), .int .i64 0]
    else .tuple #[askV 0 0 0 0 0 0 0 [], .int .i64 6] := by unfold getV; rw [if_neg (by omega)]
  have hV := Lib.hid hV
  rw [show askE (getK l 8) (gsess l) (getK l 17) (gfuel l) (groom l) (gbatch l) (l.drop 36).length = getE l from rfl] at c0
  go_enter Try.func11, Try.ntmps11
  go_wp2
  refine wp_region_flow_last (l := [_, _, _, _, _, _, _, _, _, _,   _, _, _, _, _, _, _, _, _, _,   _, _, _, _, _, _, _, _, _]) [4] (by kernel_rfl) (by kernel_rfl) (by kernel_rfl) ?_
  repeat ((refine wpFlow_steps (fun K hK => ?_); go_simp; first | (with_reducible refine hK _ ?_; clear hK K) | (apply Exists.intro; (with_reducible refine ⟨fun _ => ⟨?_, _, rfl⟩, hK _ ?_⟩); (· exact rfl); clear hK K) | (apply Exists.intro; (with_reducible refine ⟨fun _ => ⟨_, rfl⟩, hK _ ?_⟩); clear hK K) | (apply Exists.intro; (with_reducible refine ⟨fun _ => ?_, hK _ ?_⟩); (· (with_reducible (first | exact c1 _ | exact c2 _ | exact c3 _ | exact c4 _ | exact c5 _))); clear hK K)))
  refine wpFlow_nil ?_
  rintro _ ⟨p, rfl⟩
  intro b hb hH
  have hc := hH.cell
  have hf := hH.frozen
  have hlt := hH.lt
  clear hH
  have hb0 : w.heap.size ≤ b := by
    have := hb
    simp at this
    omega
  have hb1 : b ≠ w.heap.size := by
    have := hb
    simp at this
    omega
  have hb2 := Ne.symm hb1
  clear c1 c2 c3 c4 c5 hb
  have B0 := p.back1
  refine ⟨by kernel_rfl, ?_⟩
  go_simp
  by_cases h0 : getE l = 0
  · go_wp2_with ((with_reducible refine (c0 _).mono ?_); rintro e w1 ⟨rfl, hb⟩; (first | ((with_reducible obtain ⟨p, hw''⟩ := In.of2 p hb); subst hw'') | (obtain ⟨p, hw''⟩ := In.of hb; subst hw'')))
    have q : ∀ k, p.w.cell? ⟨w.heap.size, k, none⟩ = #[Value.int IntKind.u64 0, Value.int IntKind.i64 0, Value.int IntKind.i64 0, Value.int IntKind.i64 0, Value.int IntKind.i64 0, Value.int IntKind.i64 0, Value.int IntKind.i64 0, Value.string { data := #[] }][k]? := by
      intro k
      go_simp
    have B : Below w.heap.size w p.w := by
      with_reducible refine p.back ?_
      repeat (with_reducible refine back_set ?_ _ hb0 _)
      exact B0
    clear hb
    generalize hpw : p.w = w1 at *
    refine bodyPost_ret (v := .tuple #[askV (gid l) (getK l 8) (gsess l) (getK l 17) (gfuel l) (groom l) (gbatch l) (l.drop 36), .int .i64 0]) (by simp only [results, Try.results11]; go_simp) rfl ⟨by rw [hV.out, if_pos h0], ?_⟩
    repeat (with_reducible refine back_set ?_ _ (Nat.le_refl _) _)
    exact B
  · go_wp2_with ((with_reducible refine (c0 _).mono ?_); rintro e w1 ⟨rfl, hb⟩; (first | ((with_reducible obtain ⟨p, hw''⟩ := In.of2 p hb); subst hw'') | (obtain ⟨p, hw''⟩ := In.of hb; subst hw'')))
    have q : ∀ k, p.w.cell? ⟨w.heap.size, k, none⟩ = #[Value.int IntKind.u64 0, Value.int IntKind.i64 0, Value.int IntKind.i64 0, Value.int IntKind.i64 0, Value.int IntKind.i64 0, Value.int IntKind.i64 0, Value.int IntKind.i64 0, Value.string { data := #[] }][k]? := by
      intro k
      go_simp
    have B : Below w.heap.size w p.w := by
      with_reducible refine p.back ?_
      repeat (with_reducible refine back_set ?_ _ hb0 _)
      exact B0
    clear hb
    generalize hpw : p.w = w1 at *
    refine bodyPost_ret (v := .tuple #[askV 0 0 0 0 0 0 0 [], .int .i64 6]) (by simp only [results, Try.results11]; go_simp) rfl ⟨by rw [hV.out, if_neg h0], ?_⟩
    repeat (with_reducible refine back_set ?_ _ (Nat.le_refl _) _)
    exact B
theorem get_c (l : List UInt8) (w : World) (hl : l.length ≤ maxLen) : Calls Try.prog 11 #[.string (st l)] w (GetEnds l w) := by
  by_cases h : l.length < 36
  · exact get_short l w h
  · exact get_long l w hl (by omega)

/- there and back -/
theorem byte_toNat (n : Int) (h : 0 ≤ n) : ((byte n).toNat : Int) = n % 256 := by
  unfold byte
  rw [UInt8.toNat_ofNat']
  omega
theorem wide8 (n : Int) (h0 : 0 ≤ n) (h1 : n ≤ 18446744073709551615) : wideN (eightL n) 8 = n := by
  unfold wideN wide eightL
  simp only [List.take_succ_cons, List.take_zero, List.foldl_cons, List.foldl_nil]
  have e := fun (k : Int) (hk : 0 ≤ k) => byte_toNat k hk
  have e0 := e (n / 72057594037927936 % 256) (by omega)
  have e1 := e (n / 281474976710656 % 256) (by omega)
  have e2 := e (n / 1099511627776 % 256) (by omega)
  have e3 := e (n / 4294967296 % 256) (by omega)
  have e4 := e (n / 16777216 % 256) (by omega)
  have e5 := e (n / 65536 % 256) (by omega)
  have e6 := e (n / 256 % 256) (by omega)
  have e7 := e (n % 256) (by omega)
  clear e
  have d1 : n / 256 = n / 65536 * 256 + n / 256 % 256 := by omega
  have d2 : n / 65536 = n / 16777216 * 256 + n / 65536 % 256 := by omega
  have d3 : n / 16777216 = n / 4294967296 * 256 + n / 16777216 % 256 := by omega
  have d4 : n / 4294967296 = n / 1099511627776 * 256 + n / 4294967296 % 256 := by omega
  have d5 : n / 1099511627776 = n / 281474976710656 * 256 + n / 1099511627776 % 256 := by omega
  have d6 : n / 281474976710656 = n / 72057594037927936 * 256 + n / 281474976710656 % 256 := by omega
  have d7 : n / 72057594037927936 % 256 = n / 72057594037927936 := by omega
  have d0 : n = n / 256 * 256 + n % 256 := by omega
  rw [Int.emod_emod_of_dvd _ (Int.dvd_refl 256)] at e0 e1 e2 e3 e4 e5 e6 e7
  replace e0 := e0.trans d7
  generalize (byte (n / 72057594037927936 % 256)).toNat = b0 at *
  generalize (byte (n / 281474976710656 % 256)).toNat = b1 at *
  generalize (byte (n / 1099511627776 % 256)).toNat = b2 at *
  generalize (byte (n / 4294967296 % 256)).toNat = b3 at *
  generalize (byte (n / 16777216 % 256)).toNat = b4 at *
  generalize (byte (n / 65536 % 256)).toNat = b5 at *
  generalize (byte (n / 256 % 256)).toNat = b6 at *
  generalize (byte (n % 256)).toNat = b7 at *
  generalize n / 72057594037927936 = y7 at *
  generalize n / 281474976710656 % 256 = m6 at *
  generalize n / 281474976710656 = y6 at *
  generalize n / 1099511627776 % 256 = m5 at *
  generalize n / 1099511627776 = y5 at *
  generalize n / 4294967296 % 256 = m4 at *
  generalize n / 4294967296 = y4 at *
  generalize n / 16777216 % 256 = m3 at *
  generalize n / 16777216 = y3 at *
  generalize n / 65536 % 256 = m2 at *
  generalize n / 65536 = y2 at *
  generalize n / 256 % 256 = m1 at *
  generalize n / 256 = y1 at *
  generalize n % 256 = m0 at *
  clear d7
  omega
theorem wide2 (n : Int) (h0 : 0 ≤ n) (h1 : n < 65536) : wideN (twoL n) 8 = n := by
  unfold wideN wide twoL
  simp only [List.take_succ_cons, List.take_nil, List.take_zero, List.foldl_cons, List.foldl_nil]
  have e0 := byte_toNat (n / 256 % 256) (by omega)
  have e1 := byte_toNat (n % 256) (by omega)
  omega
theorem get_put {id kind sess rules fuel room batch : Int} {body : List UInt8} (hid : 0 ≤ id ∧ id ≤ 18446744073709551615) (hs : sess ≤ 9223372036854775807) (hf : fuel ≤ 9223372036854775807) (hr : room ≤ 9223372036854775807)
    (h : askE kind sess rules fuel room batch body.length = 0) : getV (askL id kind sess rules fuel room batch body) = .tuple #[askV id kind sess rules fuel room batch body, .int .i64 0] := by
  have H : (1 ≤ kind ∧ kind ≤ 7 ∧ 0 ≤ rules ∧ rules ≤ 255 ∧ 0 ≤ sess ∧ 0 ≤ fuel ∧ 0 ≤ room ∧ 1 ≤ batch ∧ batch ≤ 200 ∧ body.length ≤ 20000) := by
    unfold askE at h; split at h
    · omega
    · split at h <;> omega
  obtain ⟨k1, k2, r1, r2, s1, f1, m1, b1, b2, l1⟩ := H
  have e1 : gid (askL id kind sess rules fuel room batch body) = id := by
    have : (askL id kind sess rules fuel room batch body).take 8 = eightL id := by simp [askL, eightL]
    unfold gid; rw [this, wide8 id hid.1 hid.2]
  have wr : ∀ n : Int, 0 ≤ n → n ≤ 9223372036854775807 → IntKind.i64.wrap n = n := fun n h0 h1 => by simp [IntKind.wrap, IntKind.bits, IntKind.signed]; omega
  have e2 : getK (askL id kind sess rules fuel room batch body) 8 = kind := by
    have : getK (askL id kind sess rules fuel room batch body) 8 = ((byte kind).toNat : Int) := by simp [getK, askL, eightL]
    rw [this, byte_toNat _ (by omega)]; omega
  have e3 : gsess (askL id kind sess rules fuel room batch body) = sess := by
    have : ((askL id kind sess rules fuel room batch body).take 17).drop 9 = eightL sess := by simp [askL, eightL]
    unfold gsess; rw [this, wide8 _ (by omega) (by omega), wr _ (by omega) (by omega)]
  have e4 : getK (askL id kind sess rules fuel room batch body) 17 = rules := by
    have : getK (askL id kind sess rules fuel room batch body) 17 = ((byte rules).toNat : Int) := by simp [getK, askL, eightL]
    rw [this, byte_toNat _ (by omega)]; omega
  have e5 : gfuel (askL id kind sess rules fuel room batch body) = fuel := by
    have : ((askL id kind sess rules fuel room batch body).take 26).drop 18 = eightL fuel := by simp [askL, eightL]
    unfold gfuel; rw [this, wide8 _ (by omega) (by omega), wr _ (by omega) (by omega)]
  have e6 : groom (askL id kind sess rules fuel room batch body) = room := by
    have : ((askL id kind sess rules fuel room batch body).take 34).drop 26 = eightL room := by simp [askL, eightL]
    unfold groom; rw [this, wide8 _ (by omega) (by omega), wr _ (by omega) (by omega)]
  have e7 : gbatch (askL id kind sess rules fuel room batch body) = batch := by
    have : ((askL id kind sess rules fuel room batch body).take 36).drop 34 = twoL batch := by simp [askL, eightL, twoL]
    unfold gbatch; rw [this, wide2 _ (by omega) (by omega), wr _ (by omega) (by omega)]
  have e8 : (askL id kind sess rules fuel room batch body).drop 36 = body := by simp [askL, eightL, twoL]
  have hl : ¬ (askL id kind sess rules fuel room batch body).length < 36 := by simp [askL, eightL, twoL]
  unfold getV
  rw [if_neg hl]
  have hE : getE (askL id kind sess rules fuel room batch body) = 0 := by unfold getE; rw [e2, e3, e4, e5, e6, e7, e8, h]
  rw [if_pos hE, e1, e2, e3, e4, e5, e6, e7, e8]
end Go.Proofs.Ytijkliffgihglaa
