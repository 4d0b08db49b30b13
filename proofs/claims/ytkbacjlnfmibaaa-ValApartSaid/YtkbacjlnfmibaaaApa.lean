
/-
  ValApart's walk.
-/
import Derived.Test.YtkbacjlnfmibaaaOrd
import Derived.Test.YtkbacjlnfmibaaaRnd
set_option linter.unusedSimpArgs false
set_option linter.unusedVariables false
namespace Go.Proofs.Ytkbacjlnfmibaaa
open Go.RowKit Go.Deep

theorem check_of {v : Val} (h : CheckV v = 0) : checkV v 1 = 0 := by
  unfold CheckV at h
  split at h
  · cases h
  · exact h
set_option maxRecDepth 8000 in
set_option maxHeartbeats 1000000 in
theorem valApart_walk (u : Value) (a : Val) (v : Value) (b : Val) (w : World) (hu : Has w u a) (hv : Has w v b) :
    Calls Try.prog 6 #[u, v] w fun e w' => e = .returned (.bool true) ∧ Below w.heap.size w w' := by
  obtain ⟨na, hna⟩ := weighM a 1000 (by omega) 1000 rfl
  obtain ⟨nb, hnb⟩ := weighM b 1000 (by omega) 1000 rfl
  have cwa := fun w' h => hna u w' (hu.keep h)
  have cwb := fun w' h => hnb v w' (hv.keep h)
  have hA0 : CheckV a = 0 → CheckV b = 0 → (sameV a b = true → putV a = putV b) ∧ (∀ x, putV b = putV a ++ x → x = [] ∧ sameV a b = true) := fun h1 h2 => ⟨put_same, fun x hx => put_apart (check_of h1) (check_of h2) hu.sound hv.sound x hx⟩
  have c1 : ∀ w', Below w.heap.size w w' → Calls Try.prog 14 #[u] w' (PutEnds a w') := fun w' h => put_c a u w' (hu.keep h)
  have c2 : ∀ w', Below w.heap.size w w' → Calls Try.prog 14 #[v] w' (PutEnds b w') := fun w' h => put_c b v w' (hv.keep h)
  have c3 : ∀ w', Below w.heap.size w w' → Calls Try.prog 18 #[u, v] w' fun e w'' => e = .returned (.bool (sameV a b)) ∧ Below w'.heap.size w' w'' := fun w' h => rsame_c a b u v w' (hu.keep h) (hv.keep h)
  obtain ⟨A, capa, rfl, _⟩ := hu.open
  obtain ⟨B, capb, rfl, _⟩ := hv.open
  clear hna hnb hu hv
  unfold PutEnds at c1 c2
  have hL : CheckV a = 0 → CheckV b = 0 → ((if CheckV a = 0 then putV a else []) = putV a ∧ (if CheckV b = 0 then putV b else []) = putV b) := fun h1 h2 => ⟨if_pos h1, if_pos h2⟩
  generalize (if CheckV a = 0 then putV a else []) = La at *
  generalize (if CheckV b = 0 then putV b else []) = Lb at *
  have hP : CheckV a = 0 → CheckV b = 0 → (La = Lb ∧ sameV a b = true) ∨ (La ≠ Lb ∧ sameV a b = false ∧ (Lb.length < La.length ∨ (La.length ≤ Lb.length ∧ Lb.take La.length ≠ La))) := by
    intro h1 h2
    obtain ⟨l1, l2⟩ := hL h1 h2
    obtain ⟨p1, p2⟩ := hA0 h1 h2
    rw [l1, l2]
    by_cases he : putV a = putV b
    · exact .inl ⟨he, (p2 [] (by rw [he, List.append_nil])).2⟩
    · refine .inr ⟨he, by cases hs : sameV a b with | false => rfl | true => exact absurd (p1 hs) he, ?_⟩
      by_cases hl : (putV b).length < (putV a).length
      · exact .inl hl
      · refine .inr ⟨by omega, fun ht => he ?_⟩
        have hx : putV b = putV a ++ (putV b).drop (putV a).length := by
          conv => lhs; rw [← List.take_append_drop (putV a).length (putV b), ht]
        have hn := (p2 _ hx).1
        rw [hn, List.append_nil] at hx
        exact hx.symm
  clear hA0 hL
  generalize CheckV a = ea at *
  generalize CheckV b = eb at *
  generalize sameV a b = sm at *
  have hP' := Lib.hid hP
  clear hP
  go_enter Try.func6, Try.ntmps6
  go_upto_region 1 with fail
  obtain ⟨w1, hw1⟩ : ∃ w1, w1 = (w.alloc (.cells #[.int .i64 a.k, .bool a.b, .int .i64 a.n, .float .f64 a.f, .string (st a.s), .slice A a.l.length capa] 25)).alloc (.cells #[.int .i64 b.k, .bool b.b, .int .i64 b.n, .float .f64 b.f, .string (st b.s), .slice B b.l.length capb] 25) := ⟨_, rfl⟩
  have bk : Below w.heap.size w w1 := hw1 ▸ (below_alloc w _).alloc (by simp) _
  obtain ⟨x6, x0, x1, x2, x3, x4, x5⟩ : Box w1 w.heap.size a.k a.b a.n a.f a.s A a.l.length capa := hw1 ▸ (Box.new w a.k a.b a.n a.f a.s A a.l.length capa _).keep (below_alloc _ _)
  obtain ⟨y6, y0, y1, y2, y3, y4, y5⟩ : Box w1 (w.heap.size + 1) b.k b.b b.n b.f b.s B b.l.length capb := hw1 ▸ Box.new2 w b.k b.b b.n b.f b.s B b.l.length capb _ _
  rw [← hw1]
  clear hw1
  have cwb2 := fun p : In w1 => cwb p.w (p.back bk)
  have d1 := fun p : In w1 => c1 p.w (p.back bk)
  have d2 := fun p : In w1 => c2 p.w (p.back bk)
  have d3 := fun p : In w1 => c3 p.w (p.back bk)
  clear cwb c1 c2 c3
  have aw := fun w => awake_c w
  by_cases hA : 1000 < na
  · have hA' : (1000 : Int) < na := by omega
    go_wp2_with (first | ((with_reducible refine (cwa _ bk).mono ?_); rintro e w2 ⟨rfl, hb2⟩; (first | ((with_reducible obtain ⟨p, hw''⟩ := In.of2 p hb2); subst hw'') | (obtain ⟨p, hw''⟩ := In.of hb2; subst hw''))) | ((with_reducible refine (cwb2 _).mono ?_); rintro e w2 ⟨rfl, hb2⟩; (first | ((with_reducible obtain ⟨p, hw''⟩ := In.of2 p hb2); subst hw'') | (obtain ⟨p, hw''⟩ := In.of hb2; subst hw''))) | ((with_reducible refine (aw _).mono ?_); rintro e w3 ⟨rfl, hb3⟩; (first | ((with_reducible obtain ⟨p, hw''⟩ := In.of2 p hb3); subst hw'') | (obtain ⟨p, hw''⟩ := In.of hb3; subst hw''))) | ((with_reducible refine (d1 _).mono ?_); rintro e w3 ⟨rfl, hb3⟩; (first | ((with_reducible obtain ⟨p, hw''⟩ := In.of2 p hb3); subst hw'') | (obtain ⟨p, hw''⟩ := In.of hb3; subst hw''))) | ((with_reducible refine (d2 _).mono ?_); rintro e w3 ⟨rfl, hb3⟩; (first | ((with_reducible obtain ⟨p, hw''⟩ := In.of2 p hb3); subst hw'') | (obtain ⟨p, hw''⟩ := In.of hb3; subst hw''))) | ((with_reducible refine (d3 _).mono ?_); rintro e w3 ⟨rfl, hb3⟩; (first | ((with_reducible obtain ⟨p, hw''⟩ := In.of2 p hb3); subst hw'') | (obtain ⟨p, hw''⟩ := In.of hb3; subst hw''))))
    go_ret
    exact ⟨rfl, p.back bk⟩
  have hA' : ¬ (1000 : Int) < na := by omega
  by_cases hB : 1000 < nb
  · have hB' : (1000 : Int) < nb := by omega
    go_wp2_with (first | ((with_reducible refine (cwa _ bk).mono ?_); rintro e w2 ⟨rfl, hb2⟩; (first | ((with_reducible obtain ⟨p, hw''⟩ := In.of2 p hb2); subst hw'') | (obtain ⟨p, hw''⟩ := In.of hb2; subst hw''))) | ((with_reducible refine (cwb2 _).mono ?_); rintro e w2 ⟨rfl, hb2⟩; (first | ((with_reducible obtain ⟨p, hw''⟩ := In.of2 p hb2); subst hw'') | (obtain ⟨p, hw''⟩ := In.of hb2; subst hw''))) | ((with_reducible refine (aw _).mono ?_); rintro e w3 ⟨rfl, hb3⟩; (first | ((with_reducible obtain ⟨p, hw''⟩ := In.of2 p hb3); subst hw'') | (obtain ⟨p, hw''⟩ := In.of hb3; subst hw''))) | ((with_reducible refine (d1 _).mono ?_); rintro e w3 ⟨rfl, hb3⟩; (first | ((with_reducible obtain ⟨p, hw''⟩ := In.of2 p hb3); subst hw'') | (obtain ⟨p, hw''⟩ := In.of hb3; subst hw''))) | ((with_reducible refine (d2 _).mono ?_); rintro e w3 ⟨rfl, hb3⟩; (first | ((with_reducible obtain ⟨p, hw''⟩ := In.of2 p hb3); subst hw'') | (obtain ⟨p, hw''⟩ := In.of hb3; subst hw''))) | ((with_reducible refine (d3 _).mono ?_); rintro e w3 ⟨rfl, hb3⟩; (first | ((with_reducible obtain ⟨p, hw''⟩ := In.of2 p hb3); subst hw'') | (obtain ⟨p, hw''⟩ := In.of hb3; subst hw''))))
    go_ret
    exact ⟨rfl, p.back bk⟩
  have hB' : ¬ (1000 : Int) < nb := by omega
  by_cases hE : ea = 0
  case neg =>
    have hE' : (ea == 0) = false := by simpa using hE
    have hE2 : (ea != 0) = true := by simpa using hE
    go_wp2_with (first | ((with_reducible refine (cwa _ bk).mono ?_); rintro e w2 ⟨rfl, hb2⟩; (first | ((with_reducible obtain ⟨p, hw''⟩ := In.of2 p hb2); subst hw'') | (obtain ⟨p, hw''⟩ := In.of hb2; subst hw''))) | ((with_reducible refine (cwb2 _).mono ?_); rintro e w2 ⟨rfl, hb2⟩; (first | ((with_reducible obtain ⟨p, hw''⟩ := In.of2 p hb2); subst hw'') | (obtain ⟨p, hw''⟩ := In.of hb2; subst hw''))) | ((with_reducible refine (aw _).mono ?_); rintro e w3 ⟨rfl, hb3⟩; (first | ((with_reducible obtain ⟨p, hw''⟩ := In.of2 p hb3); subst hw'') | (obtain ⟨p, hw''⟩ := In.of hb3; subst hw''))) | ((with_reducible refine (d1 _).mono ?_); rintro e w3 ⟨rfl, hb3⟩; (first | ((with_reducible obtain ⟨p, hw''⟩ := In.of2 p hb3); subst hw'') | (obtain ⟨p, hw''⟩ := In.of hb3; subst hw''))) | ((with_reducible refine (d2 _).mono ?_); rintro e w3 ⟨rfl, hb3⟩; (first | ((with_reducible obtain ⟨p, hw''⟩ := In.of2 p hb3); subst hw'') | (obtain ⟨p, hw''⟩ := In.of hb3; subst hw''))) | ((with_reducible refine (d3 _).mono ?_); rintro e w3 ⟨rfl, hb3⟩; (first | ((with_reducible obtain ⟨p, hw''⟩ := In.of2 p hb3); subst hw'') | (obtain ⟨p, hw''⟩ := In.of hb3; subst hw''))))
    go_ret
    exact ⟨rfl, p.back bk⟩
  subst hE
  by_cases hF : eb = 0
  case neg =>
    have hF' : (eb == 0) = false := by simpa using hF
    have hF2 : (eb != 0) = true := by simpa using hF
    go_wp2_with (first | ((with_reducible refine (cwa _ bk).mono ?_); rintro e w2 ⟨rfl, hb2⟩; (first | ((with_reducible obtain ⟨p, hw''⟩ := In.of2 p hb2); subst hw'') | (obtain ⟨p, hw''⟩ := In.of hb2; subst hw''))) | ((with_reducible refine (cwb2 _).mono ?_); rintro e w2 ⟨rfl, hb2⟩; (first | ((with_reducible obtain ⟨p, hw''⟩ := In.of2 p hb2); subst hw'') | (obtain ⟨p, hw''⟩ := In.of hb2; subst hw''))) | ((with_reducible refine (aw _).mono ?_); rintro e w3 ⟨rfl, hb3⟩; (first | ((with_reducible obtain ⟨p, hw''⟩ := In.of2 p hb3); subst hw'') | (obtain ⟨p, hw''⟩ := In.of hb3; subst hw''))) | ((with_reducible refine (d1 _).mono ?_); rintro e w3 ⟨rfl, hb3⟩; (first | ((with_reducible obtain ⟨p, hw''⟩ := In.of2 p hb3); subst hw'') | (obtain ⟨p, hw''⟩ := In.of hb3; subst hw''))) | ((with_reducible refine (d2 _).mono ?_); rintro e w3 ⟨rfl, hb3⟩; (first | ((with_reducible obtain ⟨p, hw''⟩ := In.of2 p hb3); subst hw'') | (obtain ⟨p, hw''⟩ := In.of hb3; subst hw''))) | ((with_reducible refine (d3 _).mono ?_); rintro e w3 ⟨rfl, hb3⟩; (first | ((with_reducible obtain ⟨p, hw''⟩ := In.of2 p hb3); subst hw'') | (obtain ⟨p, hw''⟩ := In.of hb3; subst hw''))))
    go_ret
    exact ⟨rfl, p.back bk⟩
  subst hF
  rcases hP'.out rfl rfl with ⟨rfl, rfl⟩ | ⟨hne, rfl, hl | ⟨hl, ht⟩⟩
  · clear hP'
    go_wp2_with (first | ((with_reducible refine (cwa _ bk).mono ?_); rintro e w2 ⟨rfl, hb2⟩; (first | ((with_reducible obtain ⟨p, hw''⟩ := In.of2 p hb2); subst hw'') | (obtain ⟨p, hw''⟩ := In.of hb2; subst hw''))) | ((with_reducible refine (cwb2 _).mono ?_); rintro e w2 ⟨rfl, hb2⟩; (first | ((with_reducible obtain ⟨p, hw''⟩ := In.of2 p hb2); subst hw'') | (obtain ⟨p, hw''⟩ := In.of hb2; subst hw''))) | ((with_reducible refine (aw _).mono ?_); rintro e w3 ⟨rfl, hb3⟩; (first | ((with_reducible obtain ⟨p, hw''⟩ := In.of2 p hb3); subst hw'') | (obtain ⟨p, hw''⟩ := In.of hb3; subst hw''))) | ((with_reducible refine (d1 _).mono ?_); rintro e w3 ⟨rfl, hb3⟩; (first | ((with_reducible obtain ⟨p, hw''⟩ := In.of2 p hb3); subst hw'') | (obtain ⟨p, hw''⟩ := In.of hb3; subst hw''))) | ((with_reducible refine (d2 _).mono ?_); rintro e w3 ⟨rfl, hb3⟩; (first | ((with_reducible obtain ⟨p, hw''⟩ := In.of2 p hb3); subst hw'') | (obtain ⟨p, hw''⟩ := In.of hb3; subst hw''))) | ((with_reducible refine (d3 _).mono ?_); rintro e w3 ⟨rfl, hb3⟩; (first | ((with_reducible obtain ⟨p, hw''⟩ := In.of2 p hb3); subst hw'') | (obtain ⟨p, hw''⟩ := In.of hb3; subst hw''))))
    go_ret
    exact ⟨rfl, p.back bk⟩
  · clear hP'
    have s1 : (La == Lb) = false := by simpa using hne
    have l1 : (Lb.length : Int) < La.length := by omega
    go_wp2_with (first | ((with_reducible refine (cwa _ bk).mono ?_); rintro e w2 ⟨rfl, hb2⟩; (first | ((with_reducible obtain ⟨p, hw''⟩ := In.of2 p hb2); subst hw'') | (obtain ⟨p, hw''⟩ := In.of hb2; subst hw''))) | ((with_reducible refine (cwb2 _).mono ?_); rintro e w2 ⟨rfl, hb2⟩; (first | ((with_reducible obtain ⟨p, hw''⟩ := In.of2 p hb2); subst hw'') | (obtain ⟨p, hw''⟩ := In.of hb2; subst hw''))) | ((with_reducible refine (aw _).mono ?_); rintro e w3 ⟨rfl, hb3⟩; (first | ((with_reducible obtain ⟨p, hw''⟩ := In.of2 p hb3); subst hw'') | (obtain ⟨p, hw''⟩ := In.of hb3; subst hw''))) | ((with_reducible refine (d1 _).mono ?_); rintro e w3 ⟨rfl, hb3⟩; (first | ((with_reducible obtain ⟨p, hw''⟩ := In.of2 p hb3); subst hw'') | (obtain ⟨p, hw''⟩ := In.of hb3; subst hw''))) | ((with_reducible refine (d2 _).mono ?_); rintro e w3 ⟨rfl, hb3⟩; (first | ((with_reducible obtain ⟨p, hw''⟩ := In.of2 p hb3); subst hw'') | (obtain ⟨p, hw''⟩ := In.of hb3; subst hw''))) | ((with_reducible refine (d3 _).mono ?_); rintro e w3 ⟨rfl, hb3⟩; (first | ((with_reducible obtain ⟨p, hw''⟩ := In.of2 p hb3); subst hw'') | (obtain ⟨p, hw''⟩ := In.of hb3; subst hw''))))
    go_ret
    exact ⟨rfl, p.back bk⟩
  · clear hP'
    have s1 : (La == Lb) = false := by simpa using hne
    have l1 : ¬ (Lb.length : Int) < La.length := by omega
    have l2 : (La.length : Int) ≤ Lb.length := by omega
    have s2 : (Lb.take La.length == La) = false := by simpa using ht
    have s3 : (Lb.take La.length != La) = true := by simpa using ht
    go_wp2_with (first | ((with_reducible refine (cwa _ bk).mono ?_); rintro e w2 ⟨rfl, hb2⟩; (first | ((with_reducible obtain ⟨p, hw''⟩ := In.of2 p hb2); subst hw'') | (obtain ⟨p, hw''⟩ := In.of hb2; subst hw''))) | ((with_reducible refine (cwb2 _).mono ?_); rintro e w2 ⟨rfl, hb2⟩; (first | ((with_reducible obtain ⟨p, hw''⟩ := In.of2 p hb2); subst hw'') | (obtain ⟨p, hw''⟩ := In.of hb2; subst hw''))) | ((with_reducible refine (aw _).mono ?_); rintro e w3 ⟨rfl, hb3⟩; (first | ((with_reducible obtain ⟨p, hw''⟩ := In.of2 p hb3); subst hw'') | (obtain ⟨p, hw''⟩ := In.of hb3; subst hw''))) | ((with_reducible refine (d1 _).mono ?_); rintro e w3 ⟨rfl, hb3⟩; (first | ((with_reducible obtain ⟨p, hw''⟩ := In.of2 p hb3); subst hw'') | (obtain ⟨p, hw''⟩ := In.of hb3; subst hw''))) | ((with_reducible refine (d2 _).mono ?_); rintro e w3 ⟨rfl, hb3⟩; (first | ((with_reducible obtain ⟨p, hw''⟩ := In.of2 p hb3); subst hw'') | (obtain ⟨p, hw''⟩ := In.of hb3; subst hw''))) | ((with_reducible refine (d3 _).mono ?_); rintro e w3 ⟨rfl, hb3⟩; (first | ((with_reducible obtain ⟨p, hw''⟩ := In.of2 p hb3); subst hw'') | (obtain ⟨p, hw''⟩ := In.of hb3; subst hw''))))
    go_ret
    exact ⟨rfl, p.back bk⟩
end Go.Proofs.Ytkbacjlnfmibaaa
