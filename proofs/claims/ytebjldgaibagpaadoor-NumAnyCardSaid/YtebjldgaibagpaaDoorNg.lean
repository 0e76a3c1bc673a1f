/- Numbers: the laws' walks: NumIn, NumAny, NumTurns. -/
import Derived.Test.YtebjldgaibagpaaDoorNf
namespace Go.Proofs.YtebjldgaibagpaaDoor
open Go Go.RowKit

theorem numRes_form (c : Int) : ∃ v e, numRes c = .tuple #[.int .i64 v, .int .i64 e] ∧ ((e = 0 ∧ v = c) ∨ (e = 9 ∧ v = 0)) := by
  unfold numRes
  split
  · exact ⟨_, _, rfl, Or.inl ⟨rfl, rfl⟩⟩
  · exact ⟨_, _, rfl, Or.inr ⟨rfl, rfl⟩⟩

set_option maxHeartbeats 2000000 in
theorem numIn_walk (n lo hi : Int) (w : World) (hL : Laid w) :
    Calls Tryd.prog 7 #[.int .i64 n, .int .i64 lo, .int .i64 hi] w (KnownPost w) := by
  have hk := Lib.hid (known_walk w hL)
  have h1 := in_num n lo hi
  have h2 := in_num n n n
  have e2 : (decide (n ≤ n) && decide (n ≤ n)) = true := by simp
  rw [e2] at h2
  clear hL e2
  have h1 := Lib.hid h1
  have h2 := Lib.hid h2
  by_cases c1 : lo ≤ n <;> by_cases c2 : n ≤ hi
  all_goals
    have h1b := h1.out
    simp only [c1, c2, decide_true, decide_false, Bool.and_true, Bool.and_false] at h1b
    have h1b := Lib.hid h1b
    clear h1
    go_enter Tryd.func7, Tryd.ntmps7
    go_wp2_with fail
    refine hk.out.mono ?_
    rintro e w1 ⟨rfl, hb⟩
    have hb := Lib.hid hb
    go_wp2_with fail
    refine (h1b.out _).mono ?_
    rintro e w2 ⟨rfl, rfl⟩
    go_wp2_with fail
    refine (h2.out _).mono ?_
    rintro e w3 ⟨rfl, rfl⟩
    go_wp2
    go_ret
    exact ⟨ret_bool (by first | rfl | simp [c2]), hb.out⟩

set_option maxHeartbeats 4000000 in
set_option maxRecDepth 100000 in
theorem numAny_walk (a b : Int) (ha : I64 a) (hb : I64 b) (w : World) (hL : Laid w) :
    Calls Tryd.prog 3 #[.int .i64 a, .int .i64 b] w (KnownPost w) := by
  have hk := Lib.hid (known_walk w hL)
  obtain ⟨v1, e1, hv1, -⟩ := numRes_form (a + b)
  obtain ⟨v2, e2, hv2, -⟩ := numRes_form (a - b)
  obtain ⟨v3, e3, hv3, -⟩ := numRes_form (a * b)
  obtain ⟨v4, e4, hv4, -⟩ := numRes_form (-a)
  have a1 := add_num a b ha hb; have a2 := add_ref a b ha hb
  have s1 := sub_num a b ha hb; have s2 := sub_ref a b ha hb
  have m1 := mul_num a b ha hb; have m2 := mul_ref a b ha hb
  have n1 := neg_num a ha; have n2 := neg_ref a ha
  have g1 := gcd_num a b ha hb; have g2 := gcd_ref a b ha hb
  have i1 := in_num a b b
  rw [hv1] at a1 a2; rw [hv2] at s1 s2; rw [hv3] at m1 m2; rw [hv4] at n1 n2
  generalize gcdRes a b = g at g1 g2
  obtain ⟨q, hq, hqe⟩ : ∃ q, (decide (b ≤ a) && decide (a ≤ b)) = q ∧ (a == b) = q := by
    refine ⟨_, rfl, ?_⟩
    by_cases h : a = b
    · simp [h]
    · have : (a == b) = false := by simpa using h
      rw [this]; symm; simp; omega
  rw [hq] at i1
  clear hv1 hv2 hv3 hv4 hq hL ha hb
  have a1 := Lib.hid a1; have a2 := Lib.hid a2; have s1 := Lib.hid s1; have s2 := Lib.hid s2; have m1 := Lib.hid m1; have m2 := Lib.hid m2
  have n1 := Lib.hid n1; have n2 := Lib.hid n2; have g1 := Lib.hid g1; have g2 := Lib.hid g2; have i1 := Lib.hid i1
  go_enter Tryd.func3, Tryd.ntmps3
  go_wp2_with fail
  refine hk.out.mono ?_
  rintro e w1 ⟨rfl, hb1⟩
  have hb1 := Lib.hid hb1
  go_wp2_with fail
  refine (a1.out _).mono ?_
  rintro e w2 ⟨rfl, rfl⟩
  go_wp2_with fail
  refine (a2.out _).mono ?_
  rintro e w3 ⟨rfl, rfl⟩
  go_wp2_with fail
  refine (s1.out _).mono ?_
  rintro e w4 ⟨rfl, rfl⟩
  go_wp2_with fail
  refine (s2.out _).mono ?_
  rintro e w5 ⟨rfl, rfl⟩
  go_wp2_with fail
  refine (m1.out _).mono ?_
  rintro e w6 ⟨rfl, rfl⟩
  go_wp2_with fail
  refine (m2.out _).mono ?_
  rintro e w7 ⟨rfl, rfl⟩
  go_wp2_with fail
  refine (n1.out _).mono ?_
  rintro e w8 ⟨rfl, rfl⟩
  go_wp2_with fail
  refine (n2.out _).mono ?_
  rintro e w9 ⟨rfl, rfl⟩
  go_wp2_with fail
  refine (g1.out _).mono ?_
  rintro e w10 ⟨rfl, hb10⟩
  have hb10 := Lib.hid (hb1.out.trans (hb10.mono hb1.out.size))
  go_wp2_with fail
  refine (g2.out _).mono ?_
  rintro e w11 ⟨rfl, hb11⟩
  have hb11 := Lib.hid (hb10.out.trans (hb11.mono hb10.out.size))
  go_wp2_with fail
  refine (i1.out _).mono ?_
  rintro e w12 ⟨rfl, rfl⟩
  go_wp2
  go_ret
  exact ⟨ret_bool (by first | rfl | simp [hqe]), hb11.out⟩

set_option maxHeartbeats 4000000 in
set_option maxRecDepth 100000 in
theorem numTurns_walk (a b : Int) (ha : I64 a) (hb : I64 b) (w : World) (hL : Laid w) :
    Calls Tryd.prog 6 #[.int .i64 a, .int .i64 b] w (KnownPost w) := by
  have hk := Lib.hid (known_walk w hL)
  obtain ⟨v1, e1, hv1, -⟩ := numRes_form (a + b)
  obtain ⟨v2, e2, hv2, hc2⟩ := numRes_form (a - b)
  obtain ⟨v3, e3, hv3, -⟩ := numRes_form (a * b)
  obtain ⟨v4, e4, hv4, hc4⟩ := numRes_form (b - a)
  have a1 := add_num a b ha hb; have a2 := add_num b a hb ha
  have s1 := sub_num a b ha hb; have s2 := sub_num b a hb ha
  have m1 := mul_num a b ha hb; have m2 := mul_num b a hb ha
  have g1 := gcd_num a b ha hb; have g2 := gcd_num b a hb ha
  rw [Int.add_comm b a] at a2
  rw [Int.mul_comm b a] at m2
  have eg : gcdRes b a = gcdRes a b := by simp only [gcdRes, Nat.gcd_comm]
  rw [eg] at g2
  rw [hv1] at a1 a2; rw [hv2] at s1; rw [hv4] at s2; rw [hv3] at m1 m2
  generalize gcdRes a b = g at g1 g2
  have numE : ∀ {c v e : Int}, numRes c = .tuple #[.int .i64 v, .int .i64 e] → e = 0 → v = c ∧ I64 c := by
    intro c v e hn he
    unfold numRes inRange at hn
    split at hn
    · rename_i hr
      simp at hr
      injection hn with h1
      simp at h1
      exact ⟨h1.1.symm, hr.1, hr.2⟩
    · injection hn with h1
      simp at h1
      omega
  have hfin : Hid (e2 = 0 → e4 = 0 → v2 = -v4 ∧ I64 (-v4)) := fun h2 h4 => by
    obtain ⟨r2, i2⟩ := numE hv2 h2
    obtain ⟨r4, i4⟩ := numE hv4 h4
    unfold I64 at *
    omega
  clear numE hv1 hv2 hv3 hv4 hc2 hc4 hL ha hb eg
  have a1 := Lib.hid a1; have a2 := Lib.hid a2; have s1 := Lib.hid s1; have s2 := Lib.hid s2; have m1 := Lib.hid m1; have m2 := Lib.hid m2
  have g1 := Lib.hid g1; have g2 := Lib.hid g2
  by_cases c2 : e2 = 0
  · by_cases c4 : e4 = 0
    · obtain ⟨f1, f2⟩ := hfin.out c2 c4
      have f3 : IntKind.i64.wrap (0 - v4) = v2 := by rw [f1, Int.zero_sub]; exact IntWalk.i64_in _ f2
      have f4 : IntKind.i64.wrap (-v4) = v2 := by rw [f1]; exact IntWalk.i64_in _ f2
      subst c2 c4
      clear f1 f2 hfin
      go_enter Tryd.func6, Tryd.ntmps6
      go_wp2_with fail
      refine hk.out.mono ?_
      rintro e w1 ⟨rfl, hb1⟩
      have hb1 := Lib.hid hb1
      go_wp2_with fail
      refine (a1.out _).mono ?_
      rintro e w2 ⟨rfl, rfl⟩
      go_wp2_with fail
      refine (a2.out _).mono ?_
      rintro e w3 ⟨rfl, rfl⟩
      go_wp2_with fail
      refine (m1.out _).mono ?_
      rintro e w4 ⟨rfl, rfl⟩
      go_wp2_with fail
      refine (m2.out _).mono ?_
      rintro e w5 ⟨rfl, rfl⟩
      go_wp2_with fail
      refine (s1.out _).mono ?_
      rintro e w6 ⟨rfl, rfl⟩
      go_wp2_with fail
      refine (s2.out _).mono ?_
      rintro e w7 ⟨rfl, rfl⟩
      go_wp2_with fail
      refine (g1.out _).mono ?_
      rintro e w10 ⟨rfl, hb10⟩
      have hb10 := Lib.hid (hb1.out.trans (hb10.mono hb1.out.size))
      go_wp2_with fail
      refine (g2.out _).mono ?_
      rintro e w11 ⟨rfl, hb11⟩
      have hb11 := Lib.hid (hb10.out.trans (hb11.mono hb10.out.size))
      go_wp2
      go_ret
      exact ⟨ret_bool (by first | rfl | (simp; done) | simp_all), hb11.out⟩
    · clear hfin
      subst c2
      have d4 : (e4 != 0) = true := by simpa using c4
      go_enter Tryd.func6, Tryd.ntmps6
      go_wp2_with fail
      refine hk.out.mono ?_
      rintro e w1 ⟨rfl, hb1⟩
      have hb1 := Lib.hid hb1
      go_wp2_with fail
      refine (a1.out _).mono ?_
      rintro e w2 ⟨rfl, rfl⟩
      go_wp2_with fail
      refine (a2.out _).mono ?_
      rintro e w3 ⟨rfl, rfl⟩
      go_wp2_with fail
      refine (m1.out _).mono ?_
      rintro e w4 ⟨rfl, rfl⟩
      go_wp2_with fail
      refine (m2.out _).mono ?_
      rintro e w5 ⟨rfl, rfl⟩
      go_wp2_with fail
      refine (s1.out _).mono ?_
      rintro e w6 ⟨rfl, rfl⟩
      go_wp2_with fail
      refine (s2.out _).mono ?_
      rintro e w7 ⟨rfl, rfl⟩
      go_wp2_with fail
      refine (g1.out _).mono ?_
      rintro e w10 ⟨rfl, hb10⟩
      have hb10 := Lib.hid (hb1.out.trans (hb10.mono hb1.out.size))
      go_wp2_with fail
      refine (g2.out _).mono ?_
      rintro e w11 ⟨rfl, hb11⟩
      have hb11 := Lib.hid (hb10.out.trans (hb11.mono hb10.out.size))
      go_wp2
      go_ret
      exact ⟨ret_bool (by first | rfl | (simp; done) | simp_all), hb11.out⟩
  · clear hfin
    have d2 : (e2 != 0) = true := by simpa using c2
    go_enter Tryd.func6, Tryd.ntmps6
    go_wp2_with fail
    refine hk.out.mono ?_
    rintro e w1 ⟨rfl, hb1⟩
    have hb1 := Lib.hid hb1
    go_wp2_with fail
    refine (a1.out _).mono ?_
    rintro e w2 ⟨rfl, rfl⟩
    go_wp2_with fail
    refine (a2.out _).mono ?_
    rintro e w3 ⟨rfl, rfl⟩
    go_wp2_with fail
    refine (m1.out _).mono ?_
    rintro e w4 ⟨rfl, rfl⟩
    go_wp2_with fail
    refine (m2.out _).mono ?_
    rintro e w5 ⟨rfl, rfl⟩
    go_wp2_with fail
    refine (s1.out _).mono ?_
    rintro e w6 ⟨rfl, rfl⟩
    go_wp2_with fail
    refine (s2.out _).mono ?_
    rintro e w7 ⟨rfl, rfl⟩
    go_wp2_with fail
    refine (g1.out _).mono ?_
    rintro e w10 ⟨rfl, hb10⟩
    have hb10 := Lib.hid (hb1.out.trans (hb10.mono hb1.out.size))
    go_wp2_with fail
    refine (g2.out _).mono ?_
    rintro e w11 ⟨rfl, hb11⟩
    have hb11 := Lib.hid (hb10.out.trans (hb11.mono hb10.out.size))
    go_wp2
    go_ret
    exact ⟨ret_bool (by first | rfl | (simp; done) | simp_all), hb11.out⟩

end Go.Proofs.YtebjldgaibagpaaDoor
