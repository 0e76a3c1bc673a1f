/- Alloc: numbers (carried over from num): products, and what divides both. -/
import Derived.Test.YtgbdnodkbdkaeaaAa
import Derived.Test.YtgbdnodkbdkaeaaShelf
namespace Go.Proofs.Ytgbdnodkbdkaeaa
open Go Go.RowKit

theorem natAbs_cases (a : Int) : (a < 0 ∧ (a.natAbs : Int) = -a) ∨ (¬ a < 0 ∧ (a.natAbs : Int) = a) := by omega

/-- A product's size, cut in two words. -/
theorem words (a b : Int) :
    ∃ hi lo : Int, 0 ≤ hi ∧ 0 ≤ lo ∧ lo < 18446744073709551616 ∧ hi * 18446744073709551616 + lo = a.natAbs * b.natAbs ∧
      ((a.natAbs * b.natAbs / 18446744073709551616 : Nat) : Int) = hi ∧ ((a.natAbs * b.natAbs % 18446744073709551616 : Nat) : Int) = lo := by
  refine ⟨((a.natAbs * b.natAbs / 18446744073709551616 : Nat) : Int), ((a.natAbs * b.natAbs % 18446744073709551616 : Nat) : Int), by omega, by omega, by omega, ?_, rfl, rfl⟩
  have h := Nat.div_add_mod (a.natAbs * b.natAbs) 18446744073709551616
  have h2 : ((a.natAbs * b.natAbs : Nat) : Int) = (a.natAbs : Int) * b.natAbs := by push_cast; rfl
  omega

theorem prod_same {a b : Int} (h : (a < 0) = (b < 0)) : (a.natAbs : Int) * b.natAbs = a * b := by
  rcases natAbs_cases a with ⟨h1, e1⟩ | ⟨h1, e1⟩ <;> rcases natAbs_cases b with ⟨h2, e2⟩ | ⟨h2, e2⟩
  · rw [e1, e2, Int.neg_mul_neg]
  · simp [h1, h2] at h
  · simp [h1, h2] at h
  · rw [e1, e2]
theorem prod_other {a b : Int} (h : ¬ ((a < 0) = (b < 0))) : (a.natAbs : Int) * b.natAbs = -(a * b) := by
  rcases natAbs_cases a with ⟨h1, e1⟩ | ⟨h1, e1⟩ <;> rcases natAbs_cases b with ⟨h2, e2⟩ | ⟨h2, e2⟩
  · simp [h1, h2] at h
  · rw [e1, e2, Int.neg_mul]
  · rw [e1, e2, Int.mul_neg]
  · simp [h1, h2] at h

theorem tup_num {k k2 : IntKind} {a b c : Int} (h : a = b) : Ending.returned (.tuple #[.int k a, .int k2 c]) = .returned (.tuple #[.int k b, .int k2 c]) := by rw [h]
theorem tup_wrap {k2 : IntKind} {a b c : Int} (h : IntKind.i64.wrap a = b) : Ending.returned (.tuple #[.int .i64 (wrap64 a), .int k2 c]) = .returned (.tuple #[.int .i64 b, .int k2 c]) := by rw [← h, IntWalk.i64_left]
set_option maxHeartbeats 1000000 in
theorem mul_num_pp (a b x y hi lo c : Int) (w : World) (sa : ¬ a < 0) (sb : ¬ b < 0)
    (hx : Calls Try.prog 61 #[.int .i64 a] w fun e w' => e = .returned (.int .u64 x) ∧ w' = w)
    (hy : Calls Try.prog 61 #[.int .i64 b] w fun e w' => e = .returned (.int .u64 y) ∧ w' = w)
    (hm : Calls Try.prog 60 #[.int .u64 x, .int .u64 y] w fun e w' => e = .returned (.tuple #[.int .u64 hi, .int .u64 lo]) ∧ w' = w)
    (h0 : 0 ≤ hi) (l0 : 0 ≤ lo) (l1 : lo < 18446744073709551616) (hc : c = hi * 18446744073709551616 + lo) :
    Calls Try.prog 53 #[.int .i64 a, .int .i64 b] w fun e w' => e = .returned (numRes c) ∧ w' = w := by
  have da : decide (a < 0) = false := by simpa using sa
  have db : decide (b < 0) = false := by simpa using sb
  clear sa sb
  by_cases hh : 0 < hi
  · have E := Lib.hid (numRes_out (c := c) (by omega))
    clear h0 l0 l1 hc
    go_enter Try.func53, Try.ntmps53
    go_wp2_with fail
    refine hx.mono ?_
    rintro e w' ⟨rfl, rfl⟩
    go_wp2_with fail
    refine hy.mono ?_
    rintro e w' ⟨rfl, rfl⟩
    go_wp2_with fail
    refine hm.mono ?_
    rintro e w' ⟨rfl, rfl⟩
    go_wp2
    go_ret2
    exact ⟨by rw [E.out]; first | done | rfl | exact tup_wrap (by decide), rfl⟩
  · obtain rfl : hi = 0 := by omega
    clear hh h0
    by_cases hg : 9223372036854775808 < lo
    · have E := Lib.hid (numRes_out (c := c) (by omega))
      clear l0 l1 hc
      go_enter Try.func53, Try.ntmps53
      go_wp2_with fail
      refine hx.mono ?_
      rintro e w' ⟨rfl, rfl⟩
      go_wp2_with fail
      refine hy.mono ?_
      rintro e w' ⟨rfl, rfl⟩
      go_wp2_with fail
      refine hm.mono ?_
      rintro e w' ⟨rfl, rfl⟩
      go_wp2
      go_ret2
      exact ⟨by rw [E.out]; first | done | rfl | exact tup_wrap (by decide), rfl⟩
    · by_cases he : lo = 9223372036854775808
      · have E := Lib.hid (numRes_out (c := c) (by omega))
        subst he
        clear l0 l1 hc hg
        go_enter Try.func53, Try.ntmps53
        go_wp2_with fail
        refine hx.mono ?_
        rintro e w' ⟨rfl, rfl⟩
        go_wp2_with fail
        refine hy.mono ?_
        rintro e w' ⟨rfl, rfl⟩
        go_wp2_with fail
        refine hm.mono ?_
        rintro e w' ⟨rfl, rfl⟩
        go_wp2
        go_ret2
        exact ⟨by rw [E.out]; first | done | rfl | exact tup_wrap (by decide), rfl⟩
      · have E := Lib.hid (numRes_in (c := c) (by omega))
        have W : IntKind.i64.wrap lo = c := by rw [IntKind.wrap_i64]; omega
        clear l0 l1 hc
        have W := Lib.hid W
        have dg : decide (9223372036854775808 < lo) = false := by simpa using hg
        have de : (lo == 9223372036854775808) = false := by simpa using he
        clear hg he
        go_enter Try.func53, Try.ntmps53
        go_wp2_with fail
        refine hx.mono ?_
        rintro e w' ⟨rfl, rfl⟩
        go_wp2_with fail
        refine hy.mono ?_
        rintro e w' ⟨rfl, rfl⟩
        go_wp2_with fail
        refine hm.mono ?_
        rintro e w' ⟨rfl, rfl⟩
        go_wp2
        go_ret2
        exact ⟨by rw [E.out]; first | rfl | exact tup_num W.out | exact tup_wrap W.out, rfl⟩

set_option maxHeartbeats 1000000 in
theorem mul_num_pm (a b x y hi lo c : Int) (w : World) (sa : ¬ a < 0) (sb : b < 0)
    (hx : Calls Try.prog 61 #[.int .i64 a] w fun e w' => e = .returned (.int .u64 x) ∧ w' = w)
    (hy : Calls Try.prog 61 #[.int .i64 b] w fun e w' => e = .returned (.int .u64 y) ∧ w' = w)
    (hm : Calls Try.prog 60 #[.int .u64 x, .int .u64 y] w fun e w' => e = .returned (.tuple #[.int .u64 hi, .int .u64 lo]) ∧ w' = w)
    (h0 : 0 ≤ hi) (l0 : 0 ≤ lo) (l1 : lo < 18446744073709551616) (hc : c = -(hi * 18446744073709551616 + lo)) :
    Calls Try.prog 53 #[.int .i64 a, .int .i64 b] w fun e w' => e = .returned (numRes c) ∧ w' = w := by
  have da : decide (a < 0) = false := by simpa using sa
  have db : decide (b < 0) = true := by simpa using sb
  clear sa sb
  by_cases hh : 0 < hi
  · have E := Lib.hid (numRes_out (c := c) (by omega))
    clear h0 l0 l1 hc
    go_enter Try.func53, Try.ntmps53
    go_wp2_with fail
    refine hx.mono ?_
    rintro e w' ⟨rfl, rfl⟩
    go_wp2_with fail
    refine hy.mono ?_
    rintro e w' ⟨rfl, rfl⟩
    go_wp2_with fail
    refine hm.mono ?_
    rintro e w' ⟨rfl, rfl⟩
    go_wp2
    go_ret2
    exact ⟨by rw [E.out]; first | done | rfl | exact tup_wrap (by decide), rfl⟩
  · obtain rfl : hi = 0 := by omega
    clear hh h0
    by_cases hg : 9223372036854775808 < lo
    · have E := Lib.hid (numRes_out (c := c) (by omega))
      clear l0 l1 hc
      go_enter Try.func53, Try.ntmps53
      go_wp2_with fail
      refine hx.mono ?_
      rintro e w' ⟨rfl, rfl⟩
      go_wp2_with fail
      refine hy.mono ?_
      rintro e w' ⟨rfl, rfl⟩
      go_wp2_with fail
      refine hm.mono ?_
      rintro e w' ⟨rfl, rfl⟩
      go_wp2
      go_ret2
      exact ⟨by rw [E.out]; first | done | rfl | exact tup_wrap (by decide), rfl⟩
    · have E := Lib.hid (numRes_in (c := c) (by omega))
      have W : IntKind.i64.wrap (IntKind.u64.wrap (-lo)) = c := by rw [IntKind.wrap_i64, IntKind.wrap_u64]; omega
      by_cases he : lo = 9223372036854775808
      · subst he
        clear l0 l1 hc hg
        obtain rfl : c = -9223372036854775808 := by rw [← W]; decide
        clear W
        go_enter Try.func53, Try.ntmps53
        go_wp2_with fail
        refine hx.mono ?_
        rintro e w' ⟨rfl, rfl⟩
        go_wp2_with fail
        refine hy.mono ?_
        rintro e w' ⟨rfl, rfl⟩
        go_wp2_with fail
        refine hm.mono ?_
        rintro e w' ⟨rfl, rfl⟩
        go_wp2
        go_ret2
        exact ⟨by rw [E.out]; first | done | rfl | exact tup_wrap (by decide), rfl⟩
      · have W := Lib.hid W
        clear l0 l1 hc
        have dg : decide (9223372036854775808 < lo) = false := by simpa using hg
        have de : (lo == 9223372036854775808) = false := by simpa using he
        clear hg he
        go_enter Try.func53, Try.ntmps53
        go_wp2_with fail
        refine hx.mono ?_
        rintro e w' ⟨rfl, rfl⟩
        go_wp2_with fail
        refine hy.mono ?_
        rintro e w' ⟨rfl, rfl⟩
        go_wp2_with fail
        refine hm.mono ?_
        rintro e w' ⟨rfl, rfl⟩
        go_wp2
        go_ret2
        exact ⟨by rw [E.out]; first | rfl | exact tup_num W.out | exact tup_wrap W.out, rfl⟩

set_option maxHeartbeats 1000000 in
theorem mul_num_mp (a b x y hi lo c : Int) (w : World) (sa : a < 0) (sb : ¬ b < 0)
    (hx : Calls Try.prog 61 #[.int .i64 a] w fun e w' => e = .returned (.int .u64 x) ∧ w' = w)
    (hy : Calls Try.prog 61 #[.int .i64 b] w fun e w' => e = .returned (.int .u64 y) ∧ w' = w)
    (hm : Calls Try.prog 60 #[.int .u64 x, .int .u64 y] w fun e w' => e = .returned (.tuple #[.int .u64 hi, .int .u64 lo]) ∧ w' = w)
    (h0 : 0 ≤ hi) (l0 : 0 ≤ lo) (l1 : lo < 18446744073709551616) (hc : c = -(hi * 18446744073709551616 + lo)) :
    Calls Try.prog 53 #[.int .i64 a, .int .i64 b] w fun e w' => e = .returned (numRes c) ∧ w' = w := by
  have da : decide (a < 0) = true := by simpa using sa
  have db : decide (b < 0) = false := by simpa using sb
  clear sa sb
  by_cases hh : 0 < hi
  · have E := Lib.hid (numRes_out (c := c) (by omega))
    clear h0 l0 l1 hc
    go_enter Try.func53, Try.ntmps53
    go_wp2_with fail
    refine hx.mono ?_
    rintro e w' ⟨rfl, rfl⟩
    go_wp2_with fail
    refine hy.mono ?_
    rintro e w' ⟨rfl, rfl⟩
    go_wp2_with fail
    refine hm.mono ?_
    rintro e w' ⟨rfl, rfl⟩
    go_wp2
    go_ret2
    exact ⟨by rw [E.out]; first | done | rfl | exact tup_wrap (by decide), rfl⟩
  · obtain rfl : hi = 0 := by omega
    clear hh h0
    by_cases hg : 9223372036854775808 < lo
    · have E := Lib.hid (numRes_out (c := c) (by omega))
      clear l0 l1 hc
      go_enter Try.func53, Try.ntmps53
      go_wp2_with fail
      refine hx.mono ?_
      rintro e w' ⟨rfl, rfl⟩
      go_wp2_with fail
      refine hy.mono ?_
      rintro e w' ⟨rfl, rfl⟩
      go_wp2_with fail
      refine hm.mono ?_
      rintro e w' ⟨rfl, rfl⟩
      go_wp2
      go_ret2
      exact ⟨by rw [E.out]; first | done | rfl | exact tup_wrap (by decide), rfl⟩
    · have E := Lib.hid (numRes_in (c := c) (by omega))
      have W : IntKind.i64.wrap (IntKind.u64.wrap (-lo)) = c := by rw [IntKind.wrap_i64, IntKind.wrap_u64]; omega
      by_cases he : lo = 9223372036854775808
      · subst he
        clear l0 l1 hc hg
        obtain rfl : c = -9223372036854775808 := by rw [← W]; decide
        clear W
        go_enter Try.func53, Try.ntmps53
        go_wp2_with fail
        refine hx.mono ?_
        rintro e w' ⟨rfl, rfl⟩
        go_wp2_with fail
        refine hy.mono ?_
        rintro e w' ⟨rfl, rfl⟩
        go_wp2_with fail
        refine hm.mono ?_
        rintro e w' ⟨rfl, rfl⟩
        go_wp2
        go_ret2
        exact ⟨by rw [E.out]; first | done | rfl | exact tup_wrap (by decide), rfl⟩
      · have W := Lib.hid W
        clear l0 l1 hc
        have dg : decide (9223372036854775808 < lo) = false := by simpa using hg
        have de : (lo == 9223372036854775808) = false := by simpa using he
        clear hg he
        go_enter Try.func53, Try.ntmps53
        go_wp2_with fail
        refine hx.mono ?_
        rintro e w' ⟨rfl, rfl⟩
        go_wp2_with fail
        refine hy.mono ?_
        rintro e w' ⟨rfl, rfl⟩
        go_wp2_with fail
        refine hm.mono ?_
        rintro e w' ⟨rfl, rfl⟩
        go_wp2
        go_ret2
        exact ⟨by rw [E.out]; first | rfl | exact tup_num W.out | exact tup_wrap W.out, rfl⟩

set_option maxHeartbeats 1000000 in
theorem mul_num_mm (a b x y hi lo c : Int) (w : World) (sa : a < 0) (sb : b < 0)
    (hx : Calls Try.prog 61 #[.int .i64 a] w fun e w' => e = .returned (.int .u64 x) ∧ w' = w)
    (hy : Calls Try.prog 61 #[.int .i64 b] w fun e w' => e = .returned (.int .u64 y) ∧ w' = w)
    (hm : Calls Try.prog 60 #[.int .u64 x, .int .u64 y] w fun e w' => e = .returned (.tuple #[.int .u64 hi, .int .u64 lo]) ∧ w' = w)
    (h0 : 0 ≤ hi) (l0 : 0 ≤ lo) (l1 : lo < 18446744073709551616) (hc : c = hi * 18446744073709551616 + lo) :
    Calls Try.prog 53 #[.int .i64 a, .int .i64 b] w fun e w' => e = .returned (numRes c) ∧ w' = w := by
  have da : decide (a < 0) = true := by simpa using sa
  have db : decide (b < 0) = true := by simpa using sb
  clear sa sb
  by_cases hh : 0 < hi
  · have E := Lib.hid (numRes_out (c := c) (by omega))
    clear h0 l0 l1 hc
    go_enter Try.func53, Try.ntmps53
    go_wp2_with fail
    refine hx.mono ?_
    rintro e w' ⟨rfl, rfl⟩
    go_wp2_with fail
    refine hy.mono ?_
    rintro e w' ⟨rfl, rfl⟩
    go_wp2_with fail
    refine hm.mono ?_
    rintro e w' ⟨rfl, rfl⟩
    go_wp2
    go_ret2
    exact ⟨by rw [E.out]; first | done | rfl | exact tup_wrap (by decide), rfl⟩
  · obtain rfl : hi = 0 := by omega
    clear hh h0
    by_cases hg : 9223372036854775808 < lo
    · have E := Lib.hid (numRes_out (c := c) (by omega))
      clear l0 l1 hc
      go_enter Try.func53, Try.ntmps53
      go_wp2_with fail
      refine hx.mono ?_
      rintro e w' ⟨rfl, rfl⟩
      go_wp2_with fail
      refine hy.mono ?_
      rintro e w' ⟨rfl, rfl⟩
      go_wp2_with fail
      refine hm.mono ?_
      rintro e w' ⟨rfl, rfl⟩
      go_wp2
      go_ret2
      exact ⟨by rw [E.out]; first | done | rfl | exact tup_wrap (by decide), rfl⟩
    · by_cases he : lo = 9223372036854775808
      · have E := Lib.hid (numRes_out (c := c) (by omega))
        subst he
        clear l0 l1 hc hg
        go_enter Try.func53, Try.ntmps53
        go_wp2_with fail
        refine hx.mono ?_
        rintro e w' ⟨rfl, rfl⟩
        go_wp2_with fail
        refine hy.mono ?_
        rintro e w' ⟨rfl, rfl⟩
        go_wp2_with fail
        refine hm.mono ?_
        rintro e w' ⟨rfl, rfl⟩
        go_wp2
        go_ret2
        exact ⟨by rw [E.out]; first | done | rfl | exact tup_wrap (by decide), rfl⟩
      · have E := Lib.hid (numRes_in (c := c) (by omega))
        have W : IntKind.i64.wrap lo = c := by rw [IntKind.wrap_i64]; omega
        clear l0 l1 hc
        have W := Lib.hid W
        have dg : decide (9223372036854775808 < lo) = false := by simpa using hg
        have de : (lo == 9223372036854775808) = false := by simpa using he
        clear hg he
        go_enter Try.func53, Try.ntmps53
        go_wp2_with fail
        refine hx.mono ?_
        rintro e w' ⟨rfl, rfl⟩
        go_wp2_with fail
        refine hy.mono ?_
        rintro e w' ⟨rfl, rfl⟩
        go_wp2_with fail
        refine hm.mono ?_
        rintro e w' ⟨rfl, rfl⟩
        go_wp2
        go_ret2
        exact ⟨by rw [E.out]; first | rfl | exact tup_num W.out | exact tup_wrap W.out, rfl⟩

theorem mul_num (a b : Int) (ha : I64 a) (hb : I64 b) (w : World) :
    Calls Try.prog 53 #[.int .i64 a, .int .i64 b] w fun e w' => e = .returned (numRes (a * b)) ∧ w' = w := by
  obtain ⟨hi, lo, h0, l0, l1, hsum, e1, e2⟩ := words a b
  have hx := size_num a ha w
  have hy := size_num b hb w
  have hm := Try.bits_Mul64 a.natAbs b.natAbs (by unfold I64 at ha; omega) (by unfold I64 at hb; omega) w
  rw [e1, e2] at hm
  have hs := @prod_same a b
  have ho := @prod_other a b
  by_cases sa : a < 0 <;> by_cases sb : b < 0
  · exact mul_num_mm a b _ _ hi lo _ w sa sb hx hy hm h0 l0 l1 (by rw [hsum]; exact (hs (by simp [sa, sb])).symm)
  · exact mul_num_mp a b _ _ hi lo _ w sa sb hx hy hm h0 l0 l1 (by rw [hsum, ho (by simp [sa, sb])]; omega)
  · exact mul_num_pm a b _ _ hi lo _ w sa sb hx hy hm h0 l0 l1 (by rw [hsum, ho (by simp [sa, sb])]; omega)
  · exact mul_num_pp a b _ _ hi lo _ w sa sb hx hy hm h0 l0 l1 (by rw [hsum]; exact (hs (by simp [sa, sb])).symm)

set_option maxHeartbeats 1000000 in
theorem mul_ref_pp (a b x y q c : Int) (w : World) (sa : ¬ a < 0) (sb : ¬ b < 0)
    (hx : Calls Try.prog 59 #[.int .i64 a] w fun e w' => e = .returned (.int .u64 x) ∧ w' = w)
    (hy : Calls Try.prog 59 #[.int .i64 b] w fun e w' => e = .returned (.int .u64 y) ∧ w' = w)
    (hq : IntKind.u64.wrap (Int.tdiv 9223372036854775807 x) = q) (hqy : ¬ x = 0 → (q < y ↔ 9223372036854775807 < x * y)) (h0 : 0 ≤ x * y) (hz : x = 0 → x * y = 0) (hab : a * b = c) (hc : c = x * y) :
    Calls Try.prog 51 #[.int .i64 a, .int .i64 b] w fun e w' => e = .returned (numRes c) ∧ w' = w := by
  have da : decide (a < 0) = false := by simpa using sa
  have db : decide (b < 0) = false := by simpa using sb
  have d1 : IntKind.u64.wrap (9223372036854775807 + 1) = 9223372036854775808 := by decide
  clear sa sb
  by_cases hx0 : x = 0
  · have e0 : x * y = 0 := hz hx0
    have E := Lib.hid (numRes_in (c := c) (by omega))
    have W : IntKind.i64.wrap (a * b) = c := by rw [hab]; exact IntWalk.i64_in _ (by omega)
    have W := Lib.hid W
    subst hx0
    clear hq hqy h0 hz hc hab e0
    go_enter Try.func51, Try.ntmps51
    go_wp2_with fail
    refine hx.mono ?_
    rintro e w' ⟨rfl, rfl⟩
    go_wp2_with fail
    refine hy.mono ?_
    rintro e w' ⟨rfl, rfl⟩
    go_wp2
    go_ret2
    exact ⟨by rw [E.out]; first | done | rfl | exact tup_num W.out | exact tup_wrap W.out, rfl⟩
  · have dx : (x != 0) = true := by simpa using hx0
    have dx2 : (x == 0) = false := by simpa using hx0
    replace hqy := hqy hx0
    clear hz
    by_cases hy0 : q < y
    · have dy : decide (q < y) = true := by simpa using hy0
      have hg := hqy.1 hy0
      have E := Lib.hid (numRes_out (c := c) (by omega))
      have W := Lib.hid trivial
      clear hqy h0 hc hab hg hy0
      go_enter Try.func51, Try.ntmps51
      go_wp2_with fail
      refine hx.mono ?_
      rintro e w' ⟨rfl, rfl⟩
      go_wp2_with fail
      refine hy.mono ?_
      rintro e w' ⟨rfl, rfl⟩
      go_wp2
      go_ret2
      exact ⟨by rw [E.out]; first | done | rfl | exact tup_num W.out | exact tup_wrap W.out, rfl⟩
    · have dy : decide (q < y) = false := by simpa using hy0
      have hg : ¬ 9223372036854775807 < x * y := fun h => hy0 (hqy.2 h)
      have E := Lib.hid (numRes_in (c := c) (by omega))
      have W : IntKind.i64.wrap (a * b) = c := by rw [hab]; exact IntWalk.i64_in _ (by omega)
      have W := Lib.hid W
      clear hqy h0 hc hab hg hy0
      go_enter Try.func51, Try.ntmps51
      go_wp2_with fail
      refine hx.mono ?_
      rintro e w' ⟨rfl, rfl⟩
      go_wp2_with fail
      refine hy.mono ?_
      rintro e w' ⟨rfl, rfl⟩
      go_wp2
      go_ret2
      exact ⟨by rw [E.out]; first | done | rfl | exact tup_num W.out | exact tup_wrap W.out, rfl⟩

set_option maxHeartbeats 1000000 in
theorem mul_ref_pm (a b x y q c : Int) (w : World) (sa : ¬ a < 0) (sb : b < 0)
    (hx : Calls Try.prog 59 #[.int .i64 a] w fun e w' => e = .returned (.int .u64 x) ∧ w' = w)
    (hy : Calls Try.prog 59 #[.int .i64 b] w fun e w' => e = .returned (.int .u64 y) ∧ w' = w)
    (hq : IntKind.u64.wrap (Int.tdiv 9223372036854775808 x) = q) (hqy : ¬ x = 0 → (q < y ↔ 9223372036854775808 < x * y)) (h0 : 0 ≤ x * y) (hz : x = 0 → x * y = 0) (hab : a * b = c) (hc : c = -(x * y)) :
    Calls Try.prog 51 #[.int .i64 a, .int .i64 b] w fun e w' => e = .returned (numRes c) ∧ w' = w := by
  have da : decide (a < 0) = false := by simpa using sa
  have db : decide (b < 0) = true := by simpa using sb
  have d1 : IntKind.u64.wrap (9223372036854775807 + 1) = 9223372036854775808 := by decide
  clear sa sb
  by_cases hx0 : x = 0
  · have e0 : x * y = 0 := hz hx0
    have E := Lib.hid (numRes_in (c := c) (by omega))
    have W : IntKind.i64.wrap (a * b) = c := by rw [hab]; exact IntWalk.i64_in _ (by omega)
    have W := Lib.hid W
    subst hx0
    clear hq hqy h0 hz hc hab e0
    go_enter Try.func51, Try.ntmps51
    go_wp2_with fail
    refine hx.mono ?_
    rintro e w' ⟨rfl, rfl⟩
    go_wp2_with fail
    refine hy.mono ?_
    rintro e w' ⟨rfl, rfl⟩
    go_wp2
    go_ret2
    exact ⟨by rw [E.out]; first | done | rfl | exact tup_num W.out | exact tup_wrap W.out, rfl⟩
  · have dx : (x != 0) = true := by simpa using hx0
    have dx2 : (x == 0) = false := by simpa using hx0
    replace hqy := hqy hx0
    clear hz
    by_cases hy0 : q < y
    · have dy : decide (q < y) = true := by simpa using hy0
      have hg := hqy.1 hy0
      have E := Lib.hid (numRes_out (c := c) (by omega))
      have W := Lib.hid trivial
      clear hqy h0 hc hab hg hy0
      go_enter Try.func51, Try.ntmps51
      go_wp2_with fail
      refine hx.mono ?_
      rintro e w' ⟨rfl, rfl⟩
      go_wp2_with fail
      refine hy.mono ?_
      rintro e w' ⟨rfl, rfl⟩
      go_wp2
      go_ret2
      exact ⟨by rw [E.out]; first | done | rfl | exact tup_num W.out | exact tup_wrap W.out, rfl⟩
    · have dy : decide (q < y) = false := by simpa using hy0
      have hg : ¬ 9223372036854775808 < x * y := fun h => hy0 (hqy.2 h)
      have E := Lib.hid (numRes_in (c := c) (by omega))
      have W : IntKind.i64.wrap (a * b) = c := by rw [hab]; exact IntWalk.i64_in _ (by omega)
      have W := Lib.hid W
      clear hqy h0 hc hab hg hy0
      go_enter Try.func51, Try.ntmps51
      go_wp2_with fail
      refine hx.mono ?_
      rintro e w' ⟨rfl, rfl⟩
      go_wp2_with fail
      refine hy.mono ?_
      rintro e w' ⟨rfl, rfl⟩
      go_wp2
      go_ret2
      exact ⟨by rw [E.out]; first | done | rfl | exact tup_num W.out | exact tup_wrap W.out, rfl⟩

set_option maxHeartbeats 1000000 in
theorem mul_ref_mp (a b x y q c : Int) (w : World) (sa : a < 0) (sb : ¬ b < 0)
    (hx : Calls Try.prog 59 #[.int .i64 a] w fun e w' => e = .returned (.int .u64 x) ∧ w' = w)
    (hy : Calls Try.prog 59 #[.int .i64 b] w fun e w' => e = .returned (.int .u64 y) ∧ w' = w)
    (hq : IntKind.u64.wrap (Int.tdiv 9223372036854775808 x) = q) (hqy : ¬ x = 0 → (q < y ↔ 9223372036854775808 < x * y)) (h0 : 0 ≤ x * y) (hz : x = 0 → x * y = 0) (hab : a * b = c) (hc : c = -(x * y)) :
    Calls Try.prog 51 #[.int .i64 a, .int .i64 b] w fun e w' => e = .returned (numRes c) ∧ w' = w := by
  have da : decide (a < 0) = true := by simpa using sa
  have db : decide (b < 0) = false := by simpa using sb
  have d1 : IntKind.u64.wrap (9223372036854775807 + 1) = 9223372036854775808 := by decide
  clear sa sb
  by_cases hx0 : x = 0
  · have e0 : x * y = 0 := hz hx0
    have E := Lib.hid (numRes_in (c := c) (by omega))
    have W : IntKind.i64.wrap (a * b) = c := by rw [hab]; exact IntWalk.i64_in _ (by omega)
    have W := Lib.hid W
    subst hx0
    clear hq hqy h0 hz hc hab e0
    go_enter Try.func51, Try.ntmps51
    go_wp2_with fail
    refine hx.mono ?_
    rintro e w' ⟨rfl, rfl⟩
    go_wp2_with fail
    refine hy.mono ?_
    rintro e w' ⟨rfl, rfl⟩
    go_wp2
    go_ret2
    exact ⟨by rw [E.out]; first | done | rfl | exact tup_num W.out | exact tup_wrap W.out, rfl⟩
  · have dx : (x != 0) = true := by simpa using hx0
    have dx2 : (x == 0) = false := by simpa using hx0
    replace hqy := hqy hx0
    clear hz
    by_cases hy0 : q < y
    · have dy : decide (q < y) = true := by simpa using hy0
      have hg := hqy.1 hy0
      have E := Lib.hid (numRes_out (c := c) (by omega))
      have W := Lib.hid trivial
      clear hqy h0 hc hab hg hy0
      go_enter Try.func51, Try.ntmps51
      go_wp2_with fail
      refine hx.mono ?_
      rintro e w' ⟨rfl, rfl⟩
      go_wp2_with fail
      refine hy.mono ?_
      rintro e w' ⟨rfl, rfl⟩
      go_wp2
      go_ret2
      exact ⟨by rw [E.out]; first | done | rfl | exact tup_num W.out | exact tup_wrap W.out, rfl⟩
    · have dy : decide (q < y) = false := by simpa using hy0
      have hg : ¬ 9223372036854775808 < x * y := fun h => hy0 (hqy.2 h)
      have E := Lib.hid (numRes_in (c := c) (by omega))
      have W : IntKind.i64.wrap (a * b) = c := by rw [hab]; exact IntWalk.i64_in _ (by omega)
      have W := Lib.hid W
      clear hqy h0 hc hab hg hy0
      go_enter Try.func51, Try.ntmps51
      go_wp2_with fail
      refine hx.mono ?_
      rintro e w' ⟨rfl, rfl⟩
      go_wp2_with fail
      refine hy.mono ?_
      rintro e w' ⟨rfl, rfl⟩
      go_wp2
      go_ret2
      exact ⟨by rw [E.out]; first | done | rfl | exact tup_num W.out | exact tup_wrap W.out, rfl⟩

set_option maxHeartbeats 1000000 in
theorem mul_ref_mm (a b x y q c : Int) (w : World) (sa : a < 0) (sb : b < 0)
    (hx : Calls Try.prog 59 #[.int .i64 a] w fun e w' => e = .returned (.int .u64 x) ∧ w' = w)
    (hy : Calls Try.prog 59 #[.int .i64 b] w fun e w' => e = .returned (.int .u64 y) ∧ w' = w)
    (hq : IntKind.u64.wrap (Int.tdiv 9223372036854775807 x) = q) (hqy : ¬ x = 0 → (q < y ↔ 9223372036854775807 < x * y)) (h0 : 0 ≤ x * y) (hz : x = 0 → x * y = 0) (hab : a * b = c) (hc : c = x * y) :
    Calls Try.prog 51 #[.int .i64 a, .int .i64 b] w fun e w' => e = .returned (numRes c) ∧ w' = w := by
  have da : decide (a < 0) = true := by simpa using sa
  have db : decide (b < 0) = true := by simpa using sb
  have d1 : IntKind.u64.wrap (9223372036854775807 + 1) = 9223372036854775808 := by decide
  clear sa sb
  by_cases hx0 : x = 0
  · have e0 : x * y = 0 := hz hx0
    have E := Lib.hid (numRes_in (c := c) (by omega))
    have W : IntKind.i64.wrap (a * b) = c := by rw [hab]; exact IntWalk.i64_in _ (by omega)
    have W := Lib.hid W
    subst hx0
    clear hq hqy h0 hz hc hab e0
    go_enter Try.func51, Try.ntmps51
    go_wp2_with fail
    refine hx.mono ?_
    rintro e w' ⟨rfl, rfl⟩
    go_wp2_with fail
    refine hy.mono ?_
    rintro e w' ⟨rfl, rfl⟩
    go_wp2
    go_ret2
    exact ⟨by rw [E.out]; first | done | rfl | exact tup_num W.out | exact tup_wrap W.out, rfl⟩
  · have dx : (x != 0) = true := by simpa using hx0
    have dx2 : (x == 0) = false := by simpa using hx0
    replace hqy := hqy hx0
    clear hz
    by_cases hy0 : q < y
    · have dy : decide (q < y) = true := by simpa using hy0
      have hg := hqy.1 hy0
      have E := Lib.hid (numRes_out (c := c) (by omega))
      have W := Lib.hid trivial
      clear hqy h0 hc hab hg hy0
      go_enter Try.func51, Try.ntmps51
      go_wp2_with fail
      refine hx.mono ?_
      rintro e w' ⟨rfl, rfl⟩
      go_wp2_with fail
      refine hy.mono ?_
      rintro e w' ⟨rfl, rfl⟩
      go_wp2
      go_ret2
      exact ⟨by rw [E.out]; first | done | rfl | exact tup_num W.out | exact tup_wrap W.out, rfl⟩
    · have dy : decide (q < y) = false := by simpa using hy0
      have hg : ¬ 9223372036854775807 < x * y := fun h => hy0 (hqy.2 h)
      have E := Lib.hid (numRes_in (c := c) (by omega))
      have W : IntKind.i64.wrap (a * b) = c := by rw [hab]; exact IntWalk.i64_in _ (by omega)
      have W := Lib.hid W
      clear hqy h0 hc hab hg hy0
      go_enter Try.func51, Try.ntmps51
      go_wp2_with fail
      refine hx.mono ?_
      rintro e w' ⟨rfl, rfl⟩
      go_wp2_with fail
      refine hy.mono ?_
      rintro e w' ⟨rfl, rfl⟩
      go_wp2
      go_ret2
      exact ⟨by rw [E.out]; first | done | rfl | exact tup_num W.out | exact tup_wrap W.out, rfl⟩

theorem quo_facts (top x y : Int) (ht0 : 0 ≤ top) (ht : top ≤ 18446744073709551615) (hx0 : 0 ≤ x) (hy : 0 ≤ y) :
    ∃ q, IntKind.u64.wrap (Int.tdiv top x) = q ∧ (¬ x = 0 → (q < y ↔ top < x * y)) ∧ 0 ≤ x * y ∧ (x = 0 → x * y = 0) := by
  refine ⟨_, rfl, fun hx => ?_, Int.mul_nonneg hx0 hy, fun hx => by rw [hx, Int.zero_mul]⟩
  rw [IntWalk.u64_quo top x ⟨ht0, ht, by omega⟩, Int.ediv_lt_iff_lt_mul (by omega), Int.mul_comm]

theorem mul_ref (a b : Int) (ha : I64 a) (hb : I64 b) (w : World) :
    Calls Try.prog 51 #[.int .i64 a, .int .i64 b] w fun e w' => e = .returned (numRes (a * b)) ∧ w' = w := by
  have hx := size_ref a ha w
  have hy := size_ref b hb w
  have hs := @prod_same a b
  have ho := @prod_other a b
  obtain ⟨q, hq, hqy, h0, hz⟩ := quo_facts 9223372036854775807 a.natAbs b.natAbs (by decide) (by decide) (by omega) (by omega)
  obtain ⟨q2, hq2, hqy2, h02, hz2⟩ := quo_facts 9223372036854775808 a.natAbs b.natAbs (by decide) (by decide) (by omega) (by omega)
  by_cases sa : a < 0 <;> by_cases sb : b < 0
  · exact mul_ref_mm a b _ _ q _ w sa sb hx hy hq hqy h0 hz rfl (hs (by simp [sa, sb])).symm
  · exact mul_ref_mp a b _ _ q2 _ w sa sb hx hy hq2 hqy2 h0 hz rfl (by rw [ho (by simp [sa, sb])]; omega)
  · exact mul_ref_pm a b _ _ q2 _ w sa sb hx hy hq2 hqy2 h0 hz rfl (by rw [ho (by simp [sa, sb])]; omega)
  · exact mul_ref_pp a b _ _ q _ w sa sb hx hy hq hqy h0 hz rfl (hs (by simp [sa, sb])).symm

end Go.Proofs.Ytgbdnodkbdkaeaa
