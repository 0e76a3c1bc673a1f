/- Alloc: numbers (carried over from num): sizes, sums, differences, the other sign, whether a number lies between two: what num's functions and the reference's give. -/
import Derived.Test.YtgbdnodkbdkaeaaKw
import Derived.WalkKit
import Derived.Below
import Derived.IntWalk
import Derived.Lib.Hide
namespace Go.Proofs.Ytgbdnodkbdkaeaa
open Go Go.RowKit

/-- A number that an int64 holds. -/
def I64 (a : Int) : Prop := -9223372036854775808 ≤ a ∧ a ≤ 9223372036854775807

theorem wrapI {a : Int} (h : I64 a) : IntKind.i64.wrap a = a := by
  unfold I64 at h
  simp only [IntKind.wrap, IntKind.signed, IntKind.bits]
  simp
  omega

theorem wrapU {a : Int} (h0 : 0 ≤ a) (h1 : a < 18446744073709551616) : IntKind.u64.wrap a = a := by
  simp only [IntKind.wrap, IntKind.signed, IntKind.bits]
  simp
  omega

/-- Whether a sum is one. -/
def inRange (a : Int) : Bool := decide (-9223372036854775808 ≤ a) && decide (a ≤ 9223372036854775807)
/-- A number and its errno, out of the exact number. -/
def numRes (a : Int) : Value := if inRange a then .tuple #[.int .i64 a, .int .i64 0] else .tuple #[.int .i64 0, .int .i64 9]

theorem size_num (a : Int) (ha : I64 a) (w : World) :
    Calls Try.prog 61 #[.int .i64 a] w fun e w' => e = .returned (.int .u64 (a.natAbs : Int)) ∧ w' = w := by
  unfold I64 at ha
  by_cases h : a < 0
  · have e : IntKind.u64.wrap (-IntKind.u64.wrap a) = (a.natAbs : Int) := by
      rw [IntKind.wrap_u64, IntKind.wrap_u64]; omega
    have E := Lib.hid e; clear e
    go_enter Try.func61, Try.ntmps61
    go_wp2
    go_ret
    exact ⟨ret_int (by first | omega | exact E.out), rfl⟩
  · have e : IntKind.u64.wrap a = (a.natAbs : Int) := by
      rw [IntKind.wrap_u64]; omega
    have E := Lib.hid e; clear e
    go_enter Try.func61, Try.ntmps61
    go_wp2
    go_ret
    exact ⟨ret_int (by first | omega | exact E.out), rfl⟩

theorem size_ref (a : Int) (ha : I64 a) (w : World) :
    Calls Try.prog 59 #[.int .i64 a] w fun e w' => e = .returned (.int .u64 (a.natAbs : Int)) ∧ w' = w := by
  unfold I64 at ha
  by_cases h : a < 0
  · have e : IntKind.u64.wrap (IntKind.u64.wrap (IntKind.i64.wrap (0 - IntKind.i64.wrap (a + 1))) + 1) = (a.natAbs : Int) := by
      rw [IntKind.wrap_u64, IntKind.wrap_u64, IntKind.wrap_i64, IntKind.wrap_i64]; omega
    have E := Lib.hid e; clear e
    go_enter Try.func59, Try.ntmps59
    go_wp2
    go_ret
    exact ⟨ret_int (by first | omega | exact E.out), rfl⟩
  · have e : IntKind.u64.wrap a = (a.natAbs : Int) := by
      rw [IntKind.wrap_u64]; omega
    have E := Lib.hid e; clear e
    go_enter Try.func59, Try.ntmps59
    go_wp2
    go_ret
    exact ⟨ret_int (by first | omega | exact E.out), rfl⟩

theorem in_num (n lo hi : Int) (w : World) :
    Calls Try.prog 38 #[.int .i64 n, .int .i64 lo, .int .i64 hi] w fun e w' => e = .returned (.bool (decide (lo ≤ n) && decide (n ≤ hi))) ∧ w' = w := by
  by_cases h : lo ≤ n <;> by_cases h2 : n ≤ hi
  all_goals
    go_enter Try.func38, Try.ntmps38
    go_wp2
    go_ret
    exact ⟨by simp [h, h2], rfl⟩

theorem numRes_in {c : Int} (h : -9223372036854775808 ≤ c ∧ c ≤ 9223372036854775807) : numRes c = .tuple #[.int .i64 c, .int .i64 0] := by
  simp [numRes, inRange, h.1, h.2]
theorem numRes_out {c : Int} (h : ¬ (-9223372036854775808 ≤ c ∧ c ≤ 9223372036854775807)) : numRes c = .tuple #[.int .i64 0, .int .i64 9] := by
  have e : inRange c = false := by
    simp [inRange]; omega
  simp [numRes, e]

theorem add_num (a b : Int) (ha : I64 a) (hb : I64 b) (w : World) :
    Calls Try.prog 36 #[.int .i64 a, .int .i64 b] w fun e w' => e = .returned (numRes (a + b)) ∧ w' = w := by
  unfold I64 at ha hb
  by_cases p : 0 < b
  · have p2 : ¬ b < 0 := by omega
    have s1 : IntKind.i64.wrap (9223372036854775807 - b) = 9223372036854775807 - b := IntWalk.i64_in _ (by omega)
    by_cases q : 9223372036854775807 - b < a
    · have E := Lib.hid (numRes_out (c := a + b) (by omega)); clear ha hb
      go_enter Try.func36, Try.ntmps36
      go_wp2
      go_ret2
      exact ⟨by rw [E.out]; try rfl, rfl⟩
    · have E := Lib.hid (numRes_in (c := a + b) (by omega))
      have s : IntKind.i64.wrap (a + b) = a + b := IntWalk.i64_in _ (by omega)
      clear ha hb
      go_enter Try.func36, Try.ntmps36
      go_wp2
      go_ret2
      exact ⟨by rw [E.out]; try rfl, rfl⟩
  · by_cases p2 : b < 0
    · have s1 : IntKind.i64.wrap (-9223372036854775808 - b) = -9223372036854775808 - b := IntWalk.i64_in _ (by omega)
      by_cases q : a < -9223372036854775808 - b
      · have E := Lib.hid (numRes_out (c := a + b) (by omega)); clear ha hb
        go_enter Try.func36, Try.ntmps36
        go_wp2
        go_ret2
        exact ⟨by rw [E.out]; try rfl, rfl⟩
      · have E := Lib.hid (numRes_in (c := a + b) (by omega))
        have s : IntKind.i64.wrap (a + b) = a + b := IntWalk.i64_in _ (by omega)
        clear ha hb
        go_enter Try.func36, Try.ntmps36
        go_wp2
        go_ret2
        exact ⟨by rw [E.out]; try rfl, rfl⟩
    · have E := Lib.hid (numRes_in (c := a + b) (by omega))
      have s : IntKind.i64.wrap (a + b) = a + b := IntWalk.i64_in _ (by omega)
      clear ha hb
      go_enter Try.func36, Try.ntmps36
      go_wp2
      go_ret2
      exact ⟨by rw [E.out]; try rfl, rfl⟩

theorem add_ref (a b : Int) (ha : I64 a) (hb : I64 b) (w : World) :
    Calls Try.prog 52 #[.int .i64 a, .int .i64 b] w fun e w' => e = .returned (numRes (a + b)) ∧ w' = w := by
  unfold I64 at ha hb
  by_cases p : 0 < b
  · have p2 : ¬ b < 0 := by omega
    have s1 : IntKind.i64.wrap (9223372036854775807 - b) = 9223372036854775807 - b := IntWalk.i64_in _ (by omega)
    by_cases q : 9223372036854775807 - b < a
    · have E := Lib.hid (numRes_out (c := a + b) (by omega)); clear ha hb
      go_enter Try.func52, Try.ntmps52
      go_wp2
      go_ret2
      exact ⟨by rw [E.out]; try rfl, rfl⟩
    · have E := Lib.hid (numRes_in (c := a + b) (by omega))
      have s : IntKind.i64.wrap (a + b) = a + b := IntWalk.i64_in _ (by omega)
      clear ha hb
      go_enter Try.func52, Try.ntmps52
      go_wp2
      go_ret2
      exact ⟨by rw [E.out]; try rfl, rfl⟩
  · by_cases p2 : b < 0
    · have s1 : IntKind.i64.wrap (-9223372036854775808 - b) = -9223372036854775808 - b := IntWalk.i64_in _ (by omega)
      by_cases q : a < -9223372036854775808 - b
      · have E := Lib.hid (numRes_out (c := a + b) (by omega)); clear ha hb
        go_enter Try.func52, Try.ntmps52
        go_wp2
        go_ret2
        exact ⟨by rw [E.out]; try rfl, rfl⟩
      · have E := Lib.hid (numRes_in (c := a + b) (by omega))
        have s : IntKind.i64.wrap (a + b) = a + b := IntWalk.i64_in _ (by omega)
        clear ha hb
        go_enter Try.func52, Try.ntmps52
        go_wp2
        go_ret2
        exact ⟨by rw [E.out]; try rfl, rfl⟩
    · have E := Lib.hid (numRes_in (c := a + b) (by omega))
      have s : IntKind.i64.wrap (a + b) = a + b := IntWalk.i64_in _ (by omega)
      clear ha hb
      go_enter Try.func52, Try.ntmps52
      go_wp2
      go_ret2
      exact ⟨by rw [E.out]; try rfl, rfl⟩

theorem sub_num (a b : Int) (ha : I64 a) (hb : I64 b) (w : World) :
    Calls Try.prog 46 #[.int .i64 a, .int .i64 b] w fun e w' => e = .returned (numRes (a - b)) ∧ w' = w := by
  unfold I64 at ha hb
  by_cases p : b < 0
  · have p2 : ¬ 0 < b := by omega
    have s1 : IntKind.i64.wrap (9223372036854775807 + b) = 9223372036854775807 + b := IntWalk.i64_in _ (by omega)
    by_cases q : 9223372036854775807 + b < a
    · have E := Lib.hid (numRes_out (c := a - b) (by omega)); clear ha hb
      go_enter Try.func46, Try.ntmps46
      go_wp2
      go_ret2
      exact ⟨by rw [E.out]; try rfl, rfl⟩
    · have E := Lib.hid (numRes_in (c := a - b) (by omega))
      have s : IntKind.i64.wrap (a - b) = a - b := IntWalk.i64_in _ (by omega)
      clear ha hb
      go_enter Try.func46, Try.ntmps46
      go_wp2
      go_ret2
      exact ⟨by rw [E.out]; try rfl, rfl⟩
  · by_cases p2 : 0 < b
    · have s1 : IntKind.i64.wrap (-9223372036854775808 + b) = -9223372036854775808 + b := IntWalk.i64_in _ (by omega)
      by_cases q : a < -9223372036854775808 + b
      · have E := Lib.hid (numRes_out (c := a - b) (by omega)); clear ha hb
        go_enter Try.func46, Try.ntmps46
        go_wp2
        go_ret2
        exact ⟨by rw [E.out]; try rfl, rfl⟩
      · have E := Lib.hid (numRes_in (c := a - b) (by omega))
        have s : IntKind.i64.wrap (a - b) = a - b := IntWalk.i64_in _ (by omega)
        clear ha hb
        go_enter Try.func46, Try.ntmps46
        go_wp2
        go_ret2
        exact ⟨by rw [E.out]; try rfl, rfl⟩
    · have E := Lib.hid (numRes_in (c := a - b) (by omega))
      have s : IntKind.i64.wrap (a - b) = a - b := IntWalk.i64_in _ (by omega)
      clear ha hb
      go_enter Try.func46, Try.ntmps46
      go_wp2
      go_ret2
      exact ⟨by rw [E.out]; try rfl, rfl⟩

end Go.Proofs.Ytgbdnodkbdkaeaa
