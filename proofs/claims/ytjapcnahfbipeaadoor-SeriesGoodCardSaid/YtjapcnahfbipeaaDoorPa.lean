/- Numbers: whether a number lies between two. -/
import Derived.Test.YtjapcnahfbipeaaDoorBase
import Derived.WalkKit
import Derived.Below
import Derived.IntWalk
import Derived.Lib.Hide
namespace Go.Proofs.YtjapcnahfbipeaaDoor
open Go Go.RowKit

/-- A number that an int64 holds. -/
def I64 (a : Int) : Prop := -9223372036854775808 ≤ a ∧ a ≤ 9223372036854775807

theorem wrapI {a : Int} (h : I64 a) : IntKind.i64.wrap a = a := by
  unfold I64 at h
  simp only [IntKind.wrap, IntKind.signed, IntKind.bits]
  simp
  omega

theorem wrapU {a : Int} (h0 : 0 ≤ a) (h1 : a < 18446744073709551616) : IntKind.u64.wrap a = a := by
  simp only [IntKind.wrap, IntKind.signed, IntKind.bits]
  simp
  omega


theorem in_num (n lo hi : Int) (w : World) :
    Calls Tryd.prog 29 #[.int .i64 n, .int .i64 lo, .int .i64 hi] w fun e w' => e = .returned (.bool (decide (lo ≤ n) && decide (n ≤ hi))) ∧ w' = w := by
  by_cases h : lo ≤ n <;> by_cases h2 : n ≤ hi
  all_goals
    go_enter Tryd.func29, Tryd.ntmps29
    go_wp2
    go_ret
    exact ⟨by simp [h, h2], rfl⟩

end Go.Proofs.YtjapcnahfbipeaaDoor
