/- The play at every argument: what is let by, what is refused. -/
import Derived.Test.YtpcoffpdkfbhdaaFo
namespace Go.Proofs.Ytpcoffpdkfbhdaa
open Go.RowKit

set_option maxHeartbeats 1000000 in
set_option maxRecDepth 100000 in
theorem plays_long (R N : Int) (a0 : Option Addr) (len cap : Nat) (w : World) (h : 100 < len) (hm : len ≤ maxLen) : Calls Try.prog 3 #[.int .i64 R, .int .i64 N, .slice a0 len cap] w (FinPost w) := by
  unfold maxLen at hm
  go_enter Try.func3, Try.ntmps3
  go_wp2_with fail
  refine (known_any w).mono ?_
  rintro e w1 ⟨rfl, k1⟩
  go_wp2_with fail
  go_ret
  exact ⟨rfl, k1⟩
set_option maxHeartbeats 1000000 in
set_option maxRecDepth 100000 in
theorem plays_cells (R N : Int) (a0 : Option Addr) (len cap : Nat) (w : World) (h : len ≤ 100) (h1 : 100 < N) (h2 : N ≤ 4096) : Calls Try.prog 3 #[.int .i64 R, .int .i64 N, .slice a0 len cap] w (FinPost w) := by
  have hb : decide ((100 : Int) < (len : Int)) = false := decide_eq_false (by omega)
  go_enter Try.func3, Try.ntmps3
  go_wp2_with fail
  refine (known_any w).mono ?_
  rintro e w1 ⟨rfl, k1⟩
  go_wp2_with fail
  go_ret
  exact ⟨rfl, k1⟩
set_option maxHeartbeats 1000000 in
set_option maxRecDepth 100000 in
theorem plays_rows (R N : Int) (a0 : Option Addr) (len cap : Nat) (w : World) (h : len ≤ 100) (h0 : ¬ (100 < N ∧ N ≤ 4096)) (h1 : 20 < R) (h2 : R ≤ 1024) : Calls Try.prog 3 #[.int .i64 R, .int .i64 N, .slice a0 len cap] w (FinPost w) := by
  have hb : decide ((100 : Int) < (len : Int)) = false := decide_eq_false (by omega)
  have h3 : N ≤ 100 ∨ 4096 < N := by omega
  clear h0
  rcases h3 with h3 | h3
  all_goals
    go_enter Try.func3, Try.ntmps3
    go_wp2_with fail
    refine (known_any w).mono ?_
    rintro e w1 ⟨rfl, k1⟩
    go_wp2_with fail
    go_ret
    exact ⟨rfl, k1⟩
set_option maxHeartbeats 1000000 in
set_option maxRecDepth 100000 in
theorem plays_bad (R N : Int) (a0 : Option Addr) (len cap : Nat) (w : World) (h : len ≤ 100) (h0 : N ≤ 100 ∨ 4096 < N) (h1 : R ≤ 20 ∨ 1024 < R) (hbad : ¬ (1 ≤ R ∧ R ≤ 1024 ∧ 1 ≤ N ∧ N ≤ 4096)) : Calls Try.prog 3 #[.int .i64 R, .int .i64 N, .slice a0 len cap] w (FinPost w) := by
  have hb : decide ((100 : Int) < (len : Int)) = false := decide_eq_false (by omega)
  have Hbad := Lib.hid hbad
  have h3 : R < 1 ∨ 1024 < R ∨ (1 ≤ R ∧ R ≤ 20 ∧ N < 1) ∨ (1 ≤ R ∧ R ≤ 20 ∧ 4096 < N) := by omega
  clear hbad
  rcases h3 with h3 | h3 | ⟨h3, h4, h5⟩ | ⟨h3, h4, h5⟩
  · rcases h0 with h0 | h0
    all_goals
      go_enter Try.func3, Try.ntmps3
      go_wp2_with fail
      refine (known_any w).mono ?_
      rintro e w1 ⟨rfl, k1⟩
      go_wp2_with fail
      refine (new_bad Hbad.out).mono ?_
      rintro e w2 ⟨rfl, rfl⟩
      go_wp2_with fail
      go_ret
      exact ⟨rfl, k1⟩
  · rcases h0 with h0 | h0
    all_goals
      go_enter Try.func3, Try.ntmps3
      go_wp2_with fail
      refine (known_any w).mono ?_
      rintro e w1 ⟨rfl, k1⟩
      go_wp2_with fail
      refine (new_bad Hbad.out).mono ?_
      rintro e w2 ⟨rfl, rfl⟩
      go_wp2_with fail
      go_ret
      exact ⟨rfl, k1⟩
  · clear h0 h1
    go_enter Try.func3, Try.ntmps3
    go_wp2_with fail
    refine (known_any w).mono ?_
    rintro e w1 ⟨rfl, k1⟩
    go_wp2_with fail
    refine (new_bad Hbad.out).mono ?_
    rintro e w2 ⟨rfl, rfl⟩
    go_wp2_with fail
    go_ret
    exact ⟨rfl, k1⟩
  · have hd : decide (N ≤ 4096) = false := decide_eq_false (by omega)
    clear h0 h1
    go_enter Try.func3, Try.ntmps3
    go_wp2_with fail
    refine (known_any w).mono ?_
    rintro e w1 ⟨rfl, k1⟩
    go_wp2_with fail
    refine (new_bad Hbad.out).mono ?_
    rintro e w2 ⟨rfl, rfl⟩
    go_wp2_with fail
    go_ret
    exact ⟨rfl, k1⟩

theorem plays_all (R N : Int) (a0 : Option Addr) (len cap : Nat) (w : World) (hm : len ≤ maxLen) (ha : ∃ b off g, ActsAt w a0 b off len g) : Calls Try.prog 3 #[.int .i64 R, .int .i64 N, .slice a0 len cap] w (FinPost w) := by
  by_cases h : 100 < len
  · exact plays_long R N a0 len cap w h hm
  · by_cases h1 : 100 < N ∧ N ≤ 4096
    · exact plays_cells R N a0 len cap w (by omega) h1.1 h1.2
    · by_cases h2 : 20 < R ∧ R ≤ 1024
      · exact plays_rows R N a0 len cap w (by omega) h1 h2.1 h2.2
      · by_cases h3 : 1 ≤ R ∧ R ≤ 1024 ∧ 1 ≤ N ∧ N ≤ 4096
        · obtain ⟨r, rfl⟩ : ∃ r : Nat, R = r := ⟨R.toNat, by omega⟩
          obtain ⟨n, rfl⟩ : ∃ n : Nat, N = n := ⟨N.toNat, by omega⟩
          obtain ⟨b, off, g, hg⟩ := ha
          exact plays_any r n a0 b off len cap g w hg (by omega) (by omega) (by omega) (by omega) (by omega)
        · exact plays_bad R N a0 len cap w (by omega) (by omega) (by omega) h3
end Go.Proofs.Ytpcoffpdkfbhdaa
