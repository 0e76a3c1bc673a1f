/- Alloc: tops, legs: the small contracts. -/
import Derived.Test.YtgbdnodkbdkaeaaAb
namespace Go.Proofs.Ytgbdnodkbdkaeaa
open Go Go.RowKit

structure Tp where
  bid : Int
  bq : Int
  ask : Int
  aq : Int
  bc : Bool
  ac : Bool
structure Lg where
  ser : Int
  sgn : Int
  rat : Int
def insideB (t : Tp) (p : Int) : Bool := decide (0 < t.bid) && decide (0 < t.ask) && decide (t.bid ≤ p) && decide (p ≤ t.ask)
def BlPost (b : Bool) (w : World) (e : Ending) (w' : World) : Prop := e = .returned (.bool b) ∧ Kept (fun _ => False) w w'
set_option maxHeartbeats 1000000 in
theorem inside_any (t : Tp) (p : Int) (w : World) : Calls Try.prog 44 #[.agg #[.int .i64 t.bid, .int .i64 t.bq, .int .i64 t.ask, .int .i64 t.aq, .bool t.bc, .bool t.ac], .int .i64 p] w (BlPost (insideB t p) w) := by
  have hc : ((0 < t.bid ∧ 0 < t.ask ∧ t.bid ≤ p ∧ p ≤ t.ask) ∧ insideB t p = true) ∨ (t.bid ≤ 0 ∧ insideB t p = false) ∨ ((0 < t.bid ∧ t.ask ≤ 0) ∧ insideB t p = false) ∨ ((0 < t.bid ∧ 0 < t.ask ∧ p < t.bid) ∧ insideB t p = false) ∨ ((0 < t.bid ∧ 0 < t.ask ∧ t.bid ≤ p ∧ t.ask < p) ∧ insideB t p = false) := by
    simp only [insideB, Bool.and_eq_true, Bool.and_eq_false_iff, decide_eq_true_eq, decide_eq_false_iff_not]; omega
  rcases hc with ⟨⟨h1, h2, h3, h4⟩, hE⟩ | ⟨h1, hE⟩ | ⟨⟨h1, h2⟩, hE⟩ | ⟨⟨h1, h2, h3⟩, hE⟩ | ⟨⟨h1, h2, h3, h4⟩, hE⟩
  all_goals
    have E := Lib.hid hE
    clear hE
    go_enter Try.func44, Try.ntmps44
    go_wp2
    go_ret
    exact ⟨ret_bool (by rw [E.out] <;> simp <;> omega), (Kept.refl _ _).alloc _⟩
set_option maxHeartbeats 1000000 in
theorem inside_ref (t : Tp) (p : Int) (w : World) : Calls Try.prog 31 #[.agg #[.int .i64 t.bid, .int .i64 t.bq, .int .i64 t.ask, .int .i64 t.aq, .bool t.bc, .bool t.ac], .int .i64 p] w (BlPost (insideB t p) w) := by
  have hc : ((0 < t.bid ∧ 0 < t.ask ∧ t.bid ≤ p ∧ p ≤ t.ask) ∧ insideB t p = true) ∨ (t.bid ≤ 0 ∧ insideB t p = false) ∨ ((0 < t.bid ∧ t.ask ≤ 0) ∧ insideB t p = false) ∨ ((0 < t.bid ∧ 0 < t.ask ∧ p < t.bid) ∧ insideB t p = false) ∨ ((0 < t.bid ∧ 0 < t.ask ∧ t.bid ≤ p ∧ t.ask < p) ∧ insideB t p = false) := by
    simp only [insideB, Bool.and_eq_true, Bool.and_eq_false_iff, decide_eq_true_eq, decide_eq_false_iff_not]; omega
  rcases hc with ⟨⟨h1, h2, h3, h4⟩, hE⟩ | ⟨h1, hE⟩ | ⟨⟨h1, h2⟩, hE⟩ | ⟨⟨h1, h2, h3⟩, hE⟩ | ⟨⟨h1, h2, h3, h4⟩, hE⟩
  all_goals
    have E := Lib.hid hE
    clear hE
    go_enter Try.func31, Try.ntmps31
    go_wp2
    go_ret
    exact ⟨ret_bool (by rw [E.out] <;> simp <;> omega), (Kept.refl _ _).alloc _⟩

def TofPost (t : Tp) (w : World) (e : Ending) (w' : World) : Prop := e = .returned (.agg #[.int .i64 t.bid, .int .i64 t.bq, .int .i64 t.ask, .int .i64 t.aq, .bool t.bc, .bool t.ac]) ∧ Kept (fun _ => False) w w'
theorem tof_any (t : Tp) (w : World) : Calls Try.prog 29 #[.agg #[.int .i64 t.bid, .int .i64 t.bq, .int .i64 t.ask, .int .i64 t.aq, .bool t.bc, .bool t.ac]] w (TofPost t w) := by
  go_enter Try.func29, Try.ntmps29
  go_wp2
  refine bodyPost_ret (v := .agg #[.int .i64 t.bid, .int .i64 t.bq, .int .i64 t.ask, .int .i64 t.aq, .bool t.bc, .bool t.ac]) (by simp [results, Try.results29, go_sem]) rfl ⟨rfl, ?_⟩
  repeat refine Kept.setCell ?_ (fun h => by simp at h; omega) _
  exact ((Kept.refl _ _).alloc _).alloc _
def FtPost (w : World) (e : Ending) (w' : World) : Prop := (∃ a, e = .returned (.iface 102 (.pointer (some a)))) ∧ Kept (fun _ => False) w w'
theorem fault_any (n k : Int) (w : World) : Calls Try.prog 37 #[.int .i64 n, .int .i64 k] w (FtPost w) := by
  go_enter Try.func37, Try.ntmps37
  go_wp2
  go_ret
  exact ⟨⟨_, rfl⟩, (Kept.refl _ _).alloc _⟩
/-- A leg's sign for who is on a side. -/
def ofS (s side : Int) : Int := if side = 1 then s else -s
theorem of_any (s side : Int) (hs : I64 s) (hm : s ≠ -9223372036854775808) (w : World) : Calls Try.prog 34 #[.int .i64 s, .int .i64 side] w fun e w' => e = .returned (.int .i64 (ofS s side)) ∧ w' = w := by
  have hn : IntKind.i64.wrap (-s) = -s := IntWalk.i64_in _ (by unfold I64 at hs; omega)
  clear hs hm
  by_cases h : side = 1
  · have E : Hid (ofS s side = s) := if_pos h
    have hb : (side != 1) = false := by simp [h]
    clear h
    go_enter Try.func34, Try.ntmps34
    go_wp2
    go_ret
    exact ⟨ret_int E.out.symm, rfl⟩
  · have E : Hid (ofS s side = -s) := if_neg h
    have hb : (side != 1) = true := by simp [h]
    clear h
    go_enter Try.func34, Try.ntmps34
    go_wp2
    go_ret
    exact ⟨ret_int E.out.symm, rfl⟩
end Go.Proofs.Ytgbdnodkbdkaeaa
