/- Alloc: tops such as books have: Few 10. -/
import Derived.Test.YtgbdnodkbdkaeaaBa
namespace Go.Proofs.Ytgbdnodkbdkaeaa
open Go Go.RowKit

def few1 (t : Tp) : Bool := (decide (0 ≤ t.bid) && decide (t.bid ≤ 1000000)) && (decide (0 ≤ t.ask) && decide (t.ask ≤ 1000000)) && ((decide (0 ≤ t.bq) && decide (t.bq ≤ 1099511627776)) && (decide (0 ≤ t.aq) && decide (t.aq ≤ 1099511627776)))
def fewU (ts : List Tp) : Nat → Bool
  | 0 => true
  | i + 1 => fewU ts i && few1 (tpAt ts i)
def fewB (ts : List Tp) : Bool := decide (ts.length ≤ 10) && fewU ts ts.length
theorem fewU_false {ts : List Tp} {i : Nat} (h : fewU ts i = false) : ∀ n, i ≤ n → fewU ts n = false
  | 0, hn => by obtain rfl : i = 0 := by omega
                exact h
  | n + 1, hn => by
    by_cases e : i = n + 1
    · subst e; exact h
    · show (fewU ts n && _) = false
      rw [fewU_false h n (by omega)]; rfl
theorem fewU_at {ts : List Tp} : ∀ {n : Nat}, fewU ts n = true → ∀ j, j < n → few1 (tpAt ts j) = true
  | 0, _, j, hj => by omega
  | n + 1, h, j, hj => by
    have h' : (fewU ts n && few1 (tpAt ts n)) = true := h
    simp only [Bool.and_eq_true] at h'
    by_cases e : j = n
    · subst e; exact h'.2
    · exact fewU_at h'.1 j (by omega)
theorem few_is {ts : List Tp} (h : fewB ts = true) : ts.length ≤ 10 ∧ ∀ j, j < ts.length → (0 ≤ (tpAt ts j).bid ∧ (tpAt ts j).bid ≤ 1000000) ∧ (0 ≤ (tpAt ts j).ask ∧ (tpAt ts j).ask ≤ 1000000) := by
  unfold fewB at h
  simp only [Bool.and_eq_true, decide_eq_true_eq] at h
  refine ⟨h.1, fun j hj => ?_⟩
  have := fewU_at h.2 j hj
  unfold few1 at this
  simp only [Bool.and_eq_true, decide_eq_true_eq] at this
  exact this.1
def FwRel (ts : List Tp) (w0 : World) (iv : Value) (wr : World) : Prop := ∃ i : Nat, i ≤ ts.length ∧ iv = .int .i64 i ∧ fewU ts i = true ∧ Kept (fun _ => False) w0 wr
set_option maxHeartbeats 1000000 in
theorem few_long {w : World} {ta : Option Addr} {tl tc : Nat} (ht : tl ≤ maxLen) (h : 10 < tl) : Calls Try.prog 10 #[.slice ta tl tc] w (BlPost false w) := by
  unfold maxLen at ht
  go_enter Try.func10, Try.ntmps10
  go_wp2
  go_ret
  exact ⟨rfl, Kept.refl _ _⟩
set_option maxHeartbeats 1000000 in
theorem few_zero {w : World} {ta : Option Addr} {tc : Nat} : Calls Try.prog 10 #[.slice ta 0 tc] w (BlPost true w) := by
  go_enter Try.func10, Try.ntmps10
  go_wp2_with fail
  go_loopw [3] (fun iv wr => iv = .int .i64 0 ∧ wr = w) (fun _ _ => 0)
  case atStart => exact ⟨rfl, rfl⟩
  case round =>
    obtain ⟨rfl, rfl⟩ := hrel
    go_wp2
    go_ret
    exact ⟨rfl, Kept.refl _ _⟩
set_option maxRecDepth 100000 in
set_option maxHeartbeats 2000000 in
theorem few_some {w : World} {tb tof tc : Nat} {ts : List Tp} (hl : ts.length ≤ 10) (ht : TpAt w tb tof ts) : Calls Try.prog 10 #[.slice (some ⟨tb, tof, none⟩) ts.length tc] w (BlPost (fewB ts) w) := by
  have Ht := Lib.hid ht
  obtain ⟨n, hn⟩ : ∃ n, ts.length = n := ⟨_, rfl⟩
  have Hn := Lib.hid hn
  rw [hn] at hl ⊢
  clear ht hn
  go_enter Try.func10, Try.ntmps10
  go_wp2_with fail
  go_loopw [3] (fun iv wr => FwRel ts w iv wr) (fun iv _ => n - (intOf iv).toNat)
  case atStart => exact ⟨0, Nat.zero_le _, rfl, rfl, Kept.refl _ _⟩
  case round =>
    obtain ⟨i, hi, rfl, hup, hk⟩ := hrel
    have hin : i ≤ n := by have := Hn.out; omega
    have Hup := Lib.hid hup
    clear hi hup
    by_cases hlt : i < n
    · have hb2 : (0 : Int) ≤ (i : Int) := by omega
      have hb3 : (i : Int) < (n : Int) := by omega
      obtain ⟨c0, c1, c2, c3, c4, c5⟩ := (Ht.out.kept hk) i (by have := Hn.out; omega)
      obtain ⟨⟨bid, bq, ask, aq, bc, ac⟩, htt⟩ : ∃ t, tpAt ts i = t := ⟨_, rfl⟩
      rw [htt] at c0 c1 c2 c3 c4 c5
      have Htt := Lib.hid htt
      simp only at c0 c1 c2 c3 c4 c5
      clear htt
      have hbad : Hid (few1 ⟨bid, bq, ask, aq, bc, ac⟩ = false → BlPost (fewB ts) w = BlPost false w) := fun h => by
        have : fewB ts = false := by
          unfold fewB
          rw [fewU_false (i := i + 1) (by show (fewU ts i && few1 (tpAt ts i)) = false; rw [Htt.out, h, Bool.and_false]) ts.length (by have := Hn.out; omega), Bool.and_false]
        rw [this]
      go_upto_region 7 with fail
      have hbx := block_new3 wr (.cells #[.int .i64 bid, .int .i64 bq, .int .i64 ask, .int .i64 aq, .bool bc, .bool ac] 45)
      have hkx : Kept (fun _ => False) wr (wr.alloc (.cells #[.int .i64 bid, .int .i64 bq, .int .i64 ask, .int .i64 aq, .bool bc, .bool ac] 45)) := (Kept.refl _ _).alloc _
      generalize wr.heap.size = xb at hbx ⊢
      generalize wr.alloc (.cells #[.int .i64 bid, .int .i64 bq, .int .i64 ask, .int .i64 aq, .bool bc, .bool ac] 45) = w1 at hbx hkx ⊢
      have hk1 := hk.trans hkx
      clear c0 c1 c2 c3 c4 c5 hkx hk
      have x0 : w1.cell? ⟨xb, 0, none⟩ = some (.int .i64 bid) := by rw [cell_of_block hbx]; rfl
      have x1 : w1.cell? ⟨xb, 1, none⟩ = some (.int .i64 bq) := by rw [cell_of_block hbx]; rfl
      have x2 : w1.cell? ⟨xb, 2, none⟩ = some (.int .i64 ask) := by rw [cell_of_block hbx]; rfl
      have x3 : w1.cell? ⟨xb, 3, none⟩ = some (.int .i64 aq) := by rw [cell_of_block hbx]; rfl
      clear hbx
      have hcs : (bid < 0) ∨ (0 ≤ bid ∧ 1000000 < bid) ∨ (0 ≤ bid ∧ bid ≤ 1000000 ∧ ask < 0) ∨ (0 ≤ bid ∧ bid ≤ 1000000 ∧ 0 ≤ ask ∧ 1000000 < ask) ∨ (0 ≤ bid ∧ bid ≤ 1000000 ∧ 0 ≤ ask ∧ ask ≤ 1000000 ∧ bq < 0) ∨ (0 ≤ bid ∧ bid ≤ 1000000 ∧ 0 ≤ ask ∧ ask ≤ 1000000 ∧ 0 ≤ bq ∧ 1099511627776 < bq) ∨
          (0 ≤ bid ∧ bid ≤ 1000000 ∧ 0 ≤ ask ∧ ask ≤ 1000000 ∧ 0 ≤ bq ∧ bq ≤ 1099511627776 ∧ aq < 0) ∨ (0 ≤ bid ∧ bid ≤ 1000000 ∧ 0 ≤ ask ∧ ask ≤ 1000000 ∧ 0 ≤ bq ∧ bq ≤ 1099511627776 ∧ 0 ≤ aq ∧ 1099511627776 < aq) ∨
          (0 ≤ bid ∧ bid ≤ 1000000 ∧ 0 ≤ ask ∧ ask ≤ 1000000 ∧ 0 ≤ bq ∧ bq ≤ 1099511627776 ∧ 0 ≤ aq ∧ aq ≤ 1099511627776) := by omega
      rcases hcs with e1 | ⟨e1, e2⟩ | ⟨e1, e2, e3⟩ | ⟨e1, e2, e3, e4⟩ | ⟨e1, e2, e3, e4, e5⟩ | ⟨e1, e2, e3, e4, e5, e6⟩ | ⟨e1, e2, e3, e4, e5, e6, e7⟩ | ⟨e1, e2, e3, e4, e5, e6, e7, e8⟩ | ⟨e1, e2, e3, e4, e5, e6, e7, e8⟩
      rotate_left 8
      · have hup2 : Hid (fewU ts (i + 1) = true) := by
          show (fewU ts i && few1 (tpAt ts i)) = true
          rw [Hup.out, Htt.out]
          simp only [few1, e1, e2, e3, e4, e5, e6, e7, e8]
          decide
        clear hbad
        go_wp2
        exact ⟨⟨i + 1, by have := Hn.out; omega, by push_cast; rfl, hup2.out, hk1⟩, by simp [intOf]; omega⟩
      all_goals
        have hE := Lib.hid (hbad.out (by simp only [few1, Bool.and_eq_false_iff, decide_eq_false_iff_not]; omega))
        clear hbad
        go_wp2
        go_ret
        rw [hE.out]
        exact ⟨rfl, hk1⟩
    · obtain rfl : i = n := by omega
      have hE : Hid (fewB ts = true) := by
        show fewB ts = true
        unfold fewB
        rw [Hn.out, Hup.out]; simp; omega
      go_wp2
      go_ret
      rw [hE.out]
      exact ⟨rfl, hk⟩
theorem few_any {w : World} {ta : Option Addr} {tc : Nat} {ts : List Tp} (hm : ts.length ≤ maxLen) (ht : TpS w ta ts) : Calls Try.prog 10 #[.slice ta ts.length tc] w (BlPost (fewB ts) w) := by
  by_cases h : ts.length ≤ 10
  · rcases ht with rfl | ⟨tb, tof, rfl, ht⟩
    · exact few_zero
    · exact few_some h ht
  · have : fewB ts = false := by unfold fewB; simp [h]
    rw [this]
    exact few_long hm (by omega)
end Go.Proofs.Ytgbdnodkbdkaeaa
