/- The walk of 'SeriesThree'. -/
import Derived.Test.YtjapcnahfbipeaaDoorQi
namespace Go.Proofs.YtjapcnahfbipeaaDoor
open Go Go.RowKit

theorem block_at {w : World} {o : Obj} {n : Nat} (h : n = w.heap.size) : (w.alloc o).heap[n]? = some o := by subst h; exact block_nw _ _
/-- Which of three are too long. -/
def long3 (a b c : Sr) : Prop := ((50 : Int) < a.cls.size) ∨ ((a.cls.size : Int) ≤ 50 ∧ (50 : Int) < b.cls.size) ∨ ((a.cls.size : Int) ≤ 50 ∧ (b.cls.size : Int) ≤ 50 ∧ (50 : Int) < c.cls.size)
set_option maxHeartbeats 4000000 in
set_option maxRecDepth 100000 in
theorem seriesThree_walk (a b c : Sr) (w : World) (hL : Laid w) (m : Int) (hm : w.cell? ⟨0, 0, none⟩ = some (.int .i64 m)) : Calls Tryd.prog 4 #[.agg #[.string a.cls, .int .i64 a.exp, .int .i64 a.strike, .int .i64 a.right], .agg #[.string b.cls, .int .i64 b.exp, .int .i64 b.strike, .int .i64 b.right], .agg #[.string c.cls, .int .i64 c.exp, .int .i64 c.strike, .int .i64 c.right]] w (KnownPost w) := by
  have ha : (((w.alloc (.cells #[.string a.cls, .int .i64 a.exp, .int .i64 a.strike, .int .i64 a.right] 23)).alloc (.cells #[.string b.cls, .int .i64 b.exp, .int .i64 b.strike, .int .i64 b.right] 23)).alloc (.cells #[.string c.cls, .int .i64 c.exp, .int .i64 c.strike, .int .i64 c.right] 23)).heap[w.heap.size]? = some (boxS a 23) := block_alloc (block_alloc (block_nw _ _))
  have hb : (((w.alloc (.cells #[.string a.cls, .int .i64 a.exp, .int .i64 a.strike, .int .i64 a.right] 23)).alloc (.cells #[.string b.cls, .int .i64 b.exp, .int .i64 b.strike, .int .i64 b.right] 23)).alloc (.cells #[.string c.cls, .int .i64 c.exp, .int .i64 c.strike, .int .i64 c.right] 23)).heap[w.heap.size + 1]? = some (boxS b 23) := block_alloc (block_at (by simp))
  have hc : (((w.alloc (.cells #[.string a.cls, .int .i64 a.exp, .int .i64 a.strike, .int .i64 a.right] 23)).alloc (.cells #[.string b.cls, .int .i64 b.exp, .int .i64 b.strike, .int .i64 b.right] 23)).alloc (.cells #[.string c.cls, .int .i64 c.exp, .int .i64 c.strike, .int .i64 c.right] 23)).heap[w.heap.size + 2]? = some (boxS c 23) := block_at (by simp)
  have hk : Kept (fun _ => False) w (((w.alloc (.cells #[.string a.cls, .int .i64 a.exp, .int .i64 a.strike, .int .i64 a.right] 23)).alloc (.cells #[.string b.cls, .int .i64 b.exp, .int .i64 b.strike, .int .i64 b.right] 23)).alloc (.cells #[.string c.cls, .int .i64 c.exp, .int .i64 c.strike, .int .i64 c.right] 23)) := (((Kept.refl _ _).alloc _).alloc _).alloc _
  have Hm := Lib.hid hm
  have HL := Lib.hid hL
  clear hL hm
  go_enter Tryd.func4, Tryd.ntmps4
  go_upto_region 1 with fail
  generalize w.heap.size + 2 = qc at hc ⊢
  generalize w.heap.size + 1 = qb at hb ⊢
  generalize w.heap.size = qa at ha ⊢
  generalize (((w.alloc (.cells #[.string a.cls, .int .i64 a.exp, .int .i64 a.strike, .int .i64 a.right] 23)).alloc (.cells #[.string b.cls, .int .i64 b.exp, .int .i64 b.strike, .int .i64 b.right] 23)).alloc (.cells #[.string c.cls, .int .i64 c.exp, .int .i64 c.strike, .int .i64 c.right] 23)) = w0 at ha hb hc hk ⊢
  go_wp2_with fail
  refine (known_any w0 (HL.out.on (bk hk)) m (sint_on hk Hm.out)).mono ?_
  rintro e w1 ⟨rfl, k1⟩
  have ha1 := keptBlk k1 ha
  have hb1 := keptBlk k1 hb
  have hc1 := keptBlk k1 hc
  have hk1 := hk.trans k1
  clear ha hb hc hk k1
  have x0 : w1.cell? ⟨qa, 0, none⟩ = some (.string a.cls) := by rw [cell_of_block ha1]; rfl
  have x1 : w1.cell? ⟨qa, 1, none⟩ = some (.int .i64 a.exp) := by rw [cell_of_block ha1]; rfl
  have x2 : w1.cell? ⟨qa, 2, none⟩ = some (.int .i64 a.strike) := by rw [cell_of_block ha1]; rfl
  have x3 : w1.cell? ⟨qa, 3, none⟩ = some (.int .i64 a.right) := by rw [cell_of_block ha1]; rfl
  have y0 : w1.cell? ⟨qb, 0, none⟩ = some (.string b.cls) := by rw [cell_of_block hb1]; rfl
  have y1 : w1.cell? ⟨qb, 1, none⟩ = some (.int .i64 b.exp) := by rw [cell_of_block hb1]; rfl
  have y2 : w1.cell? ⟨qb, 2, none⟩ = some (.int .i64 b.strike) := by rw [cell_of_block hb1]; rfl
  have y3 : w1.cell? ⟨qb, 3, none⟩ = some (.int .i64 b.right) := by rw [cell_of_block hb1]; rfl
  have z0 : w1.cell? ⟨qc, 0, none⟩ = some (.string c.cls) := by rw [cell_of_block hc1]; rfl
  have z1 : w1.cell? ⟨qc, 1, none⟩ = some (.int .i64 c.exp) := by rw [cell_of_block hc1]; rfl
  have z2 : w1.cell? ⟨qc, 2, none⟩ = some (.int .i64 c.strike) := by rw [cell_of_block hc1]; rfl
  have z3 : w1.cell? ⟨qc, 3, none⟩ = some (.int .i64 c.right) := by rw [cell_of_block hc1]; rfl
  have hl : long3 a b c ∨ ((a.cls.size : Int) ≤ 50 ∧ (b.cls.size : Int) ≤ 50 ∧ (c.cls.size : Int) ≤ 50) := by unfold long3; omega
  rcases hl with (g | ⟨g, g2⟩ | ⟨g, g2, g3⟩) | ⟨g, g2, g3⟩
  · go_wp2
    go_ret
    exact ⟨rfl, hk1⟩
  · go_wp2
    go_ret
    exact ⟨rfl, hk1⟩
  · go_wp2
    go_ret
    exact ⟨rfl, hk1⟩
  · go_wp2_with fail
    refine (compare_any a b w1).mono ?_
    rintro e w2 ⟨rfl, k2⟩
    have ha2 := keptBlk k2 ha1
    have hb2 := keptBlk k2 hb1
    have hc2 := keptBlk k2 hc1
    have hk2 := hk1.trans k2
    clear ha1 hb1 hc1 hk1 k2 x0 x1 x2 x3 y0 y1 y2 y3 z0 z1 z2 z3 g g2 g3
    have x0 : w2.cell? ⟨qa, 0, none⟩ = some (.string a.cls) := by rw [cell_of_block ha2]; rfl
    have x1 : w2.cell? ⟨qa, 1, none⟩ = some (.int .i64 a.exp) := by rw [cell_of_block ha2]; rfl
    have x2 : w2.cell? ⟨qa, 2, none⟩ = some (.int .i64 a.strike) := by rw [cell_of_block ha2]; rfl
    have x3 : w2.cell? ⟨qa, 3, none⟩ = some (.int .i64 a.right) := by rw [cell_of_block ha2]; rfl
    have y0 : w2.cell? ⟨qb, 0, none⟩ = some (.string b.cls) := by rw [cell_of_block hb2]; rfl
    have y1 : w2.cell? ⟨qb, 1, none⟩ = some (.int .i64 b.exp) := by rw [cell_of_block hb2]; rfl
    have y2 : w2.cell? ⟨qb, 2, none⟩ = some (.int .i64 b.strike) := by rw [cell_of_block hb2]; rfl
    have y3 : w2.cell? ⟨qb, 3, none⟩ = some (.int .i64 b.right) := by rw [cell_of_block hb2]; rfl
    have z0 : w2.cell? ⟨qc, 0, none⟩ = some (.string c.cls) := by rw [cell_of_block hc2]; rfl
    have z1 : w2.cell? ⟨qc, 1, none⟩ = some (.int .i64 c.exp) := by rw [cell_of_block hc2]; rfl
    have z2 : w2.cell? ⟨qc, 2, none⟩ = some (.int .i64 c.strike) := by rw [cell_of_block hc2]; rfl
    have z3 : w2.cell? ⟨qc, 3, none⟩ = some (.int .i64 c.right) := by rw [cell_of_block hc2]; rfl
    go_wp2_with fail
    refine (compare_any b c w2).mono ?_
    rintro e w3 ⟨rfl, k3⟩
    have ha3 := keptBlk k3 ha2
    have hc3 := keptBlk k3 hc2
    have hk3 := hk2.trans k3
    clear ha2 hb2 hc2 hk2 k3 x0 x1 x2 x3 y0 y1 y2 y3 z0 z1 z2 z3
    have x0 : w3.cell? ⟨qa, 0, none⟩ = some (.string a.cls) := by rw [cell_of_block ha3]; rfl
    have x1 : w3.cell? ⟨qa, 1, none⟩ = some (.int .i64 a.exp) := by rw [cell_of_block ha3]; rfl
    have x2 : w3.cell? ⟨qa, 2, none⟩ = some (.int .i64 a.strike) := by rw [cell_of_block ha3]; rfl
    have x3 : w3.cell? ⟨qa, 3, none⟩ = some (.int .i64 a.right) := by rw [cell_of_block ha3]; rfl
    have z0 : w3.cell? ⟨qc, 0, none⟩ = some (.string c.cls) := by rw [cell_of_block hc3]; rfl
    have z1 : w3.cell? ⟨qc, 1, none⟩ = some (.int .i64 c.exp) := by rw [cell_of_block hc3]; rfl
    have z2 : w3.cell? ⟨qc, 2, none⟩ = some (.int .i64 c.strike) := by rw [cell_of_block hc3]; rfl
    have z3 : w3.cell? ⟨qc, 3, none⟩ = some (.int .i64 c.right) := by rw [cell_of_block hc3]; rfl
    go_wp2_with fail
    refine (compare_any a c w3).mono ?_
    rintro e w4 ⟨rfl, k4⟩
    have hk4 := hk3.trans k4
    clear ha3 hc3 hk3 k4 x0 x1 x2 x3 z0 z1 z2 z3
    have ht := three_law a b c
    have v1 := cmpSr_vals a b
    have v2 := cmpSr_vals b c
    have v3 := cmpSr_vals a c
    generalize cmpSr a b = X at ht v1 ⊢
    generalize cmpSr b c = Y at ht v2 ⊢
    generalize cmpSr a c = Z at ht v3 ⊢
    rcases v1 with rfl | rfl | rfl <;> rcases v2 with rfl | rfl | rfl <;> rcases v3 with rfl | rfl | rfl
    all_goals first
      | (exfalso; omega)
      | (clear ht
         go_wp2
         go_ret
         exact ⟨rfl, hk4⟩)
end Go.Proofs.YtjapcnahfbipeaaDoor
