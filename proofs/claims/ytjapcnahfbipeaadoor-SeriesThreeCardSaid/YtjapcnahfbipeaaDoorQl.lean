/- The walk of 'SeriesTwo'. -/
import Derived.Test.YtjapcnahfbipeaaDoorQk
namespace Go.Proofs.YtjapcnahfbipeaaDoor
open Go Go.RowKit

theorem check_ref' {s : Sr} (hs : (s.cls.size : Int) ≤ 50) (w : World) : Calls Tryd.prog 7 #[.agg #[.string s.cls, .int .i64 s.exp, .int .i64 s.strike, .int .i64 s.right]] w fun e w' => e = .returned (.tuple #[.int .i64 (chk s).2, .int .i64 (chk s).1]) ∧ Kept (fun _ => False) w w' :=
  (check_ref s w (by omega)).mono fun _ _ h => ⟨h.1, kb h.2⟩
set_option maxHeartbeats 4000000 in
set_option maxRecDepth 100000 in
theorem seriesTwo_walk (a b : Sr) (w : World) (hL : Laid w) (m : Int) (hm : w.cell? ⟨0, 0, none⟩ = some (.int .i64 m)) : Calls Tryd.prog 3 #[.agg #[.string a.cls, .int .i64 a.exp, .int .i64 a.strike, .int .i64 a.right], .agg #[.string b.cls, .int .i64 b.exp, .int .i64 b.strike, .int .i64 b.right]] w (KnownPost w) := by
  have ha : ((w.alloc (.cells #[.string a.cls, .int .i64 a.exp, .int .i64 a.strike, .int .i64 a.right] 23)).alloc (.cells #[.string b.cls, .int .i64 b.exp, .int .i64 b.strike, .int .i64 b.right] 23)).heap[w.heap.size]? = some (boxS a 23) := block_alloc (block_nw _ _)
  have hb : ((w.alloc (.cells #[.string a.cls, .int .i64 a.exp, .int .i64 a.strike, .int .i64 a.right] 23)).alloc (.cells #[.string b.cls, .int .i64 b.exp, .int .i64 b.strike, .int .i64 b.right] 23)).heap[w.heap.size + 1]? = some (boxS b 23) := block_at (by simp)
  have hk : Kept (fun _ => False) w ((w.alloc (.cells #[.string a.cls, .int .i64 a.exp, .int .i64 a.strike, .int .i64 a.right] 23)).alloc (.cells #[.string b.cls, .int .i64 b.exp, .int .i64 b.strike, .int .i64 b.right] 23)) := ((Kept.refl _ _).alloc _).alloc _
  have Hm := Lib.hid hm
  have HL := Lib.hid hL
  clear hL hm
  go_enter Tryd.func3, Tryd.ntmps3
  go_upto_region 1 with fail
  generalize w.heap.size + 1 = qb at hb ⊢
  generalize w.heap.size = qa at ha ⊢
  generalize ((w.alloc (.cells #[.string a.cls, .int .i64 a.exp, .int .i64 a.strike, .int .i64 a.right] 23)).alloc (.cells #[.string b.cls, .int .i64 b.exp, .int .i64 b.strike, .int .i64 b.right] 23)) = w0 at ha hb hk ⊢
  go_wp2_with fail
  refine (known_any w0 (HL.out.on (bk hk)) m (sint_on hk Hm.out)).mono ?_
  rintro e w1 ⟨rfl, k1⟩
  have ha1 := keptBlk k1 ha
  have hb1 := keptBlk k1 hb
  have hk1 := hk.trans k1
  clear ha hb hk k1
  have x0 : w1.cell? ⟨qa, 0, none⟩ = some (.string a.cls) := by rw [cell_of_block ha1]; rfl
  have x1 : w1.cell? ⟨qa, 1, none⟩ = some (.int .i64 a.exp) := by rw [cell_of_block ha1]; rfl
  have x2 : w1.cell? ⟨qa, 2, none⟩ = some (.int .i64 a.strike) := by rw [cell_of_block ha1]; rfl
  have x3 : w1.cell? ⟨qa, 3, none⟩ = some (.int .i64 a.right) := by rw [cell_of_block ha1]; rfl
  have y0 : w1.cell? ⟨qb, 0, none⟩ = some (.string b.cls) := by rw [cell_of_block hb1]; rfl
  have y1 : w1.cell? ⟨qb, 1, none⟩ = some (.int .i64 b.exp) := by rw [cell_of_block hb1]; rfl
  have y2 : w1.cell? ⟨qb, 2, none⟩ = some (.int .i64 b.strike) := by rw [cell_of_block hb1]; rfl
  have y3 : w1.cell? ⟨qb, 3, none⟩ = some (.int .i64 b.right) := by rw [cell_of_block hb1]; rfl
  have hl : ((50 : Int) < a.cls.size) ∨ ((a.cls.size : Int) ≤ 50 ∧ (50 : Int) < b.cls.size) ∨ ((a.cls.size : Int) ≤ 50 ∧ (b.cls.size : Int) ≤ 50) := by omega
  rcases hl with g | ⟨g, g2⟩ | ⟨g, g2⟩
  · go_wp2
    go_ret
    exact ⟨rfl, hk1⟩
  · go_wp2
    go_ret
    exact ⟨rfl, hk1⟩
  · go_wp2_with fail
    refine (of_any a w1).mono ?_
    rintro e w2 ⟨rfl, k2⟩
    have ha2 := keptBlk k2 ha1
    have hb2 := keptBlk k2 hb1
    have hk2 := hk1.trans k2
    have G := Lib.hid g
    have G2 := Lib.hid g2
    clear ha1 hb1 hk1 k2 x0 x1 x2 x3 y0 y1 y2 y3 g g2
    go_wp2_with fail
    refine (check_ref' G.out w2).mono ?_
    rintro e w3 ⟨rfl, k3⟩
    have ha3 := keptBlk k3 ha2
    have hb3 := keptBlk k3 hb2
    have hk3 := hk2.trans k3
    clear ha2 hb2 hk2 k3
    have x0 : w3.cell? ⟨qa, 0, none⟩ = some (.string a.cls) := by rw [cell_of_block ha3]; rfl
    have x1 : w3.cell? ⟨qa, 1, none⟩ = some (.int .i64 a.exp) := by rw [cell_of_block ha3]; rfl
    have x2 : w3.cell? ⟨qa, 2, none⟩ = some (.int .i64 a.strike) := by rw [cell_of_block ha3]; rfl
    have x3 : w3.cell? ⟨qa, 3, none⟩ = some (.int .i64 a.right) := by rw [cell_of_block ha3]; rfl
    have y0 : w3.cell? ⟨qb, 0, none⟩ = some (.string b.cls) := by rw [cell_of_block hb3]; rfl
    have y1 : w3.cell? ⟨qb, 1, none⟩ = some (.int .i64 b.exp) := by rw [cell_of_block hb3]; rfl
    have y2 : w3.cell? ⟨qb, 2, none⟩ = some (.int .i64 b.strike) := by rw [cell_of_block hb3]; rfl
    have y3 : w3.cell? ⟨qb, 3, none⟩ = some (.int .i64 b.right) := by rw [cell_of_block hb3]; rfl
    go_wp2_with fail
    refine (compare_any a b w3).mono ?_
    rintro e w4 ⟨rfl, k4⟩
    have ha4 := keptBlk k4 ha3
    have hb4 := keptBlk k4 hb3
    have hk4 := hk3.trans k4
    clear ha3 hb3 hk3 k4 x0 x1 x2 x3 y0 y1 y2 y3
    obtain ⟨cv, hcv⟩ : ∃ cv, (chk a).2 = cv := ⟨_, rfl⟩
    obtain ⟨gv, hgv⟩ : ∃ gv, goodB a.cls.data.toList = gv := ⟨_, rfl⟩
    rw [hcv]
    have Hcv := Lib.hid hcv
    have Hgv := Lib.hid hgv
    have hsz : Hid (a.cls.size ≤ 50) := by have := G.out; show _ ≤ _; omega
    clear hcv hgv
    have hcc := cmp_cases a b
    go_wp2_with fail
    rcases hcc with ⟨rfl, hC⟩ | ⟨hC | hC, hE⟩
    · have HC := Lib.hid hC
      clear hC
      rw [show cmpSr a a = 0 from HC.out.ab]
      have u0 : w4.cell? ⟨qa, 0, none⟩ = some (.string a.cls) := by rw [cell_of_block ha4]; rfl
      have u1 : w4.cell? ⟨qa, 1, none⟩ = some (.int .i64 a.exp) := by rw [cell_of_block ha4]; rfl
      have u2 : w4.cell? ⟨qa, 2, none⟩ = some (.int .i64 a.strike) := by rw [cell_of_block ha4]; rfl
      have u3 : w4.cell? ⟨qa, 3, none⟩ = some (.int .i64 a.right) := by rw [cell_of_block ha4]; rfl
      have v0 : w4.cell? ⟨qb, 0, none⟩ = some (.string a.cls) := by rw [cell_of_block hb4]; rfl
      have v1 : w4.cell? ⟨qb, 1, none⟩ = some (.int .i64 a.exp) := by rw [cell_of_block hb4]; rfl
      have v2 : w4.cell? ⟨qb, 2, none⟩ = some (.int .i64 a.strike) := by rw [cell_of_block hb4]; rfl
      have v3 : w4.cell? ⟨qb, 3, none⟩ = some (.int .i64 a.right) := by rw [cell_of_block hb4]; rfl
      have x0 := fun y : KW w4 => KW.cell u0 y
      have y0 := fun y : KW w4 => KW.cell v0 y
      have x1 := fun y : KW w4 => KW.cell u1 y
      have y1 := fun y : KW w4 => KW.cell v1 y
      have x2 := fun y : KW w4 => KW.cell u2 y
      have y2 := fun y : KW w4 => KW.cell v2 y
      have x3 := fun y : KW w4 => KW.cell u3 y
      have y3 := fun y : KW w4 => KW.cell v3 y
      clear u0 v0 u1 v1 u2 v2 u3 v3 ha4 hb4
      refine wp_region_kept (by kernel_rfl) (by kernel_rfl) ?_
      repeat (go_big_quiet_step (first | with_reducible exact check_kw hsz.out Hcv.out _ | with_reducible exact good_kw hsz.out Hgv.out _ | with_reducible exact gref_kw hsz.out Hgv.out _ | with_reducible exact of_kw _ _ | with_reducible exact cmp_kw HC.out.ba _ | with_reducible exact rcmp_kw HC.out.ab _))
      refine wpQuiet_nil ?_
      intro _ hw'
      obtain ⟨y, rfl⟩ := hw'
      have hky := hk4.trans y.kept
      generalize y.w = wy at hky ⊢
      clear x0 x1 x2 x3 y0 y1 y2 y3
      go_wp2
      go_ret
      exact ⟨rfl, hky⟩
    all_goals
      have HC := Lib.hid hC
      clear hC
      rw [HC.out.ab]
      have u0 : w4.cell? ⟨qa, 0, none⟩ = some (.string a.cls) := by rw [cell_of_block ha4]; rfl
      have u1 : w4.cell? ⟨qa, 1, none⟩ = some (.int .i64 a.exp) := by rw [cell_of_block ha4]; rfl
      have u2 : w4.cell? ⟨qa, 2, none⟩ = some (.int .i64 a.strike) := by rw [cell_of_block ha4]; rfl
      have u3 : w4.cell? ⟨qa, 3, none⟩ = some (.int .i64 a.right) := by rw [cell_of_block ha4]; rfl
      have v0 : w4.cell? ⟨qb, 0, none⟩ = some (.string b.cls) := by rw [cell_of_block hb4]; rfl
      have v1 : w4.cell? ⟨qb, 1, none⟩ = some (.int .i64 b.exp) := by rw [cell_of_block hb4]; rfl
      have v2 : w4.cell? ⟨qb, 2, none⟩ = some (.int .i64 b.strike) := by rw [cell_of_block hb4]; rfl
      have v3 : w4.cell? ⟨qb, 3, none⟩ = some (.int .i64 b.right) := by rw [cell_of_block hb4]; rfl
      rcases hE with hE | ⟨hE, hE2⟩ | ⟨hE, hE2, hE3⟩ | ⟨hE, hE2, hE3, hE4⟩
      all_goals
        have x0 := fun y : KW w4 => KW.cell u0 y
        have y0 := fun y : KW w4 => KW.cell v0 y
        have x1 := fun y : KW w4 => KW.cell u1 y
        have y1 := fun y : KW w4 => KW.cell v1 y
        have x2 := fun y : KW w4 => KW.cell u2 y
        have y2 := fun y : KW w4 => KW.cell v2 y
        have x3 := fun y : KW w4 => KW.cell u3 y
        have y3 := fun y : KW w4 => KW.cell v3 y
        clear u0 v0 u1 v1 u2 v2 u3 v3 ha4 hb4
        refine wp_region_kept (by kernel_rfl) (by kernel_rfl) ?_
        repeat (go_big_quiet_step (first | with_reducible exact check_kw hsz.out Hcv.out _ | with_reducible exact good_kw hsz.out Hgv.out _ | with_reducible exact gref_kw hsz.out Hgv.out _ | with_reducible exact of_kw _ _ | with_reducible exact cmp_kw HC.out.ba _ | with_reducible exact rcmp_kw HC.out.ab _))
        refine wpQuiet_nil ?_
        intro _ hw'
        obtain ⟨y, rfl⟩ := hw'
        have hky := hk4.trans y.kept
        generalize y.w = wy at hky ⊢
        clear x0 x1 x2 x3 y0 y1 y2 y3
        go_wp2
        go_ret
        exact ⟨rfl, hky⟩
end Go.Proofs.YtjapcnahfbipeaaDoor
