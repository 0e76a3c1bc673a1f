/- Series: a series in words; the known cases. -/
import Derived.Test.YtjapcnahfbipeaaDoorQg
import Derived.Laws.StructEq
namespace Go.Proofs.YtjapcnahfbipeaaDoor
open Go Go.RowKit

theorem it20 : Lib.itoa 20 = [50, 48] := by simp [Lib.itoa, Lib.decDigits]
theorem it100 : Lib.itoa 100 = [49, 48, 48] := by simp [Lib.itoa, Lib.decDigits]
theorem text20 (w : World) (hL : Laid w) : Calls Tryd.prog 25 #[.int .i64 20] w fun e w' => e = .returned (.string ⟨#[50, 48]⟩) ∧ Kept (fun _ => False) w w' := by
  have := text_num 20 ⟨by decide, by decide⟩ w hL
  rw [it20] at this
  exact this.mono fun _ _ h => ⟨h.1, kb h.2⟩
theorem text100 (w : World) (hL : Laid w) : Calls Tryd.prog 25 #[.int .i64 100] w fun e w' => e = .returned (.string ⟨#[49, 48, 48]⟩) ∧ Kept (fun _ => False) w w' := by
  have := text_num 100 ⟨by decide, by decide⟩ w hL
  rw [it100] at this
  exact this.mono fun _ _ h => ⟨h.1, kb h.2⟩
theorem text20_kw {w : World} (hL : Laid w) (x : KW w) : Calls Tryd.prog 25 #[.int .i64 20] x.w fun e w'' => e = .returned (.string ⟨#[50, 48]⟩) ∧ ∃ y : KW w, w'' = y.w := Calls.kw (text20 x.w (hL.on (bk x.kept)))
theorem text100_kw {w : World} (hL : Laid w) (x : KW w) : Calls Tryd.prog 25 #[.int .i64 100] x.w fun e w'' => e = .returned (.string ⟨#[49, 48, 48]⟩) ∧ ∃ y : KW w, w'' = y.w := Calls.kw (text100 x.w (hL.on (bk x.kept)))
theorem ret_str {a b : ByteArray} (h : a = b) : Ending.returned (.string a) = .returned (.string b) := by rw [h]
def TxPost (w : World) (e : Ending) (w' : World) : Prop := e = .returned (.string ⟨#[65, 66, 32, 50, 48, 32, 67, 32, 49, 48, 48]⟩) ∧ Kept (fun _ => False) w w'
set_option maxHeartbeats 2000000 in
set_option maxRecDepth 100000 in
theorem text_AB (w : World) (hL : Laid w) : Calls Tryd.prog 15 #[.agg #[.string ⟨#[65, 66]⟩, .int .i64 20, .int .i64 100, .int .i64 1]] w (TxPost w) := by
  have hq : (w.alloc (.cells #[.string ⟨#[65, 66]⟩, .int .i64 20, .int .i64 100, .int .i64 1] 23)).heap[w.heap.size]? = some (.cells #[.string ⟨#[65, 66]⟩, .int .i64 20, .int .i64 100, .int .i64 1] 23 (0, 0)) := block_nw _ _
  have hk : Kept (fun _ => False) w (w.alloc (.cells #[.string ⟨#[65, 66]⟩, .int .i64 20, .int .i64 100, .int .i64 1] 23)) := (Kept.refl _ _).alloc _
  go_enter Tryd.func15, Tryd.ntmps15
  go_upto_region 1 with fail
  generalize w.heap.size = q at hq ⊢
  generalize w.alloc (.cells #[.string ⟨#[65, 66]⟩, .int .i64 20, .int .i64 100, .int .i64 1] 23) = w0 at hq hk ⊢
  have hL0 := hL.on (bk hk)
  have HL0 := Lib.hid hL0
  have c3 : w0.cell? ⟨q, 3, none⟩ = some (.int .i64 1) := by rw [cell_of_block hq]; rfl
  clear hL hL0
  go_upto_region 4 with fail
  have c0 := fun y : KW w0 => KW.cell (show w0.cell? ⟨q, 0, none⟩ = some (.string ⟨#[65, 66]⟩) by rw [cell_of_block hq]; rfl) y
  have c1 := fun y : KW w0 => KW.cell (show w0.cell? ⟨q, 1, none⟩ = some (.int .i64 20) by rw [cell_of_block hq]; rfl) y
  have c2 := fun y : KW w0 => KW.cell (show w0.cell? ⟨q, 2, none⟩ = some (.int .i64 100) by rw [cell_of_block hq]; rfl) y
  clear c3 hq
  refine wp_region_kept (by kernel_rfl) (by kernel_rfl) ?_
  repeat (go_big_quiet_step (first | with_reducible exact text20_kw HL0.out _ | with_reducible exact text100_kw HL0.out _))
  refine wpQuiet_nil ?_
  intro _ hw'
  obtain ⟨y, rfl⟩ := hw'
  have hky := hk.trans y.kept
  generalize y.w = wy at hky ⊢
  clear c0 c1 c2
  go_wp2
  go_ret
  exact ⟨ret_str (by kernel_rfl), hky⟩

theorem sint_on {w w' : World} {m : Int} (k : Kept (fun _ => False) w w') (hm : w.cell? ⟨0, 0, none⟩ = some (.int .i64 m)) : w'.cell? ⟨0, 0, none⟩ = some (.int .i64 m) := by
  rw [World.cell?_of_block (a := ⟨0, 0, none⟩) (w := w) (k.block 0 (World.block_lt_of_cell? _ _ hm) (fun h => h))]; exact hm
theorem gA1 : goodB [65, 49] = true := by decide
theorem g1A : goodB [49, 65] = false := by decide
theorem cAB : cmpSr sAB sAB = 0 := by simp [cmpSr, cmpS, bl_irrefl, cmpN, firstNZ]
def KnownPost (w : World) (e : Ending) (w' : World) : Prop := e = .returned (.bool true) ∧ Kept (fun _ => False) w w'
set_option maxHeartbeats 4000000 in
set_option maxRecDepth 100000 in
theorem known_any (w : World) (hL : Laid w) (m : Int) (hm : w.cell? ⟨0, 0, none⟩ = some (.int .i64 m)) : Calls Tryd.prog 6 #[] w (KnownPost w) := by
  have hq : (w.alloc (.cells #[.string ⟨#[65, 66]⟩, .int .i64 20, .int .i64 100, .int .i64 1] 23)).heap[w.heap.size]? = some (.cells #[.string ⟨#[65, 66]⟩, .int .i64 20, .int .i64 100, .int .i64 1] 23 (0, 0)) := block_nw _ _
  have hk : Kept (fun _ => False) w (w.alloc (.cells #[.string ⟨#[65, 66]⟩, .int .i64 20, .int .i64 100, .int .i64 1] 23)) := (Kept.refl _ _).alloc _
  have Hm := Lib.hid hm
  have HL := Lib.hid hL
  clear hL hm
  go_enter Tryd.func6, Tryd.ntmps6
  go_upto_region 2 with fail
  generalize w.heap.size = sq at hq ⊢
  generalize w.alloc (.cells #[.string ⟨#[65, 66]⟩, .int .i64 20, .int .i64 100, .int .i64 1] 23) = w0 at hq hk ⊢
  go_wp2_with fail
  refine (parse_1 w0 (HL.out.on (bk hk)) m (sint_on hk Hm.out)).mono ?_
  rintro e w1 ⟨rfl, k1⟩
  have hq1 := keptBlk k1 hq
  have hk1 := hk.trans k1
  clear hq hk k1
  go_upto_region 3 with fail
  have hx2 : (w1.alloc (.cells #[.string ⟨#[65, 66]⟩, .int .i64 20, .int .i64 100, .int .i64 1] 23)).heap[w1.heap.size]? = some (.cells #[.string ⟨#[65, 66]⟩, .int .i64 20, .int .i64 100, .int .i64 1] 23 (0, 0)) := block_nw _ _
  have hq2 : (w1.alloc (.cells #[.string ⟨#[65, 66]⟩, .int .i64 20, .int .i64 100, .int .i64 1] 23)).heap[sq]? = some (.cells #[.string ⟨#[65, 66]⟩, .int .i64 20, .int .i64 100, .int .i64 1] 23 (0, 0)) := block_alloc hq1
  have hk2 := hk1.alloc (.cells #[.string ⟨#[65, 66]⟩, .int .i64 20, .int .i64 100, .int .i64 1] 23)
  generalize w1.heap.size = xq at hx2 ⊢
  generalize w1.alloc (.cells #[.string ⟨#[65, 66]⟩, .int .i64 20, .int .i64 100, .int .i64 1] 23) = w2 at hq2 hx2 hk2 ⊢
  clear hq1 hk1
  go_wp2_with fail
  refine (parse_2 w2 (HL.out.on (bk hk2)) m (sint_on hk2 Hm.out)).mono ?_
  rintro e w3 ⟨⟨fa, rfl⟩, k3⟩
  have hq3 := keptBlk k3 hq2
  have hx3 := keptBlk k3 hx2
  have hk3 := hk2.trans k3
  clear hq2 hx2 hk2 k3
  go_upto_region 4 with fail
  have hq4 : (w3.alloc (.cells #[.string ⟨#[]⟩, .int .i64 0, .int .i64 0, .int .i64 0] 23)).heap[sq]? = some (.cells #[.string ⟨#[65, 66]⟩, .int .i64 20, .int .i64 100, .int .i64 1] 23 (0, 0)) := block_alloc hq3
  have hx4 : (w3.alloc (.cells #[.string ⟨#[]⟩, .int .i64 0, .int .i64 0, .int .i64 0] 23)).heap[xq]? = some (.cells #[.string ⟨#[65, 66]⟩, .int .i64 20, .int .i64 100, .int .i64 1] 23 (0, 0)) := block_alloc hx3
  have hk4 := hk3.alloc (.cells #[.string ⟨#[]⟩, .int .i64 0, .int .i64 0, .int .i64 0] 23)
  generalize w3.alloc (.cells #[.string ⟨#[]⟩, .int .i64 0, .int .i64 0, .int .i64 0] 23) = w4'' at hq4 hx4 hk4 ⊢
  clear hq3 hx3 hk3
  have c0 : w4''.cell? ⟨sq, 0, none⟩ = some (.string ⟨#[65, 66]⟩) := by rw [cell_of_block hq4]; rfl
  have c1 : w4''.cell? ⟨sq, 1, none⟩ = some (.int .i64 20) := by rw [cell_of_block hq4]; rfl
  have c2 : w4''.cell? ⟨sq, 2, none⟩ = some (.int .i64 100) := by rw [cell_of_block hq4]; rfl
  have c3 : w4''.cell? ⟨sq, 3, none⟩ = some (.int .i64 1) := by rw [cell_of_block hq4]; rfl
  go_wp2_with fail
  refine (check_any sAB w4'' (by decide)).mono ?_
  rintro e w5 ⟨rfl, k5⟩
  have hq5 := keptBlk (kb k5) hq4
  have hx5 := keptBlk (kb k5) hx4
  have hk5 := hk4.trans (kb k5)
  rw [chkAB]
  clear hq4 hx4 hk4 k5 c0 c1 c2 c3
  have c0 : w5.cell? ⟨sq, 0, none⟩ = some (.string ⟨#[65, 66]⟩) := by rw [cell_of_block hq5]; rfl
  have c1 : w5.cell? ⟨sq, 1, none⟩ = some (.int .i64 20) := by rw [cell_of_block hq5]; rfl
  have c2 : w5.cell? ⟨sq, 2, none⟩ = some (.int .i64 100) := by rw [cell_of_block hq5]; rfl
  have c3 : w5.cell? ⟨sq, 3, none⟩ = some (.int .i64 1) := by rw [cell_of_block hq5]; rfl
  go_wp2_with fail
  refine (text_AB w5 (HL.out.on (bk hk5))).mono ?_
  rintro e w6 ⟨rfl, k6⟩
  have hq6 := keptBlk k6 hq5
  have hx6 := keptBlk k6 hx5
  have hk6 := hk5.trans k6
  clear hq5 hx5 hk5 k6 c0 c1 c2 c3
  have c0 : w6.cell? ⟨sq, 0, none⟩ = some (.string ⟨#[65, 66]⟩) := by rw [cell_of_block hq6]; rfl
  have c1 : w6.cell? ⟨sq, 1, none⟩ = some (.int .i64 20) := by rw [cell_of_block hq6]; rfl
  have c2 : w6.cell? ⟨sq, 2, none⟩ = some (.int .i64 100) := by rw [cell_of_block hq6]; rfl
  have c3 : w6.cell? ⟨sq, 3, none⟩ = some (.int .i64 1) := by rw [cell_of_block hq6]; rfl
  have d0 : w6.cell? ⟨xq, 0, none⟩ = some (.string ⟨#[65, 66]⟩) := by rw [cell_of_block hx6]; rfl
  have d1 : w6.cell? ⟨xq, 1, none⟩ = some (.int .i64 20) := by rw [cell_of_block hx6]; rfl
  have d2 : w6.cell? ⟨xq, 2, none⟩ = some (.int .i64 100) := by rw [cell_of_block hx6]; rfl
  have d3 : w6.cell? ⟨xq, 3, none⟩ = some (.int .i64 1) := by rw [cell_of_block hx6]; rfl
  go_wp2_with fail
  refine (good_any ⟨#[65, 49]⟩ w6 (by decide)).mono ?_
  rintro e w7 ⟨rfl, k7⟩
  have hq7 := keptBlk (kb k7) hq6
  have hk7 := hk6.trans (kb k7)
  rw [show goodB (ByteArray.data ⟨#[65, 49]⟩).toList = true from gA1]
  clear hq6 hx6 hk6 k7 c0 c1 c2 c3 d0 d1 d2 d3
  go_wp2_with fail
  refine (good_any ⟨#[49, 65]⟩ w7 (by decide)).mono ?_
  rintro e w8 ⟨rfl, k8⟩
  have hq8 := keptBlk (kb k8) hq7
  have hk8 := hk7.trans (kb k8)
  rw [show goodB (ByteArray.data ⟨#[49, 65]⟩).toList = false from g1A]
  clear hq7 hk7 k8
  have c0 : w8.cell? ⟨sq, 0, none⟩ = some (.string ⟨#[65, 66]⟩) := by rw [cell_of_block hq8]; rfl
  have c1 : w8.cell? ⟨sq, 1, none⟩ = some (.int .i64 20) := by rw [cell_of_block hq8]; rfl
  have c2 : w8.cell? ⟨sq, 2, none⟩ = some (.int .i64 100) := by rw [cell_of_block hq8]; rfl
  have c3 : w8.cell? ⟨sq, 3, none⟩ = some (.int .i64 1) := by rw [cell_of_block hq8]; rfl
  go_wp2_with fail
  refine (compare_any sAB sAB w8).mono ?_
  rintro e w9 ⟨rfl, k9⟩
  have hk9 := hk8.trans k9
  rw [cAB]
  go_wp2_with fail
  go_ret
  exact ⟨rfl, hk9⟩
end Go.Proofs.YtjapcnahfbipeaaDoor
