/- Series: a text as a series, at the known texts; a series in words. -/
import Derived.Test.YtjapcnahfbipeaaDoorQf
namespace Go.Proofs.YtjapcnahfbipeaaDoor
open Go Go.RowKit

theorem kb {w w' : World} (h : Below w.heap.size w w') : Kept (fun _ => False) w w' := Kept.of_below h
theorem bk {w w' : World} (h : Kept (fun _ => False) w w') : Below w.heap.size w w' := h.below (Nat.le_refl _) (fun _ h => h.elim)
def FaPost (w : World) (e : Ending) (w' : World) : Prop := (∃ a, e = .returned (.iface 61 (.pointer (some a)))) ∧ Kept (fun _ => False) w w'
theorem fault_any (n k : Int) (w : World) : Calls Tryd.prog 22 #[.int .i64 n, .iface 30 (.int .i64 k)] w (FaPost w) := by
  go_enter Tryd.func22, Tryd.ntmps22
  go_wp2
  go_ret
  exact ⟨⟨_, rfl⟩, (Kept.refl _ _).alloc _⟩
theorem right_c (w : World) : Calls Tryd.prog 24 #[.string ⟨#[67]⟩] w fun e w' => w = w' ∧ e = .returned (.tuple #[.int .i64 1, .int .i64 0]) := by
  go_enter Tryd.func24, Tryd.ntmps24
  go_wp2
  go_ret2
  exact ⟨rfl, rfl⟩
theorem right_x (w : World) : Calls Tryd.prog 24 #[.string ⟨#[88]⟩] w fun e w' => w = w' ∧ e = .returned (.tuple #[.int .i64 0, .int .i64 2]) := by
  go_enter Tryd.func24, Tryd.ntmps24
  go_wp2
  go_ret2
  exact ⟨rfl, rfl⟩
theorem count1 : Lib.countB ⟨#[65, 66, 32, 50, 48, 32, 67, 32, 49, 48, 48]⟩ ⟨#[32]⟩ = 3 := by kernel_rfl
theorem count2 : Lib.countB ⟨#[65, 66, 32, 50, 48, 32, 88, 32, 49, 48, 48]⟩ ⟨#[32]⟩ = 3 := by kernel_rfl
theorem split1 : (Lib.splitB ⟨#[32]⟩ 0 3 ⟨#[65, 66, 32, 50, 48, 32, 67, 32, 49, 48, 48]⟩).map Value.string = [.string ⟨#[65, 66]⟩, .string ⟨#[50, 48]⟩, .string ⟨#[67]⟩, .string ⟨#[49, 48, 48]⟩] := by kernel_rfl
theorem split2 : (Lib.splitB ⟨#[32]⟩ 0 3 ⟨#[65, 66, 32, 50, 48, 32, 88, 32, 49, 48, 48]⟩).map Value.string = [.string ⟨#[65, 66]⟩, .string ⟨#[50, 48]⟩, .string ⟨#[88]⟩, .string ⟨#[49, 48, 48]⟩] := by kernel_rfl
def w4 (c : UInt8) : List Value := [.string ⟨#[65, 66]⟩, .string ⟨#[50, 48]⟩, .string ⟨#[c]⟩, .string ⟨#[49, 48, 48]⟩]
theorem split_1 (w : World) (m : Int) (hm : w.cell? ⟨0, 0, none⟩ = some (.int .i64 m)) : Calls Tryd.prog 21 #[.string ⟨#[65, 66, 32, 50, 48, 32, 67, 32, 49, 48, 48]⟩, .string ⟨#[32]⟩] w fun e w' => e = .returned (.slice (some ⟨w.heap.size, 0, none⟩) 4 4) ∧ w' = w.alloc (.cells (w4 67).toArray 9) := by
  have := Tryd.strings_Split ⟨#[65, 66, 32, 50, 48, 32, 67, 32, 49, 48, 48]⟩ ⟨#[32]⟩ m w (by decide) hm (by decide)
  rw [count1, split1] at this
  exact this
theorem split_2 (w : World) (m : Int) (hm : w.cell? ⟨0, 0, none⟩ = some (.int .i64 m)) : Calls Tryd.prog 21 #[.string ⟨#[65, 66, 32, 50, 48, 32, 88, 32, 49, 48, 48]⟩, .string ⟨#[32]⟩] w fun e w' => e = .returned (.slice (some ⟨w.heap.size, 0, none⟩) 4 4) ∧ w' = w.alloc (.cells (w4 88).toArray 9) := by
  have := Tryd.strings_Split ⟨#[65, 66, 32, 50, 48, 32, 88, 32, 49, 48, 48]⟩ ⟨#[32]⟩ m w (by decide) hm (by decide)
  rw [count2, split2] at this
  exact this
theorem num20 (w : World) (hL : Laid w) : Calls Tryd.prog 23 #[.string ⟨#[50, 48]⟩] w fun e w' => e = .returned (.tuple #[.int .i64 20, .int .i64 0]) ∧ Kept (fun _ => False) w w' := (parse_num ⟨#[50, 48]⟩ w (by decide) hL.sents).mono fun _ _ h => ⟨h.1, kb h.2⟩
theorem num100 (w : World) (hL : Laid w) : Calls Tryd.prog 23 #[.string ⟨#[49, 48, 48]⟩] w fun e w' => e = .returned (.tuple #[.int .i64 100, .int .i64 0]) ∧ Kept (fun _ => False) w w' := (parse_num ⟨#[49, 48, 48]⟩ w (by decide) hL.sents).mono fun _ _ h => ⟨h.1, kb h.2⟩

def sAB : Sr := ⟨⟨#[65, 66]⟩, 20, 100, 1⟩
theorem chkAB : chk sAB = (0, 0) := by decide
theorem keptBlk {w w' : World} {b : Nat} {o : Obj} (k : Kept (fun _ => False) w w') (h : w.heap[b]? = some o) : w'.heap[b]? = some o := (k.block b (lt_of_block h) (fun h => h)).trans h
theorem put4_law {w : World} {n : Nat} {T : TypeId} {u0 u1 u2 u3 : Value} (hb : w.heap[n]? = some (.cells #[u0, u1, u2, u3] T (0, 0))) (v0 v1 v2 v3 : Value) :
    ((((w.setCell ⟨n, 0, none⟩ v0).setCell ⟨n, 1, none⟩ v1).setCell ⟨n, 2, none⟩ v2).setCell ⟨n, 3, none⟩ v3).heap[n]? = some (.cells #[v0, v1, v2, v3] T (0, 0)) ∧
    Kept (fun i => i = n) w ((((w.setCell ⟨n, 0, none⟩ v0).setCell ⟨n, 1, none⟩ v1).setCell ⟨n, 2, none⟩ v2).setCell ⟨n, 3, none⟩ v3) := by
  constructor
  · rw [block_setCell (block_setCell (block_setCell (block_setCell hb 0 _) 1 _) 2 _) 3 _]; rfl
  · refine Kept.setCell (F := fun i => i = n) ?_ (fun _ => rfl) _
    refine Kept.setCell (F := fun i => i = n) ?_ (fun _ => rfl) _
    refine Kept.setCell (F := fun i => i = n) ?_ (fun _ => rfl) _
    exact Kept.setCell (F := fun i => i = n) (Kept.refl _ _) (fun _ => rfl) _
def PaPost (v1 v2 : Value) (w : World) (e : Ending) (w' : World) : Prop := e = .returned (.tuple #[v1, v2]) ∧ Kept (fun _ => False) w w'
def PxPost (v1 : Value) (w : World) (e : Ending) (w' : World) : Prop := (∃ a, e = .returned (.tuple #[v1, .iface 61 (.pointer (some a))])) ∧ Kept (fun _ => False) w w'

set_option maxHeartbeats 2000000 in
set_option maxRecDepth 100000 in
theorem parse_1 (w : World) (hL : Laid w) (m : Int) (hm : w.cell? ⟨0, 0, none⟩ = some (.int .i64 m)) : Calls Tryd.prog 14 #[.string ⟨#[65, 66, 32, 50, 48, 32, 67, 32, 49, 48, 48]⟩] w (PaPost (.agg #[.string ⟨#[65, 66]⟩, .int .i64 20, .int .i64 100, .int .i64 1]) .nilIface w) := by
  have hm0 : (w.alloc (.cells #[.string ⟨#[]⟩, .int .i64 0, .int .i64 0, .int .i64 0] 23)).cell? ⟨0, 0, none⟩ = some (.int .i64 m) := by
    rw [World.cell?_of_block (w := w) (Below.heap_alloc _ _ _ (World.block_lt_of_cell? _ _ hm))]; exact hm
  have hq : (w.alloc (.cells #[.string ⟨#[]⟩, .int .i64 0, .int .i64 0, .int .i64 0] 23)).heap[w.heap.size]? = some (.cells #[.string ⟨#[]⟩, .int .i64 0, .int .i64 0, .int .i64 0] 23 (0, 0)) := block_nw _ _
  have hk0 : Kept (fun _ => False) w (w.alloc (.cells #[.string ⟨#[]⟩, .int .i64 0, .int .i64 0, .int .i64 0] 23)) := (Kept.refl _ _).alloc _
  have HL := Lib.hid hL
  clear hL hm
  go_enter Tryd.func14, Tryd.ntmps14
  go_wp2_with fail
  generalize hrb : w.heap.size = rb at hq ⊢
  have Hrb := Lib.hid hrb
  clear hrb
  generalize w.alloc (.cells #[.string ⟨#[]⟩, .int .i64 0, .int .i64 0, .int .i64 0] 23) = w0 at hm0 hq hk0 ⊢
  refine (split_1 w0 m hm0).mono ?_
  rintro e w1 ⟨rfl, rfl⟩
  have hx : (w0.alloc (.cells (w4 67).toArray 9)).heap[w0.heap.size]? = some (.cells (w4 67).toArray 9 (0, 0)) := block_nw _ _
  have hq1 : (w0.alloc (.cells (w4 67).toArray 9)).heap[rb]? = some (.cells #[.string ⟨#[]⟩, .int .i64 0, .int .i64 0, .int .i64 0] 23 (0, 0)) := block_alloc hq
  have hk1 := hk0.alloc (.cells (w4 67).toArray 9)
  have hrx : rb < w0.heap.size := lt_of_block hq
  generalize w0.heap.size = xb at hx hrx ⊢
  generalize w0.alloc (.cells (w4 67).toArray 9) = w1 at hx hq1 hk1 ⊢
  clear hm0 hq hk0
  have x0 : w1.cell? ⟨xb, 0, none⟩ = some (.string ⟨#[65, 66]⟩) := by rw [cell_of_block hx]; rfl
  go_upto_region 5 with fail
  have hs2 : (w1.alloc (.cells #[.string ⟨#[65, 66]⟩, .int .i64 0, .int .i64 0, .int .i64 0] 23)).heap[w1.heap.size]? = some (.cells #[.string ⟨#[65, 66]⟩, .int .i64 0, .int .i64 0, .int .i64 0] 23 (0, 0)) := block_nw _ _
  have hx2 : (w1.alloc (.cells #[.string ⟨#[65, 66]⟩, .int .i64 0, .int .i64 0, .int .i64 0] 23)).heap[xb]? = some (.cells (w4 67).toArray 9 (0, 0)) := block_alloc hx
  have hq2 : (w1.alloc (.cells #[.string ⟨#[65, 66]⟩, .int .i64 0, .int .i64 0, .int .i64 0] 23)).heap[rb]? = some (.cells #[.string ⟨#[]⟩, .int .i64 0, .int .i64 0, .int .i64 0] 23 (0, 0)) := block_alloc hq1
  have hk2 := hk1.alloc (.cells #[.string ⟨#[65, 66]⟩, .int .i64 0, .int .i64 0, .int .i64 0] 23)
  have hxs : xb < w1.heap.size := lt_of_block hx
  generalize w1.heap.size = sb at hs2 hxs ⊢
  generalize w1.alloc (.cells #[.string ⟨#[65, 66]⟩, .int .i64 0, .int .i64 0, .int .i64 0] 23) = w2 at hs2 hx2 hq2 hk2 ⊢
  clear hx hq1 hk1 x0
  have x1 : w2.cell? ⟨xb, 1, none⟩ = some (.string ⟨#[50, 48]⟩) := by rw [cell_of_block hx2]; rfl
  go_wp2_with fail
  refine (num20 w2 (HL.out.on (bk hk2))).mono ?_
  rintro e w3 ⟨rfl, k3⟩
  have hs3 := keptBlk k3 hs2
  have hx3 := keptBlk k3 hx2
  have hq3 := keptBlk k3 hq2
  have hk3 := hk2.trans k3
  clear hs2 hx2 hq2 hk2 k3 x1
  have s1 : w3.cell? ⟨sb, 1, none⟩ = some (.int .i64 0) := by rw [cell_of_block hs3]; rfl
  have f1 := free_of_block hs3 1
  go_upto_region 7 with fail
  have hs4 : (w3.setCell ⟨sb, 1, none⟩ (.int .i64 20)).heap[sb]? = some (.cells #[.string ⟨#[65, 66]⟩, .int .i64 20, .int .i64 0, .int .i64 0] 23 (0, 0)) := by rw [block_setCell hs3]; rfl
  have hx4 : (w3.setCell ⟨sb, 1, none⟩ (.int .i64 20)).heap[xb]? = some (.cells (w4 67).toArray 9 (0, 0)) := block_setCell_ne hx3 (by show xb ≠ sb; omega) _
  have hq4 : (w3.setCell ⟨sb, 1, none⟩ (.int .i64 20)).heap[rb]? = some (.cells #[.string ⟨#[]⟩, .int .i64 0, .int .i64 0, .int .i64 0] 23 (0, 0)) := block_setCell_ne hq3 (by show rb ≠ sb; omega) _
  have hk4 : Kept (fun _ => False) w (w3.setCell ⟨sb, 1, none⟩ (.int .i64 20)) := hk3.setCell (p := ⟨sb, 1, none⟩) (fun h => by have h1 := Hrb.out; have h2 : sb < w.heap.size := h; omega) _
  generalize w3.setCell ⟨sb, 1, none⟩ (.int .i64 20) = w4' at hs4 hx4 hq4 hk4 ⊢
  clear hs3 hx3 hq3 hk3 s1 f1
  have x2 : w4'.cell? ⟨xb, 2, none⟩ = some (.string ⟨#[67]⟩) := by rw [cell_of_block hx4]; rfl
  go_wp2_with fail
  refine (right_c w4').mono ?_
  rintro e w' ⟨rfl, rfl⟩
  have s3 : w4'.cell? ⟨sb, 3, none⟩ = some (.int .i64 0) := by rw [cell_of_block hs4]; rfl
  have f3 := free_of_block hs4 3
  go_upto_region 10 with fail
  have hs5 : (w4'.setCell ⟨sb, 3, none⟩ (.int .i64 1)).heap[sb]? = some (.cells #[.string ⟨#[65, 66]⟩, .int .i64 20, .int .i64 0, .int .i64 1] 23 (0, 0)) := by rw [block_setCell hs4]; rfl
  have hx5 : (w4'.setCell ⟨sb, 3, none⟩ (.int .i64 1)).heap[xb]? = some (.cells (w4 67).toArray 9 (0, 0)) := block_setCell_ne hx4 (by show xb ≠ sb; omega) _
  have hq5 : (w4'.setCell ⟨sb, 3, none⟩ (.int .i64 1)).heap[rb]? = some (.cells #[.string ⟨#[]⟩, .int .i64 0, .int .i64 0, .int .i64 0] 23 (0, 0)) := block_setCell_ne hq4 (by show rb ≠ sb; omega) _
  have hk5 : Kept (fun _ => False) w (w4'.setCell ⟨sb, 3, none⟩ (.int .i64 1)) := hk4.setCell (p := ⟨sb, 3, none⟩) (fun h => by have h1 := Hrb.out; have h2 : sb < w.heap.size := h; omega) _
  generalize w4'.setCell ⟨sb, 3, none⟩ (.int .i64 1) = w5 at hs5 hx5 hq5 hk5 ⊢
  clear hs4 hx4 hq4 hk4 x2 s3 f3
  have x3 : w5.cell? ⟨xb, 3, none⟩ = some (.string ⟨#[49, 48, 48]⟩) := by rw [cell_of_block hx5]; rfl
  go_wp2_with fail
  refine (num100 w5 (HL.out.on (bk hk5))).mono ?_
  rintro e w6 ⟨rfl, k6⟩
  have hs6 := keptBlk k6 hs5
  have hq6 := keptBlk k6 hq5
  have hk6 := hk5.trans k6
  clear hs5 hx5 hq5 hk5 k6 x3
  have s2 : w6.cell? ⟨sb, 2, none⟩ = some (.int .i64 0) := by rw [cell_of_block hs6]; rfl
  have f2 := free_of_block hs6 2
  go_upto_region 13 with fail
  have hs7 : (w6.setCell ⟨sb, 2, none⟩ (.int .i64 100)).heap[sb]? = some (.cells #[.string ⟨#[65, 66]⟩, .int .i64 20, .int .i64 100, .int .i64 1] 23 (0, 0)) := by rw [block_setCell hs6]; rfl
  have hq7 : (w6.setCell ⟨sb, 2, none⟩ (.int .i64 100)).heap[rb]? = some (.cells #[.string ⟨#[]⟩, .int .i64 0, .int .i64 0, .int .i64 0] 23 (0, 0)) := block_setCell_ne hq6 (by show rb ≠ sb; omega) _
  have hk7 : Kept (fun _ => False) w (w6.setCell ⟨sb, 2, none⟩ (.int .i64 100)) := hk6.setCell (p := ⟨sb, 2, none⟩) (fun h => by have h1 := Hrb.out; have h2 : sb < w.heap.size := h; omega) _
  generalize w6.setCell ⟨sb, 2, none⟩ (.int .i64 100) = w7 at hs7 hq7 hk7 ⊢
  clear hs6 hq6 hk6 s2 f2
  have s0 : w7.cell? ⟨sb, 0, none⟩ = some (.string ⟨#[65, 66]⟩) := by rw [cell_of_block hs7]; rfl
  have s1 : w7.cell? ⟨sb, 1, none⟩ = some (.int .i64 20) := by rw [cell_of_block hs7]; rfl
  have s2 : w7.cell? ⟨sb, 2, none⟩ = some (.int .i64 100) := by rw [cell_of_block hs7]; rfl
  have s3 : w7.cell? ⟨sb, 3, none⟩ = some (.int .i64 1) := by rw [cell_of_block hs7]; rfl
  go_wp2_with fail
  refine (place_any sAB w7 (by decide)).mono ?_
  rintro e w8 ⟨rfl, k8'⟩
  have k8 := kb k8'
  rw [chkAB]
  have hs8 := keptBlk k8 hs7
  have hq8 := keptBlk k8 hq7
  have hk8 := hk7.trans k8
  clear s0 s1 s2 s3 hs7 hq7 hk7 k8 k8'
  have s0 : w8.cell? ⟨sb, 0, none⟩ = some (.string ⟨#[65, 66]⟩) := by rw [cell_of_block hs8]; rfl
  have s1 : w8.cell? ⟨sb, 1, none⟩ = some (.int .i64 20) := by rw [cell_of_block hs8]; rfl
  have s2 : w8.cell? ⟨sb, 2, none⟩ = some (.int .i64 100) := by rw [cell_of_block hs8]; rfl
  have s3 : w8.cell? ⟨sb, 3, none⟩ = some (.int .i64 1) := by rw [cell_of_block hs8]; rfl
  have z0 : w8.cell? ⟨rb, 0, none⟩ = some (.string ⟨#[]⟩) := by rw [cell_of_block hq8]; rfl
  have z1 : w8.cell? ⟨rb, 1, none⟩ = some (.int .i64 0) := by rw [cell_of_block hq8]; rfl
  have z2 : w8.cell? ⟨rb, 2, none⟩ = some (.int .i64 0) := by rw [cell_of_block hq8]; rfl
  have z3 : w8.cell? ⟨rb, 3, none⟩ = some (.int .i64 0) := by rw [cell_of_block hq8]; rfl
  have f0 := free_of_block hq8
  have hl8 := lt_of_block hq8
  go_wp2
  obtain ⟨hb9, hk9⟩ := put4_law hq8 (.string ⟨#[65, 66]⟩) (.int .i64 20) (.int .i64 100) (.int .i64 1)
  change bodyPost _ _ _ _ _ ((((w8.setCell ⟨rb, 0, none⟩ (.string ⟨#[65, 66]⟩)).setCell ⟨rb, 1, none⟩ (.int .i64 20)).setCell ⟨rb, 2, none⟩ (.int .i64 100)).setCell ⟨rb, 3, none⟩ (.int .i64 1))
  generalize ((((w8.setCell ⟨rb, 0, none⟩ (.string ⟨#[65, 66]⟩)).setCell ⟨rb, 1, none⟩ (.int .i64 20)).setCell ⟨rb, 2, none⟩ (.int .i64 100)).setCell ⟨rb, 3, none⟩ (.int .i64 1)) = wf at hb9 hk9 ⊢
  clear z0 z1 z2 z3 f0
  have c0 : wf.cell? ⟨rb, 0, none⟩ = some (.string ⟨#[65, 66]⟩) := by rw [cell_of_block hb9]; rfl
  have c1 : wf.cell? ⟨rb, 1, none⟩ = some (.int .i64 20) := by rw [cell_of_block hb9]; rfl
  have c2 : wf.cell? ⟨rb, 2, none⟩ = some (.int .i64 100) := by rw [cell_of_block hb9]; rfl
  have c3 : wf.cell? ⟨rb, 3, none⟩ = some (.int .i64 1) := by rw [cell_of_block hb9]; rfl
  refine bodyPost_ret (v := .tuple #[.agg #[.string ⟨#[65, 66]⟩, .int .i64 20, .int .i64 100, .int .i64 1], .nilIface]) (by simp [results, Tryd.results14, go_sem, c0, c1, c2, c3]) rfl ⟨rfl, ?_⟩
  exact hk8.trans' (G := fun i => i = rb) hk9 (fun i hi e => by have := Hrb.out; omega)

set_option maxHeartbeats 2000000 in
set_option maxRecDepth 100000 in
theorem parse_2 (w : World) (hL : Laid w) (m : Int) (hm : w.cell? ⟨0, 0, none⟩ = some (.int .i64 m)) : Calls Tryd.prog 14 #[.string ⟨#[65, 66, 32, 50, 48, 32, 88, 32, 49, 48, 48]⟩] w (PxPost (.agg #[.string ⟨#[]⟩, .int .i64 0, .int .i64 0, .int .i64 0]) w) := by
  have hm0 : (w.alloc (.cells #[.string ⟨#[]⟩, .int .i64 0, .int .i64 0, .int .i64 0] 23)).cell? ⟨0, 0, none⟩ = some (.int .i64 m) := by
    rw [World.cell?_of_block (w := w) (Below.heap_alloc _ _ _ (World.block_lt_of_cell? _ _ hm))]; exact hm
  have hq : (w.alloc (.cells #[.string ⟨#[]⟩, .int .i64 0, .int .i64 0, .int .i64 0] 23)).heap[w.heap.size]? = some (.cells #[.string ⟨#[]⟩, .int .i64 0, .int .i64 0, .int .i64 0] 23 (0, 0)) := block_nw _ _
  have hk0 : Kept (fun _ => False) w (w.alloc (.cells #[.string ⟨#[]⟩, .int .i64 0, .int .i64 0, .int .i64 0] 23)) := (Kept.refl _ _).alloc _
  have HL := Lib.hid hL
  clear hL hm
  go_enter Tryd.func14, Tryd.ntmps14
  go_wp2_with fail
  generalize hrb : w.heap.size = rb at hq ⊢
  have Hrb := Lib.hid hrb
  clear hrb
  generalize w.alloc (.cells #[.string ⟨#[]⟩, .int .i64 0, .int .i64 0, .int .i64 0] 23) = w0 at hm0 hq hk0 ⊢
  refine (split_2 w0 m hm0).mono ?_
  rintro e w1 ⟨rfl, rfl⟩
  have hx : (w0.alloc (.cells (w4 88).toArray 9)).heap[w0.heap.size]? = some (.cells (w4 88).toArray 9 (0, 0)) := block_nw _ _
  have hq1 : (w0.alloc (.cells (w4 88).toArray 9)).heap[rb]? = some (.cells #[.string ⟨#[]⟩, .int .i64 0, .int .i64 0, .int .i64 0] 23 (0, 0)) := block_alloc hq
  have hk1 := hk0.alloc (.cells (w4 88).toArray 9)
  have hrx : rb < w0.heap.size := lt_of_block hq
  generalize w0.heap.size = xb at hx hrx ⊢
  generalize w0.alloc (.cells (w4 88).toArray 9) = w1 at hx hq1 hk1 ⊢
  clear hm0 hq hk0
  have x0 : w1.cell? ⟨xb, 0, none⟩ = some (.string ⟨#[65, 66]⟩) := by rw [cell_of_block hx]; rfl
  go_upto_region 5 with fail
  have hs2 : (w1.alloc (.cells #[.string ⟨#[65, 66]⟩, .int .i64 0, .int .i64 0, .int .i64 0] 23)).heap[w1.heap.size]? = some (.cells #[.string ⟨#[65, 66]⟩, .int .i64 0, .int .i64 0, .int .i64 0] 23 (0, 0)) := block_nw _ _
  have hx2 : (w1.alloc (.cells #[.string ⟨#[65, 66]⟩, .int .i64 0, .int .i64 0, .int .i64 0] 23)).heap[xb]? = some (.cells (w4 88).toArray 9 (0, 0)) := block_alloc hx
  have hq2 : (w1.alloc (.cells #[.string ⟨#[65, 66]⟩, .int .i64 0, .int .i64 0, .int .i64 0] 23)).heap[rb]? = some (.cells #[.string ⟨#[]⟩, .int .i64 0, .int .i64 0, .int .i64 0] 23 (0, 0)) := block_alloc hq1
  have hk2 := hk1.alloc (.cells #[.string ⟨#[65, 66]⟩, .int .i64 0, .int .i64 0, .int .i64 0] 23)
  have hxs : xb < w1.heap.size := lt_of_block hx
  generalize w1.heap.size = sb at hs2 hxs ⊢
  generalize w1.alloc (.cells #[.string ⟨#[65, 66]⟩, .int .i64 0, .int .i64 0, .int .i64 0] 23) = w2 at hs2 hx2 hq2 hk2 ⊢
  clear hx hq1 hk1 x0
  have x1 : w2.cell? ⟨xb, 1, none⟩ = some (.string ⟨#[50, 48]⟩) := by rw [cell_of_block hx2]; rfl
  go_wp2_with fail
  refine (num20 w2 (HL.out.on (bk hk2))).mono ?_
  rintro e w3 ⟨rfl, k3⟩
  have hs3 := keptBlk k3 hs2
  have hx3 := keptBlk k3 hx2
  have hq3 := keptBlk k3 hq2
  have hk3 := hk2.trans k3
  clear hs2 hx2 hq2 hk2 k3 x1
  have s1 : w3.cell? ⟨sb, 1, none⟩ = some (.int .i64 0) := by rw [cell_of_block hs3]; rfl
  have f1 := free_of_block hs3 1
  go_upto_region 7 with fail
  have hs4 : (w3.setCell ⟨sb, 1, none⟩ (.int .i64 20)).heap[sb]? = some (.cells #[.string ⟨#[65, 66]⟩, .int .i64 20, .int .i64 0, .int .i64 0] 23 (0, 0)) := by rw [block_setCell hs3]; rfl
  have hx4 : (w3.setCell ⟨sb, 1, none⟩ (.int .i64 20)).heap[xb]? = some (.cells (w4 88).toArray 9 (0, 0)) := block_setCell_ne hx3 (by show xb ≠ sb; omega) _
  have hq4 : (w3.setCell ⟨sb, 1, none⟩ (.int .i64 20)).heap[rb]? = some (.cells #[.string ⟨#[]⟩, .int .i64 0, .int .i64 0, .int .i64 0] 23 (0, 0)) := block_setCell_ne hq3 (by show rb ≠ sb; omega) _
  have hk4 : Kept (fun _ => False) w (w3.setCell ⟨sb, 1, none⟩ (.int .i64 20)) := hk3.setCell (p := ⟨sb, 1, none⟩) (fun h => by have h1 := Hrb.out; have h2 : sb < w.heap.size := h; omega) _
  generalize w3.setCell ⟨sb, 1, none⟩ (.int .i64 20) = w4' at hs4 hx4 hq4 hk4 ⊢
  clear hs3 hx3 hq3 hk3 s1 f1
  have x2 : w4'.cell? ⟨xb, 2, none⟩ = some (.string ⟨#[88]⟩) := by rw [cell_of_block hx4]; rfl
  go_wp2_with fail
  refine (right_x w4').mono ?_
  rintro e w' ⟨rfl, rfl⟩
  have s3 : w4'.cell? ⟨sb, 3, none⟩ = some (.int .i64 0) := by rw [cell_of_block hs4]; rfl
  have f3 := free_of_block hs4 3
  go_upto_region 10 with fail
  have hq5 : (w4'.setCell ⟨sb, 3, none⟩ (.int .i64 0)).heap[rb]? = some (.cells #[.string ⟨#[]⟩, .int .i64 0, .int .i64 0, .int .i64 0] 23 (0, 0)) := block_setCell_ne hq4 (by show rb ≠ sb; omega) _
  have hk5 : Kept (fun _ => False) w (w4'.setCell ⟨sb, 3, none⟩ (.int .i64 0)) := hk4.setCell (p := ⟨sb, 3, none⟩) (fun h => by have h1 := Hrb.out; have h2 : sb < w.heap.size := h; omega) _
  generalize w4'.setCell ⟨sb, 3, none⟩ (.int .i64 0) = w5 at hq5 hk5 ⊢
  clear hs4 hx4 hq4 hk4 x2 s3 f3
  go_wp2_with fail
  refine (fault_any 2 2 w5).mono ?_
  rintro e w6 ⟨⟨fa, rfl⟩, k6⟩
  have hq6 := keptBlk k6 hq5
  have hk6 := hk5.trans k6
  clear hq5 hk5 k6
  have z0 : w6.cell? ⟨rb, 0, none⟩ = some (.string ⟨#[]⟩) := by rw [cell_of_block hq6]; rfl
  have z1 : w6.cell? ⟨rb, 1, none⟩ = some (.int .i64 0) := by rw [cell_of_block hq6]; rfl
  have z2 : w6.cell? ⟨rb, 2, none⟩ = some (.int .i64 0) := by rw [cell_of_block hq6]; rfl
  have z3 : w6.cell? ⟨rb, 3, none⟩ = some (.int .i64 0) := by rw [cell_of_block hq6]; rfl
  have f0 := free_of_block hq6
  have hl6 := lt_of_block hq6
  go_wp2
  obtain ⟨hb9, hk9⟩ := put4_law hq6 (.string ⟨#[]⟩) (.int .i64 0) (.int .i64 0) (.int .i64 0)
  change bodyPost _ _ _ _ _ ((((w6.setCell ⟨rb, 0, none⟩ (.string ⟨#[]⟩)).setCell ⟨rb, 1, none⟩ (.int .i64 0)).setCell ⟨rb, 2, none⟩ (.int .i64 0)).setCell ⟨rb, 3, none⟩ (.int .i64 0))
  generalize ((((w6.setCell ⟨rb, 0, none⟩ (.string ⟨#[]⟩)).setCell ⟨rb, 1, none⟩ (.int .i64 0)).setCell ⟨rb, 2, none⟩ (.int .i64 0)).setCell ⟨rb, 3, none⟩ (.int .i64 0)) = wf at hb9 hk9 ⊢
  clear z0 z1 z2 z3 f0
  have c0 : wf.cell? ⟨rb, 0, none⟩ = some (.string ⟨#[]⟩) := by rw [cell_of_block hb9]; rfl
  have c1 : wf.cell? ⟨rb, 1, none⟩ = some (.int .i64 0) := by rw [cell_of_block hb9]; rfl
  have c2 : wf.cell? ⟨rb, 2, none⟩ = some (.int .i64 0) := by rw [cell_of_block hb9]; rfl
  have c3 : wf.cell? ⟨rb, 3, none⟩ = some (.int .i64 0) := by rw [cell_of_block hb9]; rfl
  refine bodyPost_ret (v := .tuple #[.agg #[.string ⟨#[]⟩, .int .i64 0, .int .i64 0, .int .i64 0], .iface 61 (.pointer (some fa))]) (by simp [results, Tryd.results14, go_sem, c0, c1, c2, c3]) rfl ⟨⟨fa, rfl⟩, ?_⟩
  exact hk6.trans' (G := fun i => i = rb) hk9 (fun i hi e => by have := Hrb.out; omega)
end Go.Proofs.YtjapcnahfbipeaaDoor
