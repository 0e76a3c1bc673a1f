/- Series: which comes first: the reference's walk; the order is one. -/
import Derived.Test.YtjapcnahfbipeaaDoorQe
namespace Go.Proofs.YtjapcnahfbipeaaDoor
open Go Go.RowKit

def RcRel (a b : Sr) (W : World) (iv : Value) (wr : World) : Prop := ∃ i : Nat, i ≤ 3 ∧ iv = .int .i64 i ∧ cmpSr a b = firstNZ ([cmpN a.exp b.exp, cmpN a.strike b.strike, cmpN a.right b.right].drop i) ∧ Kept (fun _ => False) W wr
theorem arr_at {zs : List Int} {i : Nat} {x : Int} (h : zs[i]? = some x) : (zs.map intV).toArray[i]? = some (.int .i64 x) := by
  rw [List.getElem?_toArray, List.getElem?_map, h]; rfl
theorem cmpN_lt {x y : Int} (h : x < y) : cmpN x y = -1 := if_pos h
theorem cmpN_gt {x y : Int} (h : y < x) : cmpN x y = 1 := by unfold cmpN; rw [if_neg (by omega), if_pos h]
theorem cmpN_eq {x y : Int} (h1 : ¬ x < y) (h2 : ¬ y < x) : cmpN x y = 0 := by unfold cmpN; rw [if_neg h1, if_neg h2]
theorem nz_cons {z : Int} {zs : List Int} (h : z ≠ 0) : firstNZ (z :: zs) = z := if_pos h
theorem nz_zero (zs : List Int) : firstNZ (0 :: zs) = firstNZ zs := rfl
theorem at3 {a b : Sr} {i : Nat} (hi : i < 3) : ∃ x y, ([a.exp, a.strike, a.right] : List Int)[i]? = some x ∧ ([b.exp, b.strike, b.right] : List Int)[i]? = some y ∧
    ([cmpN a.exp b.exp, cmpN a.strike b.strike, cmpN a.right b.right] : List Int).drop i = cmpN x y :: ([cmpN a.exp b.exp, cmpN a.strike b.strike, cmpN a.right b.right] : List Int).drop (i + 1) := by
  match i, hi with
  | 0, _ => exact ⟨_, _, rfl, rfl, rfl⟩
  | 1, _ => exact ⟨_, _, rfl, rfl, rfl⟩
  | 2, _ => exact ⟨_, _, rfl, rfl, rfl⟩

set_option maxHeartbeats 2000000 in
set_option maxRecDepth 100000 in
theorem compare_ref (a b : Sr) (w : World) : Calls Tryd.prog 13 #[.agg #[.string a.cls, .int .i64 a.exp, .int .i64 a.strike, .int .i64 a.right], .agg #[.string b.cls, .int .i64 b.exp, .int .i64 b.strike, .int .i64 b.right]] w (CpPost a b w) := by
  have hq1 : ((w.alloc (.cells #[.string a.cls, .int .i64 a.exp, .int .i64 a.strike, .int .i64 a.right] 27)).alloc (.cells #[.string b.cls, .int .i64 b.exp, .int .i64 b.strike, .int .i64 b.right] 27)).heap[w.heap.size]? = some (boxS a 27) := block_alloc (block_nw _ _)
  have hq2 : ((w.alloc (.cells #[.string a.cls, .int .i64 a.exp, .int .i64 a.strike, .int .i64 a.right] 27)).alloc (.cells #[.string b.cls, .int .i64 b.exp, .int .i64 b.strike, .int .i64 b.right] 27)).heap[w.heap.size + 1]? = some (boxS b 27) := by
    have := block_nw (w.alloc (.cells #[.string a.cls, .int .i64 a.exp, .int .i64 a.strike, .int .i64 a.right] 27)) (.cells #[.string b.cls, .int .i64 b.exp, .int .i64 b.strike, .int .i64 b.right] 27)
    rwa [show (w.alloc (.cells #[.string a.cls, .int .i64 a.exp, .int .i64 a.strike, .int .i64 a.right] 27)).heap.size = w.heap.size + 1 by simp] at this
  have hk2 : Kept (fun _ => False) w ((w.alloc (.cells #[.string a.cls, .int .i64 a.exp, .int .i64 a.strike, .int .i64 a.right] 27)).alloc (.cells #[.string b.cls, .int .i64 b.exp, .int .i64 b.strike, .int .i64 b.right] 27)) := ((Kept.refl _ _).alloc _).alloc _
  have hcase : ((a.cls.toList == b.cls.toList) = false ∧ Op.bytesLess a.cls.toList b.cls.toList = true ∧ cmpSr a b = -1) ∨ ((a.cls.toList == b.cls.toList) = false ∧ Op.bytesLess a.cls.toList b.cls.toList = false ∧ cmpSr a b = 1) ∨
      ((a.cls.toList == b.cls.toList) = true ∧ cmpSr a b = firstNZ [cmpN a.exp b.exp, cmpN a.strike b.strike, cmpN a.right b.right]) := by
    unfold cmpSr
    cases h1 : Op.bytesLess a.cls.toList b.cls.toList with
    | true =>
      refine .inl ⟨?_, rfl, ?_⟩
      · rw [beq_eq_false_iff_ne]; intro e; rw [e, bl_irrefl] at h1; cases h1
      · rw [show cmpS a.cls.toList b.cls.toList = -1 from if_pos h1]; rfl
    | false =>
      cases h2 : Op.bytesLess b.cls.toList a.cls.toList with
      | true =>
        refine .inr (.inl ⟨?_, rfl, ?_⟩)
        · rw [beq_eq_false_iff_ne]; intro e; rw [e, bl_irrefl] at h2; cases h2
        · rw [show cmpS a.cls.toList b.cls.toList = 1 by unfold cmpS; rw [if_neg (by rw [h1]; decide), if_pos h2]]; rfl
      | false =>
        refine .inr (.inr ⟨by rw [bl_total _ _ h1 h2]; simp, ?_⟩)
        rw [show cmpS a.cls.toList b.cls.toList = 0 by unfold cmpS; rw [if_neg (by rw [h1]; decide), if_neg (by rw [h2]; decide)]]; rfl
  go_enter Tryd.func13, Tryd.ntmps13
  go_upto_region 1 with fail
  generalize w.heap.size + 1 = q2 at hq2 ⊢
  generalize w.heap.size = q1 at hq1 ⊢
  generalize (w.alloc (.cells #[.string a.cls, .int .i64 a.exp, .int .i64 a.strike, .int .i64 a.right] 27)).alloc (.cells #[.string b.cls, .int .i64 b.exp, .int .i64 b.strike, .int .i64 b.right] 27) = w0 at hq1 hq2 hk2 ⊢
  have c0 : w0.cell? ⟨q1, 0, none⟩ = some (.string a.cls) := by rw [cell_of_block hq1]; rfl
  have c1 : w0.cell? ⟨q1, 1, none⟩ = some (.int .i64 a.exp) := by rw [cell_of_block hq1]; rfl
  have c2 : w0.cell? ⟨q1, 2, none⟩ = some (.int .i64 a.strike) := by rw [cell_of_block hq1]; rfl
  have c3 : w0.cell? ⟨q1, 3, none⟩ = some (.int .i64 a.right) := by rw [cell_of_block hq1]; rfl
  have d0 : w0.cell? ⟨q2, 0, none⟩ = some (.string b.cls) := by rw [cell_of_block hq2]; rfl
  have d1 : w0.cell? ⟨q2, 1, none⟩ = some (.int .i64 b.exp) := by rw [cell_of_block hq2]; rfl
  have d2 : w0.cell? ⟨q2, 2, none⟩ = some (.int .i64 b.strike) := by rw [cell_of_block hq2]; rfl
  have d3 : w0.cell? ⟨q2, 3, none⟩ = some (.int .i64 b.right) := by rw [cell_of_block hq2]; rfl
  have hl1 := lt_of_block hq1
  have hl2 := lt_of_block hq2
  rcases hcase with ⟨h1, h2, hE⟩ | ⟨h1, h2, hE⟩ | ⟨h1, hE⟩
  · have E := Lib.hid hE
    clear hE
    go_wp2
    go_ret
    exact ⟨ret_int E.out.symm, hk2⟩
  · have E := Lib.hid hE
    clear hE
    go_wp2
    go_ret
    exact ⟨ret_int E.out.symm, hk2⟩
  · have E := Lib.hid hE
    clear hE
    go_upto_region 7 with fail
    have hx : ((w0.alloc (.cells #[.int .i64 a.exp, .int .i64 a.strike, .int .i64 a.right] 2)).alloc (.cells #[.int .i64 b.exp, .int .i64 b.strike, .int .i64 b.right] 2)).heap[w0.heap.size]? = some (.cells (([a.exp, a.strike, a.right] : List Int).map intV).toArray 2 (0, 0)) := block_alloc (block_nw _ _)
    have hy : ((w0.alloc (.cells #[.int .i64 a.exp, .int .i64 a.strike, .int .i64 a.right] 2)).alloc (.cells #[.int .i64 b.exp, .int .i64 b.strike, .int .i64 b.right] 2)).heap[w0.heap.size + 1]? = some (.cells (([b.exp, b.strike, b.right] : List Int).map intV).toArray 2 (0, 0)) := by
      have := block_nw (w0.alloc (.cells #[.int .i64 a.exp, .int .i64 a.strike, .int .i64 a.right] 2)) (.cells #[.int .i64 b.exp, .int .i64 b.strike, .int .i64 b.right] 2)
      rwa [show (w0.alloc (.cells #[.int .i64 a.exp, .int .i64 a.strike, .int .i64 a.right] 2)).heap.size = w0.heap.size + 1 by simp] at this
    have hk3 : Kept (fun _ => False) w ((w0.alloc (.cells #[.int .i64 a.exp, .int .i64 a.strike, .int .i64 a.right] 2)).alloc (.cells #[.int .i64 b.exp, .int .i64 b.strike, .int .i64 b.right] 2)) := (hk2.alloc _).alloc _
    generalize w0.heap.size + 1 = y1 at hy ⊢
    generalize w0.heap.size = x1 at hx ⊢
    generalize (w0.alloc (.cells #[.int .i64 a.exp, .int .i64 a.strike, .int .i64 a.right] 2)).alloc (.cells #[.int .i64 b.exp, .int .i64 b.strike, .int .i64 b.right] 2) = w3 at hx hy hk3 ⊢
    have Hx := Lib.hid hx
    have Hy := Lib.hid hy
    have Hk3 := Lib.hid hk3
    clear hx hy hk3 hk2 hq1 hq2 c0 c1 c2 c3 d0 d1 d2 d3 hl1 hl2
    go_wp2_with fail
    go_loopw [7] (fun iv wr => RcRel a b w3 iv wr) (fun iv _ => 3 - (intOf iv).toNat)
    case atStart => exact ⟨0, by omega, rfl, E.out, Kept.refl _ _⟩
    case round =>
      obtain ⟨i, hi, rfl, hz, hk⟩ := hrel
      have Hz := Lib.hid hz
      clear hz
      by_cases hlt : i < 3
      · obtain ⟨x, y, hx, hy, hd⟩ := at3 (a := a) (b := b) hlt
        have hcx : wr.cell? ⟨x1, i, none⟩ = some (.int .i64 x) := by rw [cell_of_block ((hk.block x1 (lt_of_block Hx.out) (fun h => h)).trans Hx.out)]; exact arr_at hx
        have hcy : wr.cell? ⟨y1, i, none⟩ = some (.int .i64 y) := by rw [cell_of_block ((hk.block y1 (lt_of_block Hy.out) (fun h => h)).trans Hy.out)]; exact arr_at hy
        have Hd := Lib.hid hd
        have b1 : (0 : Int) ≤ (i : Int) := by omega
        have b2 : (i : Int) < 3 := by omega
        have Hlt := Lib.hid hlt
        have Hk := Lib.hid hk
        clear hx hy hd hk
        by_cases hxy : x < y
        · have E2 : Hid (cmpSr a b = -1) := by show _ = _; rw [Hz.out, Hd.out, cmpN_lt hxy]; rfl
          go_wp2_with fail
          go_quiet (fail)
          go_wp2_with fail
          go_ret
          exact ⟨ret_int E2.out.symm, (Hk3.out.trans Hk.out).drewN _⟩
        · by_cases hyx : y < x
          · have E2 : Hid (cmpSr a b = 1) := by show _ = _; rw [Hz.out, Hd.out, cmpN_gt hyx]; rfl
            go_wp2_with fail
            go_quiet (fail)
            go_wp2_with fail
            go_quiet (fail)
            go_wp2_with fail
            go_ret
            exact ⟨ret_int E2.out.symm, by first | exact (Hk3.out.trans Hk.out).drewN _ | exact ((Hk3.out.trans Hk.out).drewN _).drewN _⟩
          · have hn : Hid (RcRel a b w3 (.int .i64 ((i : Int) + 1)) wr) := ⟨i + 1, by omega, by push_cast; rfl, by rw [Hz.out, Hd.out, cmpN_eq hxy hyx]; rfl, Hk.out⟩
            go_wp2_with fail
            go_quiet (fail)
            go_wp2_with fail
            go_quiet (fail)
            go_wp2_with fail
            obtain ⟨j, h1, h2, h3, h4⟩ := hn.out
            exact ⟨⟨j, h1, h2, h3, by first | exact h4.drewN _ | exact (h4.drewN _).drewN _⟩, by have := Hlt.out; simp [intOf]; omega⟩
      · obtain rfl : i = 3 := by omega
        have E2 : Hid (cmpSr a b = 0) := by show _ = _; rw [Hz.out]; rfl
        go_wp2_with fail
        go_ret
        exact ⟨ret_int E2.out.symm, Hk3.out.trans hk⟩
end Go.Proofs.YtjapcnahfbipeaaDoor
