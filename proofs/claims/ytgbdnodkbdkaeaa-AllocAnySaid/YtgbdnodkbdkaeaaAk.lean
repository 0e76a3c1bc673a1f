/- Alloc: whether a leg may be had at a price: may 30. -/
import Derived.Test.YtgbdnodkbdkaeaaAj
namespace Go.Proofs.Ytgbdnodkbdkaeaa
open Go Go.RowKit

def mayB (t : Tp) (xs : List (Int × Int)) (p : Int) : Bool := ((onT xs p && insideB t p) && (!t.ac || decide (p < t.ask))) && (!t.bc || decide (t.bid < p))
theorem inside_bare (bid bq ask aq : Int) (bc ac : Bool) (p : Int) (w : World) : Calls Try.prog 44 #[.agg #[.int .i64 bid, .int .i64 bq, .int .i64 ask, .int .i64 aq, .bool bc, .bool ac], .int .i64 p] w (BlPost (insideB ⟨bid, bq, ask, aq, bc, ac⟩ p) w) := by
  have h := inside_any (Tp.mk bid bq ask aq bc ac) p w
  exact h
set_option maxRecDepth 100000 in
set_option maxHeartbeats 1000000 in
theorem may_any {w : World} {b off cap : Nat} {xs : List (Int × Int)} (t : Tp) (p : Int) (hg : GoodT xs) (hb : b < w.heap.size) (hs : StAt w b off xs) :
    Calls Try.prog 30 #[.agg #[.int .i64 t.bid, .int .i64 t.bq, .int .i64 t.ask, .int .i64 t.aq, .bool t.bc, .bool t.ac], .slice (some ⟨b, off, none⟩) xs.length cap, .int .i64 p] w (BlPost (mayB t xs p) w) := by
  have hq : (w.alloc (.cells #[.int .i64 t.bid, .int .i64 t.bq, .int .i64 t.ask, .int .i64 t.aq, .bool t.bc, .bool t.ac] 45)).heap[w.heap.size]? = some (.cells #[.int .i64 t.bid, .int .i64 t.bq, .int .i64 t.ask, .int .i64 t.aq, .bool t.bc, .bool t.ac] 45 (0, 0)) := block_new3 _ _
  have hk : Kept (fun _ => False) w (w.alloc (.cells #[.int .i64 t.bid, .int .i64 t.bq, .int .i64 t.ask, .int .i64 t.aq, .bool t.bc, .bool t.ac] 45)) := (Kept.refl _ _).alloc _
  have ho := on_any (w := w.alloc (.cells #[.int .i64 t.bid, .int .i64 t.bq, .int .i64 t.ask, .int .i64 t.aq, .bool t.bc, .bool t.ac] 45)) (cap := cap) p hg (Nat.lt_of_lt_of_le hb hk.size) (hs.kept hb hk)
  obtain ⟨v, hv⟩ : ∃ v, mayB t xs p = v := ⟨_, rfl⟩
  obtain ⟨o, hon⟩ : ∃ o, onT xs p = o := ⟨_, rfl⟩
  obtain ⟨i, hin⟩ : ∃ i, insideB t p = i := ⟨_, rfl⟩
  have hv' := hv
  unfold mayB at hv'
  rw [hon, hin] at hv'
  rw [hv]
  rw [hon] at ho
  have HO := Lib.hid ho
  have Hin := Lib.hid hin
  clear ho hs hg hv hon hin hb
  obtain ⟨bid, bq, ask, aq, bc, ac⟩ := t
  simp only at hq hk hv' HO ⊢
  generalize xs.length = len at HO ⊢
  go_enter Try.func30, Try.ntmps30
  go_upto_region 1 with fail
  generalize w.heap.size = q at hq ⊢
  generalize w.alloc (.cells #[.int .i64 bid, .int .i64 bq, .int .i64 ask, .int .i64 aq, .bool bc, .bool ac] 45) = w0 at hq hk HO ⊢
  have hc : (o = false ∧ v = false) ∨ (o = true ∧ i = false ∧ v = false) ∨ (o = true ∧ i = true ∧ ((ac = false ∧ bc = false ∧ v = true) ∨ (ac = false ∧ bc = true ∧ bid < p ∧ v = true) ∨ (ac = false ∧ bc = true ∧ p ≤ bid ∧ v = false) ∨
      (ac = true ∧ bc = false ∧ p < ask ∧ v = true) ∨ (ac = true ∧ bc = true ∧ p < ask ∧ bid < p ∧ v = true) ∨ (ac = true ∧ bc = true ∧ p < ask ∧ p ≤ bid ∧ v = false) ∨ (ac = true ∧ ask ≤ p ∧ v = false))) := by
    subst hv'
    cases o <;> cases i <;> cases ac <;> cases bc <;> simp <;> omega
  clear hv'
  rcases hc with ⟨rfl, rfl⟩ | ⟨rfl, rfl, rfl⟩ | ⟨rfl, rfl, (⟨rfl, rfl, rfl⟩ | ⟨rfl, rfl, h1, rfl⟩ | ⟨rfl, rfl, h1, rfl⟩ | ⟨rfl, rfl, h1, rfl⟩ | ⟨rfl, rfl, h1, h2, rfl⟩ | ⟨rfl, rfl, h1, h2, rfl⟩ | ⟨rfl, h1, rfl⟩)⟩
  · go_wp2_with fail
    refine HO.out.mono ?_
    rintro e w1 ⟨rfl, k1⟩
    have hq1 := (k1.block q (lt_of_block hq) (fun h => h)).trans hq
    have hk1 := hk.trans k1
    have c0 : w1.cell? ⟨q, 0, none⟩ = some (.int .i64 bid) := by rw [cell_of_block hq1]; rfl
    have c1 : w1.cell? ⟨q, 1, none⟩ = some (.int .i64 bq) := by rw [cell_of_block hq1]; rfl
    have c2 : w1.cell? ⟨q, 2, none⟩ = some (.int .i64 ask) := by rw [cell_of_block hq1]; rfl
    have c3 : w1.cell? ⟨q, 3, none⟩ = some (.int .i64 aq) := by rw [cell_of_block hq1]; rfl
    have c4 : w1.cell? ⟨q, 4, none⟩ = some (.bool bc) := by rw [cell_of_block hq1]; rfl
    have c5 : w1.cell? ⟨q, 5, none⟩ = some (.bool ac) := by rw [cell_of_block hq1]; rfl
    go_wp2
    go_ret
    exact ⟨rfl, hk1⟩
  · go_wp2_with fail
    refine HO.out.mono ?_
    rintro e w1 ⟨rfl, k1⟩
    have hq1 := (k1.block q (lt_of_block hq) (fun h => h)).trans hq
    have hk1 := hk.trans k1
    have c0 : w1.cell? ⟨q, 0, none⟩ = some (.int .i64 bid) := by rw [cell_of_block hq1]; rfl
    have c1 : w1.cell? ⟨q, 1, none⟩ = some (.int .i64 bq) := by rw [cell_of_block hq1]; rfl
    have c2 : w1.cell? ⟨q, 2, none⟩ = some (.int .i64 ask) := by rw [cell_of_block hq1]; rfl
    have c3 : w1.cell? ⟨q, 3, none⟩ = some (.int .i64 aq) := by rw [cell_of_block hq1]; rfl
    have c4 : w1.cell? ⟨q, 4, none⟩ = some (.bool bc) := by rw [cell_of_block hq1]; rfl
    have c5 : w1.cell? ⟨q, 5, none⟩ = some (.bool ac) := by rw [cell_of_block hq1]; rfl
    go_wp2_with fail
    refine (inside_bare bid bq ask aq bc ac p w1).mono ?_
    rintro e w2 ⟨rfl, k2⟩
    rw [Hin.out]
    have hq2 := (k2.block q (lt_of_block hq1) (fun h => h)).trans hq1
    have hk2 := hk1.trans k2
    clear c0 c1 c2 c3 c4 c5 hq hq1 HO Hin
    have c0 : w2.cell? ⟨q, 0, none⟩ = some (.int .i64 bid) := by rw [cell_of_block hq2]; rfl
    have c2 : w2.cell? ⟨q, 2, none⟩ = some (.int .i64 ask) := by rw [cell_of_block hq2]; rfl
    have c4 : w2.cell? ⟨q, 4, none⟩ = some (.bool bc) := by rw [cell_of_block hq2]; rfl
    have c5 : w2.cell? ⟨q, 5, none⟩ = some (.bool ac) := by rw [cell_of_block hq2]; rfl
    clear hq2
    go_wp2
    go_ret
    first | exact ⟨rfl, hk2⟩ | exact ⟨ret_bool (decide_eq_false (by omega)), hk2⟩
  · go_wp2_with fail
    refine HO.out.mono ?_
    rintro e w1 ⟨rfl, k1⟩
    have hq1 := (k1.block q (lt_of_block hq) (fun h => h)).trans hq
    have hk1 := hk.trans k1
    have c0 : w1.cell? ⟨q, 0, none⟩ = some (.int .i64 bid) := by rw [cell_of_block hq1]; rfl
    have c1 : w1.cell? ⟨q, 1, none⟩ = some (.int .i64 bq) := by rw [cell_of_block hq1]; rfl
    have c2 : w1.cell? ⟨q, 2, none⟩ = some (.int .i64 ask) := by rw [cell_of_block hq1]; rfl
    have c3 : w1.cell? ⟨q, 3, none⟩ = some (.int .i64 aq) := by rw [cell_of_block hq1]; rfl
    have c4 : w1.cell? ⟨q, 4, none⟩ = some (.bool false) := by rw [cell_of_block hq1]; rfl
    have c5 : w1.cell? ⟨q, 5, none⟩ = some (.bool false) := by rw [cell_of_block hq1]; rfl
    go_wp2_with fail
    refine (inside_bare bid bq ask aq false false p w1).mono ?_
    rintro e w2 ⟨rfl, k2⟩
    rw [Hin.out]
    have hq2 := (k2.block q (lt_of_block hq1) (fun h => h)).trans hq1
    have hk2 := hk1.trans k2
    clear c0 c1 c2 c3 c4 c5 hq hq1 HO Hin
    have c0 : w2.cell? ⟨q, 0, none⟩ = some (.int .i64 bid) := by rw [cell_of_block hq2]; rfl
    have c2 : w2.cell? ⟨q, 2, none⟩ = some (.int .i64 ask) := by rw [cell_of_block hq2]; rfl
    have c4 : w2.cell? ⟨q, 4, none⟩ = some (.bool false) := by rw [cell_of_block hq2]; rfl
    have c5 : w2.cell? ⟨q, 5, none⟩ = some (.bool false) := by rw [cell_of_block hq2]; rfl
    clear hq2
    go_wp2
    go_ret
    first | exact ⟨rfl, hk2⟩ | exact ⟨ret_bool (decide_eq_false (by omega)), hk2⟩
  · go_wp2_with fail
    refine HO.out.mono ?_
    rintro e w1 ⟨rfl, k1⟩
    have hq1 := (k1.block q (lt_of_block hq) (fun h => h)).trans hq
    have hk1 := hk.trans k1
    have c0 : w1.cell? ⟨q, 0, none⟩ = some (.int .i64 bid) := by rw [cell_of_block hq1]; rfl
    have c1 : w1.cell? ⟨q, 1, none⟩ = some (.int .i64 bq) := by rw [cell_of_block hq1]; rfl
    have c2 : w1.cell? ⟨q, 2, none⟩ = some (.int .i64 ask) := by rw [cell_of_block hq1]; rfl
    have c3 : w1.cell? ⟨q, 3, none⟩ = some (.int .i64 aq) := by rw [cell_of_block hq1]; rfl
    have c4 : w1.cell? ⟨q, 4, none⟩ = some (.bool true) := by rw [cell_of_block hq1]; rfl
    have c5 : w1.cell? ⟨q, 5, none⟩ = some (.bool false) := by rw [cell_of_block hq1]; rfl
    go_wp2_with fail
    refine (inside_bare bid bq ask aq true false p w1).mono ?_
    rintro e w2 ⟨rfl, k2⟩
    rw [Hin.out]
    have hq2 := (k2.block q (lt_of_block hq1) (fun h => h)).trans hq1
    have hk2 := hk1.trans k2
    clear c0 c1 c2 c3 c4 c5 hq hq1 HO Hin
    have c0 : w2.cell? ⟨q, 0, none⟩ = some (.int .i64 bid) := by rw [cell_of_block hq2]; rfl
    have c2 : w2.cell? ⟨q, 2, none⟩ = some (.int .i64 ask) := by rw [cell_of_block hq2]; rfl
    have c4 : w2.cell? ⟨q, 4, none⟩ = some (.bool true) := by rw [cell_of_block hq2]; rfl
    have c5 : w2.cell? ⟨q, 5, none⟩ = some (.bool false) := by rw [cell_of_block hq2]; rfl
    clear hq2
    go_wp2
    go_ret
    first | exact ⟨rfl, hk2⟩ | exact ⟨ret_bool (decide_eq_false (by omega)), hk2⟩
  · go_wp2_with fail
    refine HO.out.mono ?_
    rintro e w1 ⟨rfl, k1⟩
    have hq1 := (k1.block q (lt_of_block hq) (fun h => h)).trans hq
    have hk1 := hk.trans k1
    have c0 : w1.cell? ⟨q, 0, none⟩ = some (.int .i64 bid) := by rw [cell_of_block hq1]; rfl
    have c1 : w1.cell? ⟨q, 1, none⟩ = some (.int .i64 bq) := by rw [cell_of_block hq1]; rfl
    have c2 : w1.cell? ⟨q, 2, none⟩ = some (.int .i64 ask) := by rw [cell_of_block hq1]; rfl
    have c3 : w1.cell? ⟨q, 3, none⟩ = some (.int .i64 aq) := by rw [cell_of_block hq1]; rfl
    have c4 : w1.cell? ⟨q, 4, none⟩ = some (.bool true) := by rw [cell_of_block hq1]; rfl
    have c5 : w1.cell? ⟨q, 5, none⟩ = some (.bool false) := by rw [cell_of_block hq1]; rfl
    go_wp2_with fail
    refine (inside_bare bid bq ask aq true false p w1).mono ?_
    rintro e w2 ⟨rfl, k2⟩
    rw [Hin.out]
    have hq2 := (k2.block q (lt_of_block hq1) (fun h => h)).trans hq1
    have hk2 := hk1.trans k2
    clear c0 c1 c2 c3 c4 c5 hq hq1 HO Hin
    have c0 : w2.cell? ⟨q, 0, none⟩ = some (.int .i64 bid) := by rw [cell_of_block hq2]; rfl
    have c2 : w2.cell? ⟨q, 2, none⟩ = some (.int .i64 ask) := by rw [cell_of_block hq2]; rfl
    have c4 : w2.cell? ⟨q, 4, none⟩ = some (.bool true) := by rw [cell_of_block hq2]; rfl
    have c5 : w2.cell? ⟨q, 5, none⟩ = some (.bool false) := by rw [cell_of_block hq2]; rfl
    clear hq2
    go_wp2
    go_ret
    first | exact ⟨rfl, hk2⟩ | exact ⟨ret_bool (decide_eq_false (by omega)), hk2⟩
  · go_wp2_with fail
    refine HO.out.mono ?_
    rintro e w1 ⟨rfl, k1⟩
    have hq1 := (k1.block q (lt_of_block hq) (fun h => h)).trans hq
    have hk1 := hk.trans k1
    have c0 : w1.cell? ⟨q, 0, none⟩ = some (.int .i64 bid) := by rw [cell_of_block hq1]; rfl
    have c1 : w1.cell? ⟨q, 1, none⟩ = some (.int .i64 bq) := by rw [cell_of_block hq1]; rfl
    have c2 : w1.cell? ⟨q, 2, none⟩ = some (.int .i64 ask) := by rw [cell_of_block hq1]; rfl
    have c3 : w1.cell? ⟨q, 3, none⟩ = some (.int .i64 aq) := by rw [cell_of_block hq1]; rfl
    have c4 : w1.cell? ⟨q, 4, none⟩ = some (.bool false) := by rw [cell_of_block hq1]; rfl
    have c5 : w1.cell? ⟨q, 5, none⟩ = some (.bool true) := by rw [cell_of_block hq1]; rfl
    go_wp2_with fail
    refine (inside_bare bid bq ask aq false true p w1).mono ?_
    rintro e w2 ⟨rfl, k2⟩
    rw [Hin.out]
    have hq2 := (k2.block q (lt_of_block hq1) (fun h => h)).trans hq1
    have hk2 := hk1.trans k2
    clear c0 c1 c2 c3 c4 c5 hq hq1 HO Hin
    have c0 : w2.cell? ⟨q, 0, none⟩ = some (.int .i64 bid) := by rw [cell_of_block hq2]; rfl
    have c2 : w2.cell? ⟨q, 2, none⟩ = some (.int .i64 ask) := by rw [cell_of_block hq2]; rfl
    have c4 : w2.cell? ⟨q, 4, none⟩ = some (.bool false) := by rw [cell_of_block hq2]; rfl
    have c5 : w2.cell? ⟨q, 5, none⟩ = some (.bool true) := by rw [cell_of_block hq2]; rfl
    clear hq2
    go_wp2
    go_ret
    first | exact ⟨rfl, hk2⟩ | exact ⟨ret_bool (decide_eq_false (by omega)), hk2⟩
  · go_wp2_with fail
    refine HO.out.mono ?_
    rintro e w1 ⟨rfl, k1⟩
    have hq1 := (k1.block q (lt_of_block hq) (fun h => h)).trans hq
    have hk1 := hk.trans k1
    have c0 : w1.cell? ⟨q, 0, none⟩ = some (.int .i64 bid) := by rw [cell_of_block hq1]; rfl
    have c1 : w1.cell? ⟨q, 1, none⟩ = some (.int .i64 bq) := by rw [cell_of_block hq1]; rfl
    have c2 : w1.cell? ⟨q, 2, none⟩ = some (.int .i64 ask) := by rw [cell_of_block hq1]; rfl
    have c3 : w1.cell? ⟨q, 3, none⟩ = some (.int .i64 aq) := by rw [cell_of_block hq1]; rfl
    have c4 : w1.cell? ⟨q, 4, none⟩ = some (.bool true) := by rw [cell_of_block hq1]; rfl
    have c5 : w1.cell? ⟨q, 5, none⟩ = some (.bool true) := by rw [cell_of_block hq1]; rfl
    go_wp2_with fail
    refine (inside_bare bid bq ask aq true true p w1).mono ?_
    rintro e w2 ⟨rfl, k2⟩
    rw [Hin.out]
    have hq2 := (k2.block q (lt_of_block hq1) (fun h => h)).trans hq1
    have hk2 := hk1.trans k2
    clear c0 c1 c2 c3 c4 c5 hq hq1 HO Hin
    have c0 : w2.cell? ⟨q, 0, none⟩ = some (.int .i64 bid) := by rw [cell_of_block hq2]; rfl
    have c2 : w2.cell? ⟨q, 2, none⟩ = some (.int .i64 ask) := by rw [cell_of_block hq2]; rfl
    have c4 : w2.cell? ⟨q, 4, none⟩ = some (.bool true) := by rw [cell_of_block hq2]; rfl
    have c5 : w2.cell? ⟨q, 5, none⟩ = some (.bool true) := by rw [cell_of_block hq2]; rfl
    clear hq2
    go_wp2
    go_ret
    first | exact ⟨rfl, hk2⟩ | exact ⟨ret_bool (decide_eq_false (by omega)), hk2⟩
  · go_wp2_with fail
    refine HO.out.mono ?_
    rintro e w1 ⟨rfl, k1⟩
    have hq1 := (k1.block q (lt_of_block hq) (fun h => h)).trans hq
    have hk1 := hk.trans k1
    have c0 : w1.cell? ⟨q, 0, none⟩ = some (.int .i64 bid) := by rw [cell_of_block hq1]; rfl
    have c1 : w1.cell? ⟨q, 1, none⟩ = some (.int .i64 bq) := by rw [cell_of_block hq1]; rfl
    have c2 : w1.cell? ⟨q, 2, none⟩ = some (.int .i64 ask) := by rw [cell_of_block hq1]; rfl
    have c3 : w1.cell? ⟨q, 3, none⟩ = some (.int .i64 aq) := by rw [cell_of_block hq1]; rfl
    have c4 : w1.cell? ⟨q, 4, none⟩ = some (.bool true) := by rw [cell_of_block hq1]; rfl
    have c5 : w1.cell? ⟨q, 5, none⟩ = some (.bool true) := by rw [cell_of_block hq1]; rfl
    go_wp2_with fail
    refine (inside_bare bid bq ask aq true true p w1).mono ?_
    rintro e w2 ⟨rfl, k2⟩
    rw [Hin.out]
    have hq2 := (k2.block q (lt_of_block hq1) (fun h => h)).trans hq1
    have hk2 := hk1.trans k2
    clear c0 c1 c2 c3 c4 c5 hq hq1 HO Hin
    have c0 : w2.cell? ⟨q, 0, none⟩ = some (.int .i64 bid) := by rw [cell_of_block hq2]; rfl
    have c2 : w2.cell? ⟨q, 2, none⟩ = some (.int .i64 ask) := by rw [cell_of_block hq2]; rfl
    have c4 : w2.cell? ⟨q, 4, none⟩ = some (.bool true) := by rw [cell_of_block hq2]; rfl
    have c5 : w2.cell? ⟨q, 5, none⟩ = some (.bool true) := by rw [cell_of_block hq2]; rfl
    clear hq2
    go_wp2
    go_ret
    first | exact ⟨rfl, hk2⟩ | exact ⟨ret_bool (decide_eq_false (by omega)), hk2⟩
  · go_wp2_with fail
    refine HO.out.mono ?_
    rintro e w1 ⟨rfl, k1⟩
    have hq1 := (k1.block q (lt_of_block hq) (fun h => h)).trans hq
    have hk1 := hk.trans k1
    have c0 : w1.cell? ⟨q, 0, none⟩ = some (.int .i64 bid) := by rw [cell_of_block hq1]; rfl
    have c1 : w1.cell? ⟨q, 1, none⟩ = some (.int .i64 bq) := by rw [cell_of_block hq1]; rfl
    have c2 : w1.cell? ⟨q, 2, none⟩ = some (.int .i64 ask) := by rw [cell_of_block hq1]; rfl
    have c3 : w1.cell? ⟨q, 3, none⟩ = some (.int .i64 aq) := by rw [cell_of_block hq1]; rfl
    have c4 : w1.cell? ⟨q, 4, none⟩ = some (.bool bc) := by rw [cell_of_block hq1]; rfl
    have c5 : w1.cell? ⟨q, 5, none⟩ = some (.bool true) := by rw [cell_of_block hq1]; rfl
    go_wp2_with fail
    refine (inside_bare bid bq ask aq bc true p w1).mono ?_
    rintro e w2 ⟨rfl, k2⟩
    rw [Hin.out]
    have hq2 := (k2.block q (lt_of_block hq1) (fun h => h)).trans hq1
    have hk2 := hk1.trans k2
    clear c0 c1 c2 c3 c4 c5 hq hq1 HO Hin
    have c0 : w2.cell? ⟨q, 0, none⟩ = some (.int .i64 bid) := by rw [cell_of_block hq2]; rfl
    have c2 : w2.cell? ⟨q, 2, none⟩ = some (.int .i64 ask) := by rw [cell_of_block hq2]; rfl
    have c4 : w2.cell? ⟨q, 4, none⟩ = some (.bool bc) := by rw [cell_of_block hq2]; rfl
    have c5 : w2.cell? ⟨q, 5, none⟩ = some (.bool true) := by rw [cell_of_block hq2]; rfl
    clear hq2
    go_wp2
    go_ret
    first | exact ⟨rfl, hk2⟩ | exact ⟨ret_bool (decide_eq_false (by omega)), hk2⟩
end Go.Proofs.Ytgbdnodkbdkaeaa
