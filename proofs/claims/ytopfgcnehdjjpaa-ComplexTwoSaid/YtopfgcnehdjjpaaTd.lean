/- The walk of 'ComplexTwo', a case. -/
import Derived.Test.YtopfgcnehdjjpaaCo
namespace Go.Proofs.Ytopfgcnehdjjpaa
open Go.RowKit

set_option maxHeartbeats 4000000 in
set_option maxRecDepth 100000 in
theorem two_2tft (ai ao an au bi bo bn bu net : Int) (w : World) (hX : rahB (⟨ai, ao, 2, an, au⟩ : Od) (⟨bi, bo, 2, bn, bu⟩ : Od) = true) (hY : rahB (⟨bi, bo, 2, bn, bu⟩ : Od) (⟨ai, ao, 2, an, au⟩ : Od) = false) (hT : takesB (⟨ai, ao, 2, an, au⟩ : Od) net = true) :
    Calls Try.prog 4 #[.agg #[.int .i64 ai, .int .i64 ao, .int .i64 2, .int .i64 an, .int .i64 au], .agg #[.int .i64 bi, .int .i64 bo, .int .i64 2, .int .i64 bn, .int .i64 bu], .int .i64 net] w (FinPost w) := by
  obtain ⟨l1, l2, l3, l4⟩ := two_law (a := (⟨ai, ao, 2, an, au⟩ : Od)) (b := (⟨bi, bo, 2, bn, bu⟩ : Od)) rfl (.inr rfl)
  rw [hX] at l1
  rw [hY] at l2
  rw [hX, hY] at l3 l4
  have L1 := Lib.hid l1
  have L2 := Lib.hid l2
  have HX := Lib.hid hX
  have HY := Lib.hid hY
  clear l1 l2 l3 l4 hX hY
  have HT := Lib.hid hT
  clear hT
  have hb1 : ((w.alloc (.cells #[.int .i64 ai, .int .i64 ao, .int .i64 2, .int .i64 an, .int .i64 au] 31)).alloc (.cells #[.int .i64 bi, .int .i64 bo, .int .i64 2, .int .i64 bn, .int .i64 bu] 31)).heap[w.heap.size + 1]? = some (boxO (⟨bi, bo, 2, bn, bu⟩ : Od)) := block_new (by simp)
  have ha1 : ((w.alloc (.cells #[.int .i64 ai, .int .i64 ao, .int .i64 2, .int .i64 an, .int .i64 au] 31)).alloc (.cells #[.int .i64 bi, .int .i64 bo, .int .i64 2, .int .i64 bn, .int .i64 bu] 31)).heap[w.heap.size]? = some (boxO (⟨ai, ao, 2, an, au⟩ : Od)) := block_alloc (block_alloc_new _ _)
  have hk1 : Kept (fun _ => False) w ((w.alloc (.cells #[.int .i64 ai, .int .i64 ao, .int .i64 2, .int .i64 an, .int .i64 au] 31)).alloc (.cells #[.int .i64 bi, .int .i64 bo, .int .i64 2, .int .i64 bn, .int .i64 bu] 31)) := ((Kept.refl _ _).alloc _).alloc _
  go_enter Try.func4, Try.ntmps4
  go_wp2_with fail
  generalize w.heap.size + 1 = qb at hb1 ⊢
  generalize w.heap.size = qa at ha1 ⊢
  generalize (w.alloc (.cells #[.int .i64 ai, .int .i64 ao, .int .i64 2, .int .i64 an, .int .i64 au] 31)).alloc (.cells #[.int .i64 bi, .int .i64 bo, .int .i64 2, .int .i64 bn, .int .i64 bu] 31) = w1 at ha1 hb1 hk1 ⊢
  refine (known_any w1).mono ?_
  rintro e w2 ⟨rfl, k2⟩
  have ha2 := (k2.block qa (lt_of_block ha1) (fun h => h)).trans ha1
  have hb2 := (k2.block qb (lt_of_block hb1) (fun h => h)).trans hb1
  have hk2 := hk1.trans k2
  clear ha1 hb1 hk1 k2
  have a0 : w2.cell? ⟨qa, 0, none⟩ = some (.int .i64 ai) := by rw [cell_of_block ha2]; rfl
  have a1 : w2.cell? ⟨qa, 1, none⟩ = some (.int .i64 ao) := by rw [cell_of_block ha2]; rfl
  have a2 : w2.cell? ⟨qa, 2, none⟩ = some (.int .i64 2) := by rw [cell_of_block ha2]; rfl
  have a3 : w2.cell? ⟨qa, 3, none⟩ = some (.int .i64 an) := by rw [cell_of_block ha2]; rfl
  have a4 : w2.cell? ⟨qa, 4, none⟩ = some (.int .i64 au) := by rw [cell_of_block ha2]; rfl
  have b0 : w2.cell? ⟨qb, 0, none⟩ = some (.int .i64 bi) := by rw [cell_of_block hb2]; rfl
  have b1 : w2.cell? ⟨qb, 1, none⟩ = some (.int .i64 bo) := by rw [cell_of_block hb2]; rfl
  have b2 : w2.cell? ⟨qb, 2, none⟩ = some (.int .i64 2) := by rw [cell_of_block hb2]; rfl
  have b3 : w2.cell? ⟨qb, 3, none⟩ = some (.int .i64 bn) := by rw [cell_of_block hb2]; rfl
  have b4 : w2.cell? ⟨qb, 4, none⟩ = some (.int .i64 bu) := by rw [cell_of_block hb2]; rfl
  go_wp2_with fail
  refine (ahead_is (a := (⟨ai, ao, 2, an, au⟩ : Od)) (b := (⟨bi, bo, 2, bn, bu⟩ : Od)) L1.out _).mono ?_
  rintro e w3 ⟨rfl, k3⟩
  have ha3 := (k3.block qa (lt_of_block ha2) (fun h => h)).trans ha2
  have hb3 := (k3.block qb (lt_of_block hb2) (fun h => h)).trans hb2
  have hk3 := hk2.trans k3
  clear ha2 hb2 hk2 k3 a0 a1 a2 a3 a4 b0 b1 b2 b3 b4
  have a0 : w3.cell? ⟨qa, 0, none⟩ = some (.int .i64 ai) := by rw [cell_of_block ha3]; rfl
  have a1 : w3.cell? ⟨qa, 1, none⟩ = some (.int .i64 ao) := by rw [cell_of_block ha3]; rfl
  have a2 : w3.cell? ⟨qa, 2, none⟩ = some (.int .i64 2) := by rw [cell_of_block ha3]; rfl
  have a3 : w3.cell? ⟨qa, 3, none⟩ = some (.int .i64 an) := by rw [cell_of_block ha3]; rfl
  have a4 : w3.cell? ⟨qa, 4, none⟩ = some (.int .i64 au) := by rw [cell_of_block ha3]; rfl
  have b0 : w3.cell? ⟨qb, 0, none⟩ = some (.int .i64 bi) := by rw [cell_of_block hb3]; rfl
  have b1 : w3.cell? ⟨qb, 1, none⟩ = some (.int .i64 bo) := by rw [cell_of_block hb3]; rfl
  have b2 : w3.cell? ⟨qb, 2, none⟩ = some (.int .i64 2) := by rw [cell_of_block hb3]; rfl
  have b3 : w3.cell? ⟨qb, 3, none⟩ = some (.int .i64 bn) := by rw [cell_of_block hb3]; rfl
  have b4 : w3.cell? ⟨qb, 4, none⟩ = some (.int .i64 bu) := by rw [cell_of_block hb3]; rfl
  go_wp2_with fail
  refine (ahead_is (a := (⟨bi, bo, 2, bn, bu⟩ : Od)) (b := (⟨ai, ao, 2, an, au⟩ : Od)) L2.out _).mono ?_
  rintro e w4 ⟨rfl, k4⟩
  have ha4 := (k4.block qa (lt_of_block ha3) (fun h => h)).trans ha3
  have hb4 := (k4.block qb (lt_of_block hb3) (fun h => h)).trans hb3
  have hk4 := hk3.trans k4
  clear ha3 hb3 hk3 k4 a0 a1 a2 a3 a4 b0 b1 b2 b3 b4
  have a0 := fun x : KW w4 => KW.cell (show w4.cell? ⟨qa, 0, none⟩ = some (.int .i64 ai) by rw [cell_of_block ha4]; rfl) x
  have a1 := fun x : KW w4 => KW.cell (show w4.cell? ⟨qa, 1, none⟩ = some (.int .i64 ao) by rw [cell_of_block ha4]; rfl) x
  have a2 := fun x : KW w4 => KW.cell (show w4.cell? ⟨qa, 2, none⟩ = some (.int .i64 2) by rw [cell_of_block ha4]; rfl) x
  have a3 := fun x : KW w4 => KW.cell (show w4.cell? ⟨qa, 3, none⟩ = some (.int .i64 an) by rw [cell_of_block ha4]; rfl) x
  have a4 := fun x : KW w4 => KW.cell (show w4.cell? ⟨qa, 4, none⟩ = some (.int .i64 au) by rw [cell_of_block ha4]; rfl) x
  have b0 := fun x : KW w4 => KW.cell (show w4.cell? ⟨qb, 0, none⟩ = some (.int .i64 bi) by rw [cell_of_block hb4]; rfl) x
  have b1 := fun x : KW w4 => KW.cell (show w4.cell? ⟨qb, 1, none⟩ = some (.int .i64 bo) by rw [cell_of_block hb4]; rfl) x
  have b2 := fun x : KW w4 => KW.cell (show w4.cell? ⟨qb, 2, none⟩ = some (.int .i64 2) by rw [cell_of_block hb4]; rfl) x
  have b3 := fun x : KW w4 => KW.cell (show w4.cell? ⟨qb, 3, none⟩ = some (.int .i64 bn) by rw [cell_of_block hb4]; rfl) x
  have b4 := fun x : KW w4 => KW.cell (show w4.cell? ⟨qb, 4, none⟩ = some (.int .i64 bu) by rw [cell_of_block hb4]; rfl) x
  clear L1 L2
  go_wp2_with fail
  refine wp_region_kept (by kernel_rfl) (by kernel_rfl) ?_
  repeat (go_big_quiet_step (first
        | with_reducible exact of_kw (⟨ai, ao, 2, an, au⟩ : Od) _
        | with_reducible exact of_kw (⟨bi, bo, 2, bn, bu⟩ : Od) _
        | with_reducible exact rahead_kw (a := (⟨ai, ao, 2, an, au⟩ : Od)) (b := (⟨bi, bo, 2, bn, bu⟩ : Od)) HX.out _
        | with_reducible exact rahead_kw (a := (⟨bi, bo, 2, bn, bu⟩ : Od)) (b := (⟨ai, ao, 2, an, au⟩ : Od)) HY.out _
        | with_reducible exact takes_kw (o := (⟨ai, ao, 2, an, au⟩ : Od)) HT.out _
        | with_reducible exact rtakes_kw (o := (⟨ai, ao, 2, an, au⟩ : Od)) HT.out _))
  refine wpQuiet_nil ?_
  intro _ hw'
  obtain ⟨x, rfl⟩ := hw'
  go_wp2
  go_ret
  exact ⟨rfl, hk4.trans x.kept⟩

set_option maxHeartbeats 4000000 in
set_option maxRecDepth 100000 in
theorem two_2ftf (ai ao an au bi bo bn bu net : Int) (w : World) (hX : rahB (⟨ai, ao, 2, an, au⟩ : Od) (⟨bi, bo, 2, bn, bu⟩ : Od) = false) (hY : rahB (⟨bi, bo, 2, bn, bu⟩ : Od) (⟨ai, ao, 2, an, au⟩ : Od) = true) (hT : takesB (⟨ai, ao, 2, an, au⟩ : Od) net = false) :
    Calls Try.prog 4 #[.agg #[.int .i64 ai, .int .i64 ao, .int .i64 2, .int .i64 an, .int .i64 au], .agg #[.int .i64 bi, .int .i64 bo, .int .i64 2, .int .i64 bn, .int .i64 bu], .int .i64 net] w (FinPost w) := by
  obtain ⟨l1, l2, l3, l4⟩ := two_law (a := (⟨ai, ao, 2, an, au⟩ : Od)) (b := (⟨bi, bo, 2, bn, bu⟩ : Od)) rfl (.inr rfl)
  rw [hX] at l1
  rw [hY] at l2
  rw [hX, hY] at l3 l4
  have L1 := Lib.hid l1
  have L2 := Lib.hid l2
  have HX := Lib.hid hX
  have HY := Lib.hid hY
  clear l1 l2 l3 l4 hX hY
  have HT := Lib.hid hT
  clear hT
  have hb1 : ((w.alloc (.cells #[.int .i64 ai, .int .i64 ao, .int .i64 2, .int .i64 an, .int .i64 au] 31)).alloc (.cells #[.int .i64 bi, .int .i64 bo, .int .i64 2, .int .i64 bn, .int .i64 bu] 31)).heap[w.heap.size + 1]? = some (boxO (⟨bi, bo, 2, bn, bu⟩ : Od)) := block_new (by simp)
  have ha1 : ((w.alloc (.cells #[.int .i64 ai, .int .i64 ao, .int .i64 2, .int .i64 an, .int .i64 au] 31)).alloc (.cells #[.int .i64 bi, .int .i64 bo, .int .i64 2, .int .i64 bn, .int .i64 bu] 31)).heap[w.heap.size]? = some (boxO (⟨ai, ao, 2, an, au⟩ : Od)) := block_alloc (block_alloc_new _ _)
  have hk1 : Kept (fun _ => False) w ((w.alloc (.cells #[.int .i64 ai, .int .i64 ao, .int .i64 2, .int .i64 an, .int .i64 au] 31)).alloc (.cells #[.int .i64 bi, .int .i64 bo, .int .i64 2, .int .i64 bn, .int .i64 bu] 31)) := ((Kept.refl _ _).alloc _).alloc _
  go_enter Try.func4, Try.ntmps4
  go_wp2_with fail
  generalize w.heap.size + 1 = qb at hb1 ⊢
  generalize w.heap.size = qa at ha1 ⊢
  generalize (w.alloc (.cells #[.int .i64 ai, .int .i64 ao, .int .i64 2, .int .i64 an, .int .i64 au] 31)).alloc (.cells #[.int .i64 bi, .int .i64 bo, .int .i64 2, .int .i64 bn, .int .i64 bu] 31) = w1 at ha1 hb1 hk1 ⊢
  refine (known_any w1).mono ?_
  rintro e w2 ⟨rfl, k2⟩
  have ha2 := (k2.block qa (lt_of_block ha1) (fun h => h)).trans ha1
  have hb2 := (k2.block qb (lt_of_block hb1) (fun h => h)).trans hb1
  have hk2 := hk1.trans k2
  clear ha1 hb1 hk1 k2
  have a0 : w2.cell? ⟨qa, 0, none⟩ = some (.int .i64 ai) := by rw [cell_of_block ha2]; rfl
  have a1 : w2.cell? ⟨qa, 1, none⟩ = some (.int .i64 ao) := by rw [cell_of_block ha2]; rfl
  have a2 : w2.cell? ⟨qa, 2, none⟩ = some (.int .i64 2) := by rw [cell_of_block ha2]; rfl
  have a3 : w2.cell? ⟨qa, 3, none⟩ = some (.int .i64 an) := by rw [cell_of_block ha2]; rfl
  have a4 : w2.cell? ⟨qa, 4, none⟩ = some (.int .i64 au) := by rw [cell_of_block ha2]; rfl
  have b0 : w2.cell? ⟨qb, 0, none⟩ = some (.int .i64 bi) := by rw [cell_of_block hb2]; rfl
  have b1 : w2.cell? ⟨qb, 1, none⟩ = some (.int .i64 bo) := by rw [cell_of_block hb2]; rfl
  have b2 : w2.cell? ⟨qb, 2, none⟩ = some (.int .i64 2) := by rw [cell_of_block hb2]; rfl
  have b3 : w2.cell? ⟨qb, 3, none⟩ = some (.int .i64 bn) := by rw [cell_of_block hb2]; rfl
  have b4 : w2.cell? ⟨qb, 4, none⟩ = some (.int .i64 bu) := by rw [cell_of_block hb2]; rfl
  go_wp2_with fail
  refine (ahead_is (a := (⟨ai, ao, 2, an, au⟩ : Od)) (b := (⟨bi, bo, 2, bn, bu⟩ : Od)) L1.out _).mono ?_
  rintro e w3 ⟨rfl, k3⟩
  have ha3 := (k3.block qa (lt_of_block ha2) (fun h => h)).trans ha2
  have hb3 := (k3.block qb (lt_of_block hb2) (fun h => h)).trans hb2
  have hk3 := hk2.trans k3
  clear ha2 hb2 hk2 k3 a0 a1 a2 a3 a4 b0 b1 b2 b3 b4
  have a0 : w3.cell? ⟨qa, 0, none⟩ = some (.int .i64 ai) := by rw [cell_of_block ha3]; rfl
  have a1 : w3.cell? ⟨qa, 1, none⟩ = some (.int .i64 ao) := by rw [cell_of_block ha3]; rfl
  have a2 : w3.cell? ⟨qa, 2, none⟩ = some (.int .i64 2) := by rw [cell_of_block ha3]; rfl
  have a3 : w3.cell? ⟨qa, 3, none⟩ = some (.int .i64 an) := by rw [cell_of_block ha3]; rfl
  have a4 : w3.cell? ⟨qa, 4, none⟩ = some (.int .i64 au) := by rw [cell_of_block ha3]; rfl
  have b0 : w3.cell? ⟨qb, 0, none⟩ = some (.int .i64 bi) := by rw [cell_of_block hb3]; rfl
  have b1 : w3.cell? ⟨qb, 1, none⟩ = some (.int .i64 bo) := by rw [cell_of_block hb3]; rfl
  have b2 : w3.cell? ⟨qb, 2, none⟩ = some (.int .i64 2) := by rw [cell_of_block hb3]; rfl
  have b3 : w3.cell? ⟨qb, 3, none⟩ = some (.int .i64 bn) := by rw [cell_of_block hb3]; rfl
  have b4 : w3.cell? ⟨qb, 4, none⟩ = some (.int .i64 bu) := by rw [cell_of_block hb3]; rfl
  go_wp2_with fail
  refine (ahead_is (a := (⟨bi, bo, 2, bn, bu⟩ : Od)) (b := (⟨ai, ao, 2, an, au⟩ : Od)) L2.out _).mono ?_
  rintro e w4 ⟨rfl, k4⟩
  have ha4 := (k4.block qa (lt_of_block ha3) (fun h => h)).trans ha3
  have hb4 := (k4.block qb (lt_of_block hb3) (fun h => h)).trans hb3
  have hk4 := hk3.trans k4
  clear ha3 hb3 hk3 k4 a0 a1 a2 a3 a4 b0 b1 b2 b3 b4
  have a0 := fun x : KW w4 => KW.cell (show w4.cell? ⟨qa, 0, none⟩ = some (.int .i64 ai) by rw [cell_of_block ha4]; rfl) x
  have a1 := fun x : KW w4 => KW.cell (show w4.cell? ⟨qa, 1, none⟩ = some (.int .i64 ao) by rw [cell_of_block ha4]; rfl) x
  have a2 := fun x : KW w4 => KW.cell (show w4.cell? ⟨qa, 2, none⟩ = some (.int .i64 2) by rw [cell_of_block ha4]; rfl) x
  have a3 := fun x : KW w4 => KW.cell (show w4.cell? ⟨qa, 3, none⟩ = some (.int .i64 an) by rw [cell_of_block ha4]; rfl) x
  have a4 := fun x : KW w4 => KW.cell (show w4.cell? ⟨qa, 4, none⟩ = some (.int .i64 au) by rw [cell_of_block ha4]; rfl) x
  have b0 := fun x : KW w4 => KW.cell (show w4.cell? ⟨qb, 0, none⟩ = some (.int .i64 bi) by rw [cell_of_block hb4]; rfl) x
  have b1 := fun x : KW w4 => KW.cell (show w4.cell? ⟨qb, 1, none⟩ = some (.int .i64 bo) by rw [cell_of_block hb4]; rfl) x
  have b2 := fun x : KW w4 => KW.cell (show w4.cell? ⟨qb, 2, none⟩ = some (.int .i64 2) by rw [cell_of_block hb4]; rfl) x
  have b3 := fun x : KW w4 => KW.cell (show w4.cell? ⟨qb, 3, none⟩ = some (.int .i64 bn) by rw [cell_of_block hb4]; rfl) x
  have b4 := fun x : KW w4 => KW.cell (show w4.cell? ⟨qb, 4, none⟩ = some (.int .i64 bu) by rw [cell_of_block hb4]; rfl) x
  clear L1 L2
  go_wp2_with fail
  refine wp_region_kept (by kernel_rfl) (by kernel_rfl) ?_
  repeat (go_big_quiet_step (first
        | with_reducible exact of_kw (⟨ai, ao, 2, an, au⟩ : Od) _
        | with_reducible exact of_kw (⟨bi, bo, 2, bn, bu⟩ : Od) _
        | with_reducible exact rahead_kw (a := (⟨ai, ao, 2, an, au⟩ : Od)) (b := (⟨bi, bo, 2, bn, bu⟩ : Od)) HX.out _
        | with_reducible exact rahead_kw (a := (⟨bi, bo, 2, bn, bu⟩ : Od)) (b := (⟨ai, ao, 2, an, au⟩ : Od)) HY.out _
        | with_reducible exact takes_kw (o := (⟨ai, ao, 2, an, au⟩ : Od)) HT.out _
        | with_reducible exact rtakes_kw (o := (⟨ai, ao, 2, an, au⟩ : Od)) HT.out _))
  refine wpQuiet_nil ?_
  intro _ hw'
  obtain ⟨x, rfl⟩ := hw'
  go_wp2
  go_ret
  exact ⟨rfl, hk4.trans x.kept⟩

set_option maxHeartbeats 4000000 in
set_option maxRecDepth 100000 in
theorem two_2ftt (ai ao an au bi bo bn bu net : Int) (w : World) (hX : rahB (⟨ai, ao, 2, an, au⟩ : Od) (⟨bi, bo, 2, bn, bu⟩ : Od) = false) (hY : rahB (⟨bi, bo, 2, bn, bu⟩ : Od) (⟨ai, ao, 2, an, au⟩ : Od) = true) (hT : takesB (⟨ai, ao, 2, an, au⟩ : Od) net = true) :
    Calls Try.prog 4 #[.agg #[.int .i64 ai, .int .i64 ao, .int .i64 2, .int .i64 an, .int .i64 au], .agg #[.int .i64 bi, .int .i64 bo, .int .i64 2, .int .i64 bn, .int .i64 bu], .int .i64 net] w (FinPost w) := by
  obtain ⟨l1, l2, l3, l4⟩ := two_law (a := (⟨ai, ao, 2, an, au⟩ : Od)) (b := (⟨bi, bo, 2, bn, bu⟩ : Od)) rfl (.inr rfl)
  rw [hX] at l1
  rw [hY] at l2
  rw [hX, hY] at l3 l4
  have L1 := Lib.hid l1
  have L2 := Lib.hid l2
  have HX := Lib.hid hX
  have HY := Lib.hid hY
  clear l1 l2 l3 l4 hX hY
  have HT := Lib.hid hT
  clear hT
  have hb1 : ((w.alloc (.cells #[.int .i64 ai, .int .i64 ao, .int .i64 2, .int .i64 an, .int .i64 au] 31)).alloc (.cells #[.int .i64 bi, .int .i64 bo, .int .i64 2, .int .i64 bn, .int .i64 bu] 31)).heap[w.heap.size + 1]? = some (boxO (⟨bi, bo, 2, bn, bu⟩ : Od)) := block_new (by simp)
  have ha1 : ((w.alloc (.cells #[.int .i64 ai, .int .i64 ao, .int .i64 2, .int .i64 an, .int .i64 au] 31)).alloc (.cells #[.int .i64 bi, .int .i64 bo, .int .i64 2, .int .i64 bn, .int .i64 bu] 31)).heap[w.heap.size]? = some (boxO (⟨ai, ao, 2, an, au⟩ : Od)) := block_alloc (block_alloc_new _ _)
  have hk1 : Kept (fun _ => False) w ((w.alloc (.cells #[.int .i64 ai, .int .i64 ao, .int .i64 2, .int .i64 an, .int .i64 au] 31)).alloc (.cells #[.int .i64 bi, .int .i64 bo, .int .i64 2, .int .i64 bn, .int .i64 bu] 31)) := ((Kept.refl _ _).alloc _).alloc _
  go_enter Try.func4, Try.ntmps4
  go_wp2_with fail
  generalize w.heap.size + 1 = qb at hb1 ⊢
  generalize w.heap.size = qa at ha1 ⊢
  generalize (w.alloc (.cells #[.int .i64 ai, .int .i64 ao, .int .i64 2, .int .i64 an, .int .i64 au] 31)).alloc (.cells #[.int .i64 bi, .int .i64 bo, .int .i64 2, .int .i64 bn, .int .i64 bu] 31) = w1 at ha1 hb1 hk1 ⊢
  refine (known_any w1).mono ?_
  rintro e w2 ⟨rfl, k2⟩
  have ha2 := (k2.block qa (lt_of_block ha1) (fun h => h)).trans ha1
  have hb2 := (k2.block qb (lt_of_block hb1) (fun h => h)).trans hb1
  have hk2 := hk1.trans k2
  clear ha1 hb1 hk1 k2
  have a0 : w2.cell? ⟨qa, 0, none⟩ = some (.int .i64 ai) := by rw [cell_of_block ha2]; rfl
  have a1 : w2.cell? ⟨qa, 1, none⟩ = some (.int .i64 ao) := by rw [cell_of_block ha2]; rfl
  have a2 : w2.cell? ⟨qa, 2, none⟩ = some (.int .i64 2) := by rw [cell_of_block ha2]; rfl
  have a3 : w2.cell? ⟨qa, 3, none⟩ = some (.int .i64 an) := by rw [cell_of_block ha2]; rfl
  have a4 : w2.cell? ⟨qa, 4, none⟩ = some (.int .i64 au) := by rw [cell_of_block ha2]; rfl
  have b0 : w2.cell? ⟨qb, 0, none⟩ = some (.int .i64 bi) := by rw [cell_of_block hb2]; rfl
  have b1 : w2.cell? ⟨qb, 1, none⟩ = some (.int .i64 bo) := by rw [cell_of_block hb2]; rfl
  have b2 : w2.cell? ⟨qb, 2, none⟩ = some (.int .i64 2) := by rw [cell_of_block hb2]; rfl
  have b3 : w2.cell? ⟨qb, 3, none⟩ = some (.int .i64 bn) := by rw [cell_of_block hb2]; rfl
  have b4 : w2.cell? ⟨qb, 4, none⟩ = some (.int .i64 bu) := by rw [cell_of_block hb2]; rfl
  go_wp2_with fail
  refine (ahead_is (a := (⟨ai, ao, 2, an, au⟩ : Od)) (b := (⟨bi, bo, 2, bn, bu⟩ : Od)) L1.out _).mono ?_
  rintro e w3 ⟨rfl, k3⟩
  have ha3 := (k3.block qa (lt_of_block ha2) (fun h => h)).trans ha2
  have hb3 := (k3.block qb (lt_of_block hb2) (fun h => h)).trans hb2
  have hk3 := hk2.trans k3
  clear ha2 hb2 hk2 k3 a0 a1 a2 a3 a4 b0 b1 b2 b3 b4
  have a0 : w3.cell? ⟨qa, 0, none⟩ = some (.int .i64 ai) := by rw [cell_of_block ha3]; rfl
  have a1 : w3.cell? ⟨qa, 1, none⟩ = some (.int .i64 ao) := by rw [cell_of_block ha3]; rfl
  have a2 : w3.cell? ⟨qa, 2, none⟩ = some (.int .i64 2) := by rw [cell_of_block ha3]; rfl
  have a3 : w3.cell? ⟨qa, 3, none⟩ = some (.int .i64 an) := by rw [cell_of_block ha3]; rfl
  have a4 : w3.cell? ⟨qa, 4, none⟩ = some (.int .i64 au) := by rw [cell_of_block ha3]; rfl
  have b0 : w3.cell? ⟨qb, 0, none⟩ = some (.int .i64 bi) := by rw [cell_of_block hb3]; rfl
  have b1 : w3.cell? ⟨qb, 1, none⟩ = some (.int .i64 bo) := by rw [cell_of_block hb3]; rfl
  have b2 : w3.cell? ⟨qb, 2, none⟩ = some (.int .i64 2) := by rw [cell_of_block hb3]; rfl
  have b3 : w3.cell? ⟨qb, 3, none⟩ = some (.int .i64 bn) := by rw [cell_of_block hb3]; rfl
  have b4 : w3.cell? ⟨qb, 4, none⟩ = some (.int .i64 bu) := by rw [cell_of_block hb3]; rfl
  go_wp2_with fail
  refine (ahead_is (a := (⟨bi, bo, 2, bn, bu⟩ : Od)) (b := (⟨ai, ao, 2, an, au⟩ : Od)) L2.out _).mono ?_
  rintro e w4 ⟨rfl, k4⟩
  have ha4 := (k4.block qa (lt_of_block ha3) (fun h => h)).trans ha3
  have hb4 := (k4.block qb (lt_of_block hb3) (fun h => h)).trans hb3
  have hk4 := hk3.trans k4
  clear ha3 hb3 hk3 k4 a0 a1 a2 a3 a4 b0 b1 b2 b3 b4
  have a0 := fun x : KW w4 => KW.cell (show w4.cell? ⟨qa, 0, none⟩ = some (.int .i64 ai) by rw [cell_of_block ha4]; rfl) x
  have a1 := fun x : KW w4 => KW.cell (show w4.cell? ⟨qa, 1, none⟩ = some (.int .i64 ao) by rw [cell_of_block ha4]; rfl) x
  have a2 := fun x : KW w4 => KW.cell (show w4.cell? ⟨qa, 2, none⟩ = some (.int .i64 2) by rw [cell_of_block ha4]; rfl) x
  have a3 := fun x : KW w4 => KW.cell (show w4.cell? ⟨qa, 3, none⟩ = some (.int .i64 an) by rw [cell_of_block ha4]; rfl) x
  have a4 := fun x : KW w4 => KW.cell (show w4.cell? ⟨qa, 4, none⟩ = some (.int .i64 au) by rw [cell_of_block ha4]; rfl) x
  have b0 := fun x : KW w4 => KW.cell (show w4.cell? ⟨qb, 0, none⟩ = some (.int .i64 bi) by rw [cell_of_block hb4]; rfl) x
  have b1 := fun x : KW w4 => KW.cell (show w4.cell? ⟨qb, 1, none⟩ = some (.int .i64 bo) by rw [cell_of_block hb4]; rfl) x
  have b2 := fun x : KW w4 => KW.cell (show w4.cell? ⟨qb, 2, none⟩ = some (.int .i64 2) by rw [cell_of_block hb4]; rfl) x
  have b3 := fun x : KW w4 => KW.cell (show w4.cell? ⟨qb, 3, none⟩ = some (.int .i64 bn) by rw [cell_of_block hb4]; rfl) x
  have b4 := fun x : KW w4 => KW.cell (show w4.cell? ⟨qb, 4, none⟩ = some (.int .i64 bu) by rw [cell_of_block hb4]; rfl) x
  clear L1 L2
  go_wp2_with fail
  refine wp_region_kept (by kernel_rfl) (by kernel_rfl) ?_
  repeat (go_big_quiet_step (first
        | with_reducible exact of_kw (⟨ai, ao, 2, an, au⟩ : Od) _
        | with_reducible exact of_kw (⟨bi, bo, 2, bn, bu⟩ : Od) _
        | with_reducible exact rahead_kw (a := (⟨ai, ao, 2, an, au⟩ : Od)) (b := (⟨bi, bo, 2, bn, bu⟩ : Od)) HX.out _
        | with_reducible exact rahead_kw (a := (⟨bi, bo, 2, bn, bu⟩ : Od)) (b := (⟨ai, ao, 2, an, au⟩ : Od)) HY.out _
        | with_reducible exact takes_kw (o := (⟨ai, ao, 2, an, au⟩ : Od)) HT.out _
        | with_reducible exact rtakes_kw (o := (⟨ai, ao, 2, an, au⟩ : Od)) HT.out _))
  refine wpQuiet_nil ?_
  intro _ hw'
  obtain ⟨x, rfl⟩ := hw'
  go_wp2
  go_ret
  exact ⟨rfl, hk4.trans x.kept⟩
end Go.Proofs.Ytopfgcnehdjjpaa
