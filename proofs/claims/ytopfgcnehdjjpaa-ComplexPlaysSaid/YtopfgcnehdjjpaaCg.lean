/- slices.Insert of one complex order, in the midst: the walks. -/
import Derived.Test.YtopfgcnehdjjpaaCf
import Derived.IntWalk
namespace Go.Proofs.Ytopfgcnehdjjpaa
open Go.RowKit

theorem oc_len (xs : List Od) : (xs.flatMap odC).length = xs.length * 5 := fm_len odC_len xs
/-- What two copies make of a block: what stood from i on, one further; then the new one at i. -/
theorem two_copies {w : World} {t o n : Nat} {arr : Array Value} {xs : List Od} {d : Od} {i : Nat} (hb : w.heap[t]? = some (.cells arr 31 (0, 0))) (ho : o + (xs.length + 1) * 5 ≤ arr.size) (hi : i ≤ xs.length) (hn : n = xs.length + 1)
    (hx : ∀ j, j < i * 5 → arr[o + j]? = (xs.flatMap odC)[j]?) :
    ∃ arr', ((w.setCells t (o + (i + 1) * 5) ((xs.drop i).flatMap odC)).setCells t (o + i * 5) (odC d)).heap[t]? = some (.cells arr' 31 (0, 0)) ∧ arr'.size = arr.size ∧ ∀ j, j < n * 5 → arr'[o + j]? = ((insAt xs i d).flatMap odC)[j]? := by
  have hl1 : ((xs.drop i).flatMap odC).length = (xs.length - i) * 5 := by rw [oc_len, List.length_drop]
  obtain ⟨a1, k1, k2, k3, k4⟩ := setCells_block ((xs.drop i).flatMap odC) (o + (i + 1) * 5) w arr hb (by omega)
  have hl2 : (odC d).length = 5 := rfl
  obtain ⟨a2, m1, m2, m3, m4⟩ := setCells_block (odC d) (o + i * 5) _ a1 k1 (by omega)
  refine ⟨a2, m1, by omega, fun j hj => ?_⟩
  have htl : ((xs.take i).flatMap odC).length = i * 5 := by rw [oc_len, List.length_take]; omega
  have hcat : (insAt xs i d).flatMap odC = (xs.take i).flatMap odC ++ (odC d ++ (xs.drop i).flatMap odC) := by simp [insAt]
  rw [hcat]
  clear hcat m1
  generalize odC d = c5 at hl2 m2 m3 m4 ⊢
  generalize (xs.drop i).flatMap odC = cd at hl1 k4 k3 ⊢
  by_cases h1 : j < i * 5
  · rw [m3 _ (by omega), k3 _ (by omega), hx j h1, List.getElem?_append_left (by omega), ← fm_take odC_len, List.getElem?_take, if_pos h1]
  · rw [List.getElem?_append_right (by omega), htl]
    by_cases h2 : j < i * 5 + 5
    · rw [List.getElem?_append_left (by omega), ← m4 (j - i * 5) (by omega)]; congr 1; omega
    · rw [m3 _ (by omega), List.getElem?_append_right (by omega), hl2, ← k4 (j - i * 5 - 5) (by omega)]; congr 1; omega
theorem two_copies2 {w : World} {t n : Nat} {arr : Array Value} {xs : List Od} {d : Od} {i : Nat} (hb : w.heap[t]? = some (.cells arr 31 (0, 0))) (ho : (xs.length + 1) * 5 ≤ arr.size) (hi : i ≤ xs.length) (hn : n = xs.length + 1)
    (hx : ∀ j, j < i * 5 → arr[0 + j]? = (xs.flatMap odC)[j]?) :
    ∃ arr', ((w.setCells t (i * 5) (odC d)).drew.setCells t ((i + 1) * 5) ((xs.drop i).flatMap odC)).heap[t]? = some (.cells arr' 31 (0, 0)) ∧ arr'.size = arr.size ∧ ∀ j, j < n * 5 → arr'[0 + j]? = ((insAt xs i d).flatMap odC)[j]? := by
  have hl1 : ((xs.drop i).flatMap odC).length = (xs.length - i) * 5 := by rw [oc_len, List.length_drop]
  have hl2 : (odC d).length = 5 := rfl
  obtain ⟨a1, k1, k2, k3, k4⟩ := setCells_block (odC d) (i * 5) w arr hb (by omega)
  have k1' : (w.setCells t (i * 5) (odC d)).drew.heap[t]? = some (.cells a1 31 (0, 0)) := block_drew k1
  generalize (w.setCells t (i * 5) (odC d)).drew = w1 at k1' ⊢
  clear k1
  obtain ⟨a2, m1, m2, m3, m4⟩ := setCells_block ((xs.drop i).flatMap odC) ((i + 1) * 5) w1 a1 k1' (by omega)
  refine ⟨a2, m1, by omega, fun j hj => ?_⟩
  have htl : ((xs.take i).flatMap odC).length = i * 5 := by rw [oc_len, List.length_take]; omega
  have hcat : (insAt xs i d).flatMap odC = (xs.take i).flatMap odC ++ (odC d ++ (xs.drop i).flatMap odC) := by simp [insAt]
  rw [hcat, Nat.zero_add]
  clear hcat m1 k1'
  generalize odC d = c5 at hl2 k2 k3 k4 ⊢
  generalize (xs.drop i).flatMap odC = cd at hl1 m4 m3 ⊢
  by_cases h1 : j < i * 5
  · have := hx j h1
    rw [Nat.zero_add] at this
    rw [m3 j (by omega), k3 j (by omega), this, List.getElem?_append_left (by omega), ← fm_take odC_len, List.getElem?_take, if_pos h1]
  · rw [List.getElem?_append_right (by omega), htl]
    by_cases h2 : j < i * 5 + 5
    · rw [m3 j (by omega), List.getElem?_append_left (by omega), ← k4 (j - i * 5) (by omega)]; congr 1; omega
    · rw [List.getElem?_append_right (by omega), hl2, ← m4 (j - i * 5 - 5) (by omega)]; congr 1; omega
theorem cells_there {w : World} {t o : Nat} {arr : Array Value} (hb : w.heap[t]? = some (.cells arr 31 (0, 0))) {j : Nat} (h : o + j < arr.size) : (w.cell? ⟨t, o + j, none⟩).isSome = true := by
  rw [cell_of_block hb]; simpa using h

theorem ins_room (t o cap : Nat) (xs : List Od) (d : Od) (vb i : Nat) (w : World) (h : SlAt w 31 5 (some ⟨t, o, none⟩) xs.length cap (xs.flatMap odC)) (hv : w.heap[vb]? = some (.cells (odC d).toArray 31 (0, 0))) (hne : vb ≠ t)
    (hi : i < xs.length) (hroom : xs.length + 1 ≤ cap) (h256 : xs.length ≤ 256) :
    Calls Try.prog 31 #[.slice (some ⟨t, o, none⟩) xs.length cap, .int .i64 i, .slice (some ⟨vb, 0, none⟩) 1 1] w (InsPost (some ⟨t, o, none⟩) (insAt xs i d) w) := by
  obtain ⟨i0, hi0, hz0, hz1, hz2⟩ := info_parts Try.info31'
  obtain ⟨arr, hb, ho, hx⟩ : ∃ arr, w.heap[t]? = some (.cells arr 31 (0, 0)) ∧ o + cap * 5 ≤ arr.size ∧ ∀ j, j < xs.length * 5 → arr[o + j]? = (xs.flatMap odC)[j]? := by
    rcases h.2.2 with ⟨h2, _⟩ | ⟨t', o', arr, ha, hb, ho, hx⟩
    · cases h2
    · cases ha; exact ⟨arr, hb, ho, hx⟩
  have hov : ∀ lb cb, (callFunc 41 #[.slice (some ⟨vb, 0, none⟩) 1 1, .slice (some ⟨t, o + (i + 1) * 5, none⟩) lb cb]).run Try.prog w = .ok (.value (.bool false)) w := fun lb cb => by
    rw [run_callFunc_extern Try.func41 (by kernel_rfl) (by kernel_rfl) (by kernel_rfl) (e := Extern.SlicesOverlaps.overlaps #[61, 61] #[4]) (by kernel_rfl),
      Lib.run_overlaps_apart w 61 4 31 Try.underlying61 5 (fun w => by simp [sizeOf, typeInfo, hi0, hz1]) ⟨vb, 0, none⟩ ⟨t, o + (i + 1) * 5, none⟩ 1 1 lb cb hne 31 31 5 arr.size (by simp [World.shape?, hv, odC]) (by simp [World.shape?, hb]) (by omega) (free_of_block hv _) (free_of_block hv _)]
    rfl
  have Hx := Lib.hid hx
  clear hx
  have hc1 : ¬ (cap = i) := by omega
  have hc2 : ¬ (cap = i + 1) := by omega
  go_enter Try.func31, Try.ntmps31
  go_wp2_with fail
  have hw1 : IntKind.i64.wrap ((i : Int) + 1) = (i : Int) + 1 := IntWalk.i64_in _ (by omega)
  have hb1 : (0 : Int) ≤ (i : Int) + 1 := by omega
  have htn : ((i : Int) + 1).toNat = i + 1 := by omega
  have hb3 : (i : Int) ≤ (xs.length : Int) + 1 := by omega
  have hb4 : (i : Int) ≤ (xs.length : Int) := by omega
  have hb5 : i ≤ xs.length := by omega
  have hl1 : ((xs.drop i).flatMap odC).length = (xs.length - i) * 5 := by rw [oc_len, List.length_drop]
  have Hl1 := Lib.hid hl1
  clear hl1
  have hcp1 : ∀ ty, (Builtin.copy_ #[61, 61] ty #[.slice (some ⟨t, o + (i + 1) * 5, none⟩) (xs.length - i) (cap - (i + 1)), .slice (some ⟨t, o + i * 5, none⟩) (xs.length + 1 - i) (cap - i)]).run Try.prog w.drew =
      .ok (goInt (Nat.min (xs.length + 1 - i) (xs.length - i))) (w.drew.setCells t (o + (i + 1) * 5) ((xs.drop i).flatMap odC)) := fun ty =>
    run_copy_any w.drew 61 61 ty 31 i0 5 Try.underlying61 hi0 hz1 t (o + (i + 1) * 5) (xs.length - i) (cap - (i + 1)) ⟨t, o + i * 5, none⟩ (xs.length + 1 - i) (cap - i) ((xs.drop i).flatMap odC)
      (by rw [Hl1.out, show Nat.min (xs.length + 1 - i) (xs.length - i) = xs.length - i from Nat.min_eq_right (by omega)])
      (fun j v hj => by
        have hjl : j < (xs.length - i) * 5 := by rw [← Hl1.out]; exact (List.getElem?_eq_some_iff.1 hj).1
        rw [addr_add, Nat.add_assoc, show w.drew.cell? ⟨t, o + (i * 5 + j), none⟩ = _ from cell_of_block hb _, Hx.out _ (by omega), ← hj, ← fm_drop odC_len, List.getElem?_drop])
      (fun j hj => by rw [Hl1.out] at hj; rw [Nat.add_assoc]; exact cells_there (w := w.drew) hb (by omega)) (fun j _ => free_of_block (w := w.drew) hb _) (od_one _)
  have hbd : w.drew.heap[t]? = some (.cells arr 31 (0, 0)) := hb
  obtain ⟨a1, k1, k2, k3, k4⟩ := setCells_block ((xs.drop i).flatMap odC) (o + (i + 1) * 5) w.drew arr hbd (by rw [Hl1.out]; omega)
  obtain ⟨a2, m1, m2, m3⟩ := two_copies (d := d) hbd (n := xs.length + 1) (by omega) (Nat.le_of_lt hi) rfl (fun j hj => Hx.out j (by omega))
  have hkw : Kept (OnB (some ⟨t, o, none⟩)) w ((w.drew.setCells t (o + (i + 1) * 5) ((xs.drop i).flatMap odC)).setCells t (o + i * 5) (odC d)) :=
    ((Kept.refl _ w).drew.trans ((setCells_keeps _ _ _ _).mono fun j _ e => ⟨_, rfl, e⟩)).trans' ((setCells_keeps _ _ _ _).mono (G := OnB (some ⟨t, o, none⟩)) fun j _ e => ⟨_, rfl, e⟩) fun _ _ h => h
  have hcp2 : ∀ ty, (Builtin.copy_ #[61, 61] ty #[.slice (some ⟨t, o + i * 5, none⟩) (xs.length + 1 - i) (cap - i), .slice (some ⟨vb, 0, none⟩) 1 1]).run Try.prog (w.drew.setCells t (o + (i + 1) * 5) ((xs.drop i).flatMap odC)) =
      .ok (goInt (Nat.min 1 (xs.length + 1 - i))) ((w.drew.setCells t (o + (i + 1) * 5) ((xs.drop i).flatMap odC)).setCells t (o + i * 5) (odC d)) := fun ty =>
    run_copy_any _ 61 61 ty 31 i0 5 Try.underlying61 hi0 hz1 t (o + i * 5) (xs.length + 1 - i) (cap - i) ⟨vb, 0, none⟩ 1 1 (odC d)
      (by rw [show Nat.min 1 (xs.length + 1 - i) = 1 from Nat.min_eq_left (by omega)]; rfl)
      (fun j v hj => by
        rw [addr_add, World.cell?_of_block (w := w.drew) (a := ⟨vb, 0 + j, none⟩) ((setCells_keeps w.drew t _ _).block vb (lt_of_block hv) hne), show w.drew.cell? ⟨vb, 0 + j, none⟩ = _ from cell_of_block hv _, Nat.zero_add]; simpa using hj)
      (fun j hj => by have : j < 5 := hj; rw [Nat.add_assoc]; exact cells_there k1 (by omega)) (fun j _ => free_of_block k1 _) (odC_one d)
  have Hcp1 := Lib.hid hcp1
  have Hcp2 := Lib.hid hcp2
  have Hm1 := Lib.hid m1
  have Hm3 := Lib.hid m3
  have Hkw := Lib.hid hkw
  clear hcp1 hcp2 hkw m1 m3 k1 k3 k4 hbd hv
  go_region_law (refine step_copy_eq rfl (.tmp 73) (.tmp 76) 61 61 rfl _ _ (by simp [Act.eval, Act.put]) (by simp [Act.eval, Act.put]) (Hcp1.out _) ?_)
  generalize w.drew.setCells t (o + (i + 1) * 5) ((xs.drop i).flatMap odC) = w1 at Hcp2 Hm1 Hkw ⊢
  clear hw1 htn
  go_wp2_with (refine wpList_copy_eq rfl (.tmp 80) (.tmp 81) 61 61 rfl _ _ rfl rfl (Hcp2.out _) ?_)
  go_ret
  refine ⟨some ⟨t, o, none⟩, cap, by rw [insAt_len _ (Nat.le_of_lt hi)]; rfl, ⟨by rw [oc_len], by rw [insAt_len _ (Nat.le_of_lt hi)]; exact hroom, .inr ⟨t, o, a2, rfl, Hm1.out, by omega, fun j hj => Hm3.out j (by rw [insAt_len _ (Nat.le_of_lt hi)] at hj; exact hj)⟩⟩, Hkw.out, fun t' ht' => .inl (by cases ht'; rfl)⟩

set_option maxHeartbeats 1000000 in
/-- In the midst, without room: into a new block. -/
theorem ins_grow (t o cap : Nat) (xs : List Od) (d : Od) (vb i : Nat) (w : World) (h : SlAt w 31 5 (some ⟨t, o, none⟩) xs.length cap (xs.flatMap odC)) (hv : w.heap[vb]? = some (.cells (odC d).toArray 31 (0, 0)))
    (hi : i < xs.length) (hroom1 : xs.length ≤ cap) (hroom2 : cap < xs.length + 1) (h256 : xs.length ≤ 256) :
    Calls Try.prog 31 #[.slice (some ⟨t, o, none⟩) xs.length cap, .int .i64 i, .slice (some ⟨vb, 0, none⟩) 1 1] w (InsPost (some ⟨t, o, none⟩) (insAt xs i d) w) := by
  obtain ⟨i0, hi0, hz0, hz1, hz2⟩ := info_parts Try.info31'
  obtain ⟨arr, hb, ho, hx⟩ : ∃ arr, w.heap[t]? = some (.cells arr 31 (0, 0)) ∧ o + cap * 5 ≤ arr.size ∧ ∀ j, j < xs.length * 5 → arr[o + j]? = (xs.flatMap odC)[j]? := by
    rcases h.2.2 with ⟨h2, _⟩ | ⟨t', o', arr, ha, hb, ho, hx⟩
    · cases h2
    · cases ha; exact ⟨arr, hb, ho, hx⟩
  have Hx := Lib.hid hx
  clear hx
  have hc1 : ¬ (cap = i) := by omega
  obtain ⟨G, hG⟩ : ∃ G, grownCap w (xs.length + 1) cap 31 = G := ⟨_, rfl⟩
  have hge := grownCap_ge w (xs.length + 1) cap 31
  rw [hG] at hge
  have hc3 : ¬ (G = i) := by omega
  have hc4 : ¬ (G = i + 1) := by omega
  obtain ⟨row, hrow⟩ : ∃ row, ((xs.flatMap odC).take (i * 5)).toArray ++ Builtin.zeroCells (Value.agg #[.int .i64 0, .int .i64 0, .int .i64 0, .int .i64 0, .int .i64 0]).cells (xs.length + 1 - i) ++ Builtin.zeroCells (Value.agg #[.int .i64 0, .int .i64 0, .int .i64 0, .int .i64 0, .int .i64 0]).cells (G - (xs.length + 1)) = row := ⟨_, rfl⟩
  have hrs : row.size = G * 5 := by
    rw [← hrow]
    have hz : ∀ n, (Builtin.zeroCells (Value.agg #[.int .i64 0, .int .i64 0, .int .i64 0, .int .i64 0, .int .i64 0]).cells n).size = n * 5 := fun n => by simp [Builtin.zeroCells, Value.cells]
    rw [Array.size_append, Array.size_append, hz, hz, List.size_toArray, List.length_take, oc_len]; omega
  have hrx : ∀ j, j < i * 5 → row[0 + j]? = (xs.flatMap odC)[j]? := fun j hj => by
    have hl : j < ((xs.flatMap odC).take (i * 5)).toArray.size := by rw [List.size_toArray, List.length_take, oc_len]; omega
    rw [← hrow, Nat.zero_add, Array.getElem?_append_left (by rw [Array.size_append]; omega), Array.getElem?_append_left hl]
    simp [hj]
  have hold : (Builtin.firstCells i0.size i (.slice (some ⟨t, o, none⟩) i cap)).run Try.prog w.drew = .ok ((xs.flatMap odC).take (i * 5)).toArray w.drew := by
    rw [hz1]
    refine run_firstCells_some (P := Try.prog) w.drew 5 i ⟨t, o, none⟩ i cap ((xs.flatMap odC).take (i * 5)) (by rw [List.length_take, oc_len]; omega) (fun j u hu => ?_)
    have hj : j < i * 5 := by have := (List.getElem?_eq_some_iff.1 hu).1; rw [List.length_take] at this; omega
    rw [List.getElem?_take, if_pos hj] at hu
    rw [addr_add, show w.drew.cell? ⟨t, o + j, none⟩ = _ from cell_of_block hb _, Hx.out j (by omega)]; exact hu
  have hap : ∀ ty, (Builtin.append_ #[61, 3] ty #[.slice (some ⟨t, o, none⟩) i cap, .int .i64 ((xs.length : Int) + 1 - i)]).run Try.prog w = .ok (.slice (some ⟨w.heap.size, 0, none⟩) (xs.length + 1) G) (w.drew.alloc (.cells row 31)) := fun ty => by
    have hk := Lib.run_append_grow_zeros (P := Try.prog) w 61 3 ty 31 i0 _ .i64 .i64 Try.underlying61 Try.underlying3 hi0 hz0 (some ⟨t, o, none⟩) i cap ((xs.flatMap odC).take (i * 5)) hold (xs.length + 1 - i) (by omega) (by omega) (by omega) (by omega) (by rw [hz2]; omega)
      (by rw [hz2, show i + (xs.length + 1 - i) = xs.length + 1 by omega]; exact growslice_fits (by omega) (by omega))
    rw [show i + (xs.length + 1 - i) = xs.length + 1 by omega, hG, hrow] at hk
    rw [show ((xs.length : Int) + 1 - i) = ((xs.length + 1 - i : Nat) : Int) by omega]
    exact hk
  have hbw : t < w.heap.size := lt_of_block hb
  obtain ⟨w0, hw0⟩ : ∃ w0, w.drew.alloc (.cells row 31) = w0 := ⟨_, rfl⟩
  have hN : w0.heap[w.heap.size]? = some (.cells row 31 (0, 0)) := by rw [← hw0]; exact block_new rfl
  have hk0 : Kept (fun _ => False) w w0 := by rw [← hw0]; exact (Kept.refl _ w).drew.alloc _
  have hb0 := (hk0.block t hbw (fun h => h)).trans hb
  have hv0 := (hk0.block vb (lt_of_block hv) (fun h => h)).trans hv
  have hvb := lt_of_block hv
  have hl1 : ((xs.drop i).flatMap odC).length = (xs.length - i) * 5 := by rw [oc_len, List.length_drop]
  have hne : t ≠ w.heap.size := by omega
  have hnv : vb ≠ w.heap.size := by omega
  have hcpA : ∀ ty, (Builtin.copy_ #[61, 61] ty #[.slice (some ⟨w.heap.size, i * 5, none⟩) (xs.length + 1 - i) (G - i), .slice (some ⟨vb, 0, none⟩) 1 1]).run Try.prog w0 =
      .ok (goInt (Nat.min 1 (xs.length + 1 - i))) (w0.setCells w.heap.size (i * 5) (odC d)) := fun ty =>
    run_copy_any _ 61 61 ty 31 i0 5 Try.underlying61 hi0 hz1 w.heap.size (i * 5) (xs.length + 1 - i) (G - i) ⟨vb, 0, none⟩ 1 1 (odC d)
      (by rw [show Nat.min 1 (xs.length + 1 - i) = 1 from Nat.min_eq_left (by omega)]; rfl)
      (fun j v hj => by rw [addr_add, cell_of_block hv0, Nat.zero_add]; simpa using hj)
      (fun j hj => by have : j < 5 := hj; exact cells_there hN (by omega)) (fun j _ => free_of_block hN _) (odC_one d)
  obtain ⟨wA, hwA⟩ : ∃ wA, w0.setCells w.heap.size (i * 5) (odC d) = wA := ⟨_, rfl⟩
  have hkA : Kept (fun b => b = w.heap.size) w0 wA := by rw [← hwA]; exact setCells_keeps _ _ _ _
  have htA : wA.heap[t]? = some (.cells arr 31 (0, 0)) := (hkA.block t (lt_of_block hb0) hne).trans hb0
  obtain ⟨aA, hA1, hA2, hA3, hA4⟩ := setCells_block (odC d) (i * 5) w0 row hN (by rw [show (odC d).length = 5 from rfl]; omega)
  rw [hwA] at hA1
  have hcpB : ∀ ty, (Builtin.copy_ #[61, 61] ty #[.slice (some ⟨w.heap.size, (i + 1) * 5, none⟩) (xs.length - i) (G - (i + 1)), .slice (some ⟨t, o + i * 5, none⟩) (xs.length - i) (cap - i)]).run Try.prog wA.drew =
      .ok (goInt (Nat.min (xs.length - i) (xs.length - i))) (wA.drew.setCells w.heap.size ((i + 1) * 5) ((xs.drop i).flatMap odC)) := fun ty =>
    run_copy_any _ 61 61 ty 31 i0 5 Try.underlying61 hi0 hz1 w.heap.size ((i + 1) * 5) (xs.length - i) (G - (i + 1)) ⟨t, o + i * 5, none⟩ (xs.length - i) (cap - i) ((xs.drop i).flatMap odC)
      (by rw [hl1, show Nat.min (xs.length - i) (xs.length - i) = xs.length - i from Nat.min_self _])
      (fun j v hj => by
        have hjl : j < (xs.length - i) * 5 := by rw [← hl1]; exact (List.getElem?_eq_some_iff.1 hj).1
        rw [addr_add, Nat.add_assoc, show wA.drew.cell? ⟨t, o + (i * 5 + j), none⟩ = _ from cell_of_block htA _, Hx.out _ (by omega), ← hj, ← fm_drop odC_len, List.getElem?_drop])
      (fun j hj => by rw [hl1] at hj; exact cells_there (w := wA.drew) hA1 (by omega)) (fun j _ => free_of_block (w := wA.drew) hA1 _) (od_one _)
  obtain ⟨aB, hB1, hB2, hB3⟩ := two_copies2 (w := w0) (d := d) (n := xs.length + 1) hN (by omega) (Nat.le_of_lt hi) rfl hrx
  rw [hwA] at hB1
  have hkw : Kept (OnB (some ⟨t, o, none⟩)) w (wA.drew.setCells w.heap.size ((i + 1) * 5) ((xs.drop i).flatMap odC)) := by
    have h1 : Kept (fun _ => False) w wA := hk0.trans' (G := fun b => b = w.heap.size) hkA fun i hi e => by omega
    have h2 : Kept (fun _ => False) w (wA.drew.setCells w.heap.size ((i + 1) * 5) ((xs.drop i).flatMap odC)) := h1.drew.trans' (setCells_keeps _ _ _ _) fun i hi e => by omega
    exact h2.mono fun _ _ h => h.elim
  have hbs : 0 + G * 5 ≤ aB.size := by omega
  have HcpA := Lib.hid hcpA
  have HcpB := Lib.hid hcpB
  have HwA := Lib.hid hwA
  have HB1 := Lib.hid hB1
  have HB3 := Lib.hid hB3
  have Hkw := Lib.hid hkw
  have Hap := Lib.hid hap
  have hw1 : IntKind.i64.wrap ((i : Int) + 1) = (i : Int) + 1 := IntWalk.i64_in _ (by omega)
  have hb1 : (0 : Int) ≤ (i : Int) + 1 := by omega
  have htn : ((i : Int) + 1).toNat = i + 1 := by omega
  have hb4 : (i : Int) ≤ (xs.length : Int) := by omega
  have hb5 : i ≤ xs.length := by omega
  clear hcpA hcpB hwA hB1 hB3 hkw hA1 hA2 hA3 hA4 htA hkA hv0 hb0 hN hl1 hrs
  have Hw0 := Lib.hid hw0
  have Hrx := Lib.hid hrx
  clear hap hw0 hrx hold hrow hG h hv hb
  go_enter Try.func31, Try.ntmps31
  go_wp2_with (first
    | (at_builtin; refine wpList_append_eq rfl (.tmp 34) (.tmp 39) 61 3 rfl _ _ rfl rfl (Hap.out _) ?_; rw [Hw0.out])
    | (refine wpList_copy_eq rfl (.tmp 43) (.tmp 44) 61 61 rfl _ _ rfl rfl (HcpA.out _) ?_; rw [HwA.out]))
  go_region_law (refine step_copy_eq rfl (.tmp 50) (.tmp 53) 61 61 rfl _ _ (by simp [Act.eval, Act.put]) (by simp [Act.eval, Act.put]) (HcpB.out _) ?_)
  go_wp2
  go_ret
  refine ⟨some ⟨w.heap.size, 0, none⟩, G, by rw [insAt_len _ (Nat.le_of_lt hi)]; rfl, ⟨by rw [oc_len], by rw [insAt_len _ (Nat.le_of_lt hi)]; exact hge, .inr ⟨w.heap.size, 0, aB, rfl, HB1.out, hbs, fun j hj => HB3.out j (by rw [insAt_len _ (Nat.le_of_lt hi)] at hj; exact hj)⟩⟩, Hkw.out, fun t' ht' => .inr (by cases ht'; exact Nat.le_refl _)⟩
end Go.Proofs.Ytopfgcnehdjjpaa
