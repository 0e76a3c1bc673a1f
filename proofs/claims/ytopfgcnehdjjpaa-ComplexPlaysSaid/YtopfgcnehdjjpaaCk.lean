/- slices.Delete of one complex order: the walk. -/
import Derived.Test.YtopfgcnehdjjpaaCj
import Derived.Deep.RegionLaw
namespace Go.Proofs.Ytopfgcnehdjjpaa
open Go.RowKit

def delAt (xs : List Od) (i : Nat) : List Od := xs.take i ++ xs.drop (i + 1)
theorem delAt_len {xs : List Od} {i m : Nat} (h : xs.length = i + 1 + m) : (delAt xs i).length = i + m := by simp [delAt]; omega
def DelPost (t o cap : Nat) (ys : List Od) (w : World) (e : Ending) (w' : World) : Prop :=
  e = .returned (.slice (some ⟨t, o, none⟩) ys.length cap) ∧ SlAt w' 31 5 (some ⟨t, o, none⟩) ys.length cap (ys.flatMap odC) ∧ Kept (OnB (some ⟨t, o, none⟩)) w w'
theorem run_clear_one {P : Program} (w : World) (t ty e : TypeId) (i : TypeInfo) (z : Value) (ht : P.underlying t = some (.slice e)) (hi : P.info? e = some i) (hz : i.zero = some z) (b off c : Nat) (zs : List Value) (hzs : (Builtin.zeroCells z.cells 1).toList = zs)
    (hc : ∀ j, j < zs.length → (w.cell? ⟨b, off + j, none⟩).isSome = true) (hf : ∀ j, j < zs.length → w.frozen? ⟨b, off + j, none⟩ = false) (h1 : ∀ u ∈ zs, u.oneCell' = true) :
    (Builtin.clear_ #[t] ty #[.slice (some ⟨b, off, none⟩) 1 c]).run P w = .ok (.tuple #[]) (w.setCells b off zs) := by
  have hst := run_storeCells_cells (P := P) b off zs 0 w (by simpa using hc) (by simpa using hf) h1
  simp only [Nat.add_zero] at hst
  simp [Builtin.clear_, run_underlying ht, zeroValue, typeInfo, hi, hz, hzs, hst]

theorem del_row {w : World} {t o : Nat} {arr : Array Value} {xs : List Od} {i m : Nat} (hb : w.heap[t]? = some (.cells arr 31 (0, 0))) (hn : xs.length = i + 1 + m) (ho : o + xs.length * 5 ≤ arr.size) (zs : List Value) (hz : zs.length = 5)
    (hx : ∀ j, j < xs.length * 5 → arr[o + j]? = (xs.flatMap odC)[j]?) :
    ∃ arr', ((w.setCells t (o + i * 5) ((xs.drop (i + 1)).flatMap odC)).setCells t (o + (i + m) * 5) zs).heap[t]? = some (.cells arr' 31 (0, 0)) ∧ arr'.size = arr.size ∧ ∀ j, j < (i + m) * 5 → arr'[o + j]? = ((delAt xs i).flatMap odC)[j]? := by
  have hl1 : ((xs.drop (i + 1)).flatMap odC).length = m * 5 := by rw [oc_len, List.length_drop, hn]; congr 1; omega
  obtain ⟨a1, k1, k2, k3, k4⟩ := setCells_block ((xs.drop (i + 1)).flatMap odC) (o + i * 5) w arr hb (by omega)
  obtain ⟨a2, m1, m2, m3, m4⟩ := setCells_block zs (o + (i + m) * 5) _ a1 k1 (by omega)
  refine ⟨a2, m1, by omega, fun j hj => ?_⟩
  have htl : ((xs.take i).flatMap odC).length = i * 5 := by rw [oc_len, List.length_take]; omega
  have hcat : (delAt xs i).flatMap odC = (xs.take i).flatMap odC ++ (xs.drop (i + 1)).flatMap odC := by simp [delAt]
  rw [hcat]
  clear hcat m1
  generalize (xs.drop (i + 1)).flatMap odC = cd at hl1 k4 k3 ⊢
  by_cases h1 : j < i * 5
  · rw [m3 _ (by omega), k3 _ (by omega), hx j (by omega), List.getElem?_append_left (by omega), ← fm_take odC_len, List.getElem?_take, if_pos h1]
  · rw [m3 _ (by omega), List.getElem?_append_right (by omega), htl, ← k4 (j - i * 5) (by omega)]; congr 1; omega

def zero5 : List Value := [.int .i64 0, .int .i64 0, .int .i64 0, .int .i64 0, .int .i64 0]
theorem zero5_eq : (Builtin.zeroCells (Value.agg #[.int .i64 0, .int .i64 0, .int .i64 0, .int .i64 0, .int .i64 0]).cells 1).toList = zero5 := by kernel_rfl
set_option maxHeartbeats 1000000 in
theorem delete_any (t o cap i m : Nat) (xs : List Od) (hn : xs.length = i + 1 + m) (w : World) (h : SlAt w 31 5 (some ⟨t, o, none⟩) (i + 1 + m) cap (xs.flatMap odC)) (h256 : i + 1 + m ≤ 256) :
    Calls Try.prog 35 #[.slice (some ⟨t, o, none⟩) (i + 1 + m) cap, .int .i64 i, .int .i64 ((i : Int) + 1)] w (DelPost t o cap (delAt xs i) w) := by
  obtain ⟨i0, hi0, hz0, hz1, hz2⟩ := info_parts Try.info31'
  obtain ⟨arr, hb, ho, hx⟩ : ∃ arr, w.heap[t]? = some (.cells arr 31 (0, 0)) ∧ o + cap * 5 ≤ arr.size ∧ ∀ j, j < xs.length * 5 → arr[o + j]? = (xs.flatMap odC)[j]? := by
    rcases h.2.2 with ⟨h2, _⟩ | ⟨t', o', arr, ha, hb, ho, hx⟩
    · cases h2
    · cases ha; exact ⟨arr, hb, ho, by rw [hn]; exact hx⟩
  have hnc := h.2.1
  have hl1 : ((xs.drop (i + 1)).flatMap odC).length = m * 5 := by rw [oc_len, List.length_drop, hn]; congr 1; omega
  obtain ⟨a2, m1, m2, m3⟩ := del_row (w := w.drew) hb hn (by omega) zero5 rfl hx
  obtain ⟨a1, k1, k2, k3, k4⟩ := setCells_block ((xs.drop (i + 1)).flatMap odC) (o + i * 5) w.drew arr hb (by omega)
  have hclr : ∀ ty c, (Builtin.clear_ #[61] ty #[.slice (some ⟨t, o + (i + m) * 5, none⟩) 1 c]).run Try.prog (w.drew.setCells t (o + i * 5) ((xs.drop (i + 1)).flatMap odC)) = .ok (.tuple #[]) ((w.drew.setCells t (o + i * 5) ((xs.drop (i + 1)).flatMap odC)).setCells t (o + (i + m) * 5) zero5) := fun ty c =>
    run_clear_one _ 61 ty 31 i0 _ Try.underlying61 hi0 hz0 t (o + (i + m) * 5) c zero5 zero5_eq (fun j hj => by have : j < 5 := hj; rw [Nat.add_assoc]; exact cells_there k1 (by omega)) (fun j _ => free_of_block k1 _) (by intro u hu; simp [zero5] at hu; subst hu; rfl)
  have hkw : Kept (OnB (some ⟨t, o, none⟩)) w ((w.drew.setCells t (o + i * 5) ((xs.drop (i + 1)).flatMap odC)).setCells t (o + (i + m) * 5) zero5) :=
    ((Kept.refl _ w).drew.trans ((setCells_keeps _ _ _ _).mono fun j _ e => ⟨_, rfl, e⟩)).trans' ((setCells_keeps _ _ _ _).mono (G := OnB (some ⟨t, o, none⟩)) fun j _ e => ⟨_, rfl, e⟩) fun _ _ h => h
  have hsrc : ∀ j u, ((xs.drop (i + 1)).flatMap odC)[j]? = some u → (w.drew.cell? ⟨t, o + (i + 1) * 5 + j, none⟩) = some u := fun j u hu => by
    have hj : j < m * 5 := by rw [← hl1]; exact (List.getElem?_eq_some_iff.1 hu).1
    rw [show w.drew.cell? ⟨t, o + (i + 1) * 5 + j, none⟩ = _ from cell_of_block hb _, Nat.add_assoc, hx _ (by omega), ← hu, ← fm_drop odC_len, List.getElem?_drop]
  have hspare : ∀ j, j < ((xs.drop (i + 1)).flatMap odC).length → (w.drew.cell? ⟨t, o + i * 5 + j, none⟩).isSome = true ∧ w.drew.frozen? ⟨t, o + i * 5 + j, none⟩ = false := fun j hj => by
    rw [hl1] at hj
    exact ⟨by rw [Nat.add_assoc]; exact cells_there (w := w.drew) hb (by omega), free_of_block (w := w.drew) hb _⟩
  have hij : ((i : Int) == (i : Int) + 1) = false := beq_eq_false_iff_ne.2 (by omega)
  have hw1 : (0 : Int) ≤ (i : Int) + 1 := by omega
  have htn : ((i : Int) + 1).toNat = i + 1 := by omega
  have hb1 : i ≤ cap := by omega
  have hb2 : (i : Int) ≤ (cap : Int) := by omega
  have hb3 : (i : Int) + 1 ≤ (i : Int) + 1 + (m : Int) := by omega
  have hb4 : i + 1 ≤ i + 1 + m := by omega
  have Hclr := Lib.hid hclr
  have Hkw := Lib.hid hkw
  have Hsrc := Lib.hid hsrc
  have Hsp := Lib.hid hspare
  have Hm1 := Lib.hid m1
  have Hm3 := Lib.hid m3
  have Hl1 := Lib.hid hl1
  have Hn := Lib.hid hn
  clear hclr hkw hsrc hspare m1 m3 hl1 k1 k3 k4 hx hb h hn
  have hc1 : ¬ (cap = i) := by omega
  have hfin : ∀ e, e = Ending.returned (.slice (some ⟨t, o, none⟩) (i + m) cap) → DelPost t o cap (delAt xs i) w e ((w.drew.setCells t (o + i * 5) ((xs.drop (i + 1)).flatMap odC)).setCells t (o + (i + m) * 5) zero5) := fun e he =>
    ⟨by rw [delAt_len Hn.out]; exact he, ⟨by rw [oc_len], by rw [delAt_len Hn.out]; omega, .inr ⟨t, o, a2, rfl, Hm1.out, by omega, fun j hj => Hm3.out j (by rw [delAt_len Hn.out] at hj; exact hj)⟩⟩, Hkw.out⟩
  have Hfin := Lib.hid hfin
  clear hfin Hm1 Hm3 Hkw
  by_cases hcj : cap = i + 1
  · have hm0 : m = 0 := by omega
    subst hm0 hcj
    have hnil : (xs.drop (i + 1)).flatMap odC = [] := List.eq_nil_of_length_eq_zero (by rw [Hl1.out])
    have Hnil := Lib.hid hnil
    have hb5 : (i : Int) ≤ (i : Int) + 1 := by omega
    clear hnil
    go_enter Try.func35, Try.ntmps35
    go_wp2_with fail
    go_region_law (refine step_append_room rfl (.tmp 22) (.tmp 25) 61 rfl 31 i0 5 Try.underlying61 hi0 hz1 t o i (i + 1) (by simp [Act.eval, Act.put]) ⟨t, o, none⟩ 0 0 ((xs.drop (i + 1)).flatMap odC) (by simp [Act.eval, Act.put]) Hl1.out (by rw [Hnil.out]; intro j u hu; simp at hu) (od_one _) (by omega) Hsp.out ?_)
    generalize w.drew.setCells t (o + i * 5) ((xs.drop (i + 1)).flatMap odC) = w1 at Hclr Hfin ⊢
    have hclr2 : ∀ ty c, (Builtin.clear_ #[61] ty #[.slice (some ⟨t, o + i * 5, none⟩) 1 c]).run Try.prog w1 = .ok (.tuple #[]) (w1.setCells t (o + (i + 0) * 5) zero5) := by
      exact Hclr.out
    go_wp2
    go_ret
    exact Hfin.out _ rfl
  · have hc2 : ¬ (cap = i + 1) := hcj
    go_enter Try.func35, Try.ntmps35
    go_wp2_with fail
    go_region_law (refine step_append_room rfl (.tmp 22) (.tmp 25) 61 rfl 31 i0 5 Try.underlying61 hi0 hz1 t o i cap (by simp [Act.eval, Act.put]) ⟨t, o + (i + 1) * 5, none⟩ m (cap - (i + 1)) ((xs.drop (i + 1)).flatMap odC) (by simp [Act.eval, Act.put]) Hl1.out (by intro j u hu; rw [addr_add]; exact Hsrc.out j u hu) (od_one _) (by omega) Hsp.out ?_)
    generalize w.drew.setCells t (o + i * 5) ((xs.drop (i + 1)).flatMap odC) = w1 at Hclr Hfin ⊢
    have hclr : ∀ ty c, (Builtin.clear_ #[61] ty #[.slice (some ⟨t, o + (i + m) * 5, none⟩) (i + 1 + m - (i + m)) c]).run Try.prog w1 = .ok (.tuple #[]) (w1.setCells t (o + (i + m) * 5) zero5) := by
      rw [show i + 1 + m - (i + m) = 1 by omega]; exact Hclr.out
    go_wp2
    go_ret
    exact Hfin.out _ rfl
end Go.Proofs.Ytopfgcnehdjjpaa
