/- Alloc: legs and tops that come in, opened. -/
import Derived.Test.YtgbdnodkbdkaeaaBd
import Derived.OpenShut
namespace Go.Proofs.Ytgbdnodkbdkaeaa
open Go Go.RowKit

set_option maxRecDepth 100000 in
theorem open_legs {H : Type} {enc : TypeId × Value → H} {w : World} {base b0 : Nat} {spare : Nat → Bool} {held : Bool} {r : Reach} {v : Value} {d : DataW H} {p : List MemPlace} (hv : Value.okWide Try.prog w r b0 22 v) (h : DataW.Trod enc Try.prog w base spare held 22 v d p) :
    ∃ (a : Option Addr) (len cap : Nat), v = .slice a len cap ∧ (len ≤ maxLen ∧ len ≤ cap) ∧ ∃ xs : List Lg, xs.length = len ∧ LgS w a xs := by
  obtain ⟨a, len, cap, rfl⟩ := WideShapes.okWide_slice Try.underlying22 hv
  obtain ⟨fuel, hf⟩ := h
  have hone : Deep.oneCellFields Try.prog _ = true := (by kernel_rfl : Deep.oneCellFields Try.prog #[{ name := "Series", type := 3, offset := 0, embedded := false, tag := "", pkgPath := "", byteOffset := 0 }, { name := "Sign", type := 3, offset := 1, embedded := false, tag := "", pkgPath := "", byteOffset := 8 }, { name := "Ratio", type := 2, offset := 2, embedded := false, tag := "", pkgPath := "", byteOffset := 16 }] = true)
  have hC : Try.prog.cellsOf 43 = 3 := by kernel_rfl
  rcases open_recs Try.underlying22 Try.underlying43 hone hC hf with hcs | ⟨x, l, c, hcs, hl, hm, hat⟩
  · simp [Value.cells] at hcs
    obtain ⟨rfl, rfl, rfl⟩ := hcs
    exact ⟨none, 0, 0, rfl, ⟨by unfold maxLen; omega, Nat.le_refl _⟩, [], rfl, .inl rfl⟩
  · simp [Value.cells] at hcs
    obtain ⟨rfl, rfl, rfl⟩ := hcs
    have c0 : ∀ i, i < len → ∃ z : Int, w.cell? (x.add (i * 3 + 0)) = some (.int .i64 z) := fun i hi => by
      obtain ⟨v, y, n, hc, hy⟩ := hat i hi 0 _ rfl
      obtain ⟨z, hz, _⟩ := DataW.trod_int Try.underlying3 hy
      obtain rfl : v = .int .i64 z := by simpa using hz
      exact ⟨z, hc⟩
    have c1 : ∀ i, i < len → ∃ z : Int, w.cell? (x.add (i * 3 + 1)) = some (.int .i64 z) := fun i hi => by
      obtain ⟨v, y, n, hc, hy⟩ := hat i hi 1 _ rfl
      obtain ⟨z, hz, _⟩ := DataW.trod_int Try.underlying3 hy
      obtain rfl : v = .int .i64 z := by simpa using hz
      exact ⟨z, hc⟩
    have c2 : ∀ i, i < len → ∃ z : Int, w.cell? (x.add (i * 3 + 2)) = some (.int .i64 z) := fun i hi => by
      obtain ⟨v, y, n, hc, hy⟩ := hat i hi 2 _ rfl
      obtain ⟨z, hz, _⟩ := DataW.trod_int Try.underlying2 hy
      obtain rfl : v = .int .i64 z := by simpa using hz
      exact ⟨z, hc⟩
    refine ⟨some x, len, cap, rfl, ⟨Nat.le_trans hl hm, hl⟩, (List.range len).map fun i => if hi : i < len then ⟨(c0 i hi).choose, (c1 i hi).choose, (c2 i hi).choose⟩ else ⟨0, 0, 0⟩, by simp, ?_⟩
    rcases Nat.eq_zero_or_pos len with rfl | hpos
    · exact .inl rfl
    have h0 := (c0 0 hpos).choose_spec
    obtain ⟨h2, _⟩ := plain_of_cell (a := x) (by simpa using h0)
    have hx : ∀ j, x.add j = ⟨x.block, x.off + j, none⟩ := fun j => by rw [h2]; exact addr_add _ _ _
    refine .inr ⟨x.block, x.off, by rw [← h2], fun i hi => ?_⟩
    replace hi : i < len := by simpa using hi
    have hget : lgAt ((List.range len).map fun i => if hi : i < len then (⟨(c0 i hi).choose, (c1 i hi).choose, (c2 i hi).choose⟩ : Lg) else ⟨0, 0, 0⟩) i = ⟨(c0 i hi).choose, (c1 i hi).choose, (c2 i hi).choose⟩ := by
      simp [lgAt, List.getD_eq_getElem?_getD, hi]
    rw [hget]
    exact ⟨(congrArg w.cell? (hx (i * 3 + 0))).symm.trans (c0 i hi).choose_spec, (congrArg w.cell? (hx (i * 3 + 1))).symm.trans (c1 i hi).choose_spec, (congrArg w.cell? (hx (i * 3 + 2))).symm.trans (c2 i hi).choose_spec⟩
set_option maxRecDepth 100000 in
theorem open_tops {H : Type} {enc : TypeId × Value → H} {w : World} {base b0 : Nat} {spare : Nat → Bool} {held : Bool} {r : Reach} {v : Value} {d : DataW H} {p : List MemPlace} (hv : Value.okWide Try.prog w r b0 23 v) (h : DataW.Trod enc Try.prog w base spare held 23 v d p) :
    ∃ (a : Option Addr) (len cap : Nat), v = .slice a len cap ∧ (len ≤ maxLen ∧ len ≤ cap) ∧ ∃ xs : List Tp, xs.length = len ∧ TpS w a xs := by
  obtain ⟨a, len, cap, rfl⟩ := WideShapes.okWide_slice Try.underlying23 hv
  obtain ⟨fuel, hf⟩ := h
  have hone : Deep.oneCellFields Try.prog _ = true := (by kernel_rfl : Deep.oneCellFields Try.prog #[{ name := "Bid", type := 2, offset := 0, embedded := false, tag := "", pkgPath := "", byteOffset := 0 }, { name := "BidQty", type := 2, offset := 1, embedded := false, tag := "", pkgPath := "", byteOffset := 8 }, { name := "Ask", type := 2, offset := 2, embedded := false, tag := "", pkgPath := "", byteOffset := 16 }, { name := "AskQty", type := 2, offset := 3, embedded := false, tag := "", pkgPath := "", byteOffset := 24 }, { name := "BidCust", type := 4, offset := 4, embedded := false, tag := "", pkgPath := "", byteOffset := 32 }, { name := "AskCust", type := 4, offset := 5, embedded := false, tag := "", pkgPath := "", byteOffset := 33 }] = true)
  have hC : Try.prog.cellsOf 45 = 6 := by kernel_rfl
  rcases open_recs Try.underlying23 Try.underlying45 hone hC hf with hcs | ⟨x, l, c, hcs, hl, hm, hat⟩
  · simp [Value.cells] at hcs
    obtain ⟨rfl, rfl, rfl⟩ := hcs
    exact ⟨none, 0, 0, rfl, ⟨by unfold maxLen; omega, Nat.le_refl _⟩, [], rfl, .inl rfl⟩
  · simp [Value.cells] at hcs
    obtain ⟨rfl, rfl, rfl⟩ := hcs
    have c0 : ∀ i, i < len → ∃ z : Int, w.cell? (x.add (i * 6 + 0)) = some (.int .i64 z) := fun i hi => by
      obtain ⟨v, y, n, hc, hy⟩ := hat i hi 0 _ rfl
      obtain ⟨z, hz, _⟩ := DataW.trod_int Try.underlying2 hy
      obtain rfl : v = .int .i64 z := by simpa using hz
      exact ⟨z, hc⟩
    have c1 : ∀ i, i < len → ∃ z : Int, w.cell? (x.add (i * 6 + 1)) = some (.int .i64 z) := fun i hi => by
      obtain ⟨v, y, n, hc, hy⟩ := hat i hi 1 _ rfl
      obtain ⟨z, hz, _⟩ := DataW.trod_int Try.underlying2 hy
      obtain rfl : v = .int .i64 z := by simpa using hz
      exact ⟨z, hc⟩
    have c2 : ∀ i, i < len → ∃ z : Int, w.cell? (x.add (i * 6 + 2)) = some (.int .i64 z) := fun i hi => by
      obtain ⟨v, y, n, hc, hy⟩ := hat i hi 2 _ rfl
      obtain ⟨z, hz, _⟩ := DataW.trod_int Try.underlying2 hy
      obtain rfl : v = .int .i64 z := by simpa using hz
      exact ⟨z, hc⟩
    have c3 : ∀ i, i < len → ∃ z : Int, w.cell? (x.add (i * 6 + 3)) = some (.int .i64 z) := fun i hi => by
      obtain ⟨v, y, n, hc, hy⟩ := hat i hi 3 _ rfl
      obtain ⟨z, hz, _⟩ := DataW.trod_int Try.underlying2 hy
      obtain rfl : v = .int .i64 z := by simpa using hz
      exact ⟨z, hc⟩
    have c4 : ∀ i, i < len → ∃ z : Bool, w.cell? (x.add (i * 6 + 4)) = some (.bool z) := fun i hi => by
      obtain ⟨v, y, n, hc, hy⟩ := hat i hi 4 _ rfl
      obtain ⟨z, hz, _⟩ := DataW.trod_bool Try.underlying4 hy
      obtain rfl : v = .bool z := by simpa using hz
      exact ⟨z, hc⟩
    have c5 : ∀ i, i < len → ∃ z : Bool, w.cell? (x.add (i * 6 + 5)) = some (.bool z) := fun i hi => by
      obtain ⟨v, y, n, hc, hy⟩ := hat i hi 5 _ rfl
      obtain ⟨z, hz, _⟩ := DataW.trod_bool Try.underlying4 hy
      obtain rfl : v = .bool z := by simpa using hz
      exact ⟨z, hc⟩
    refine ⟨some x, len, cap, rfl, ⟨Nat.le_trans hl hm, hl⟩, (List.range len).map fun i => if hi : i < len then ⟨(c0 i hi).choose, (c1 i hi).choose, (c2 i hi).choose, (c3 i hi).choose, (c4 i hi).choose, (c5 i hi).choose⟩ else ⟨0, 0, 0, 0, false, false⟩, by simp, ?_⟩
    rcases Nat.eq_zero_or_pos len with rfl | hpos
    · exact .inl rfl
    have h0 := (c0 0 hpos).choose_spec
    obtain ⟨h2, _⟩ := plain_of_cell (a := x) (by simpa using h0)
    have hx : ∀ j, x.add j = ⟨x.block, x.off + j, none⟩ := fun j => by rw [h2]; exact addr_add _ _ _
    refine .inr ⟨x.block, x.off, by rw [← h2], fun i hi => ?_⟩
    replace hi : i < len := by simpa using hi
    have hget : tpAt ((List.range len).map fun i => if hi : i < len then (⟨(c0 i hi).choose, (c1 i hi).choose, (c2 i hi).choose, (c3 i hi).choose, (c4 i hi).choose, (c5 i hi).choose⟩ : Tp) else ⟨0, 0, 0, 0, false, false⟩) i = ⟨(c0 i hi).choose, (c1 i hi).choose, (c2 i hi).choose, (c3 i hi).choose, (c4 i hi).choose, (c5 i hi).choose⟩ := by
      simp [tpAt, List.getD_eq_getElem?_getD, hi]
    rw [hget]
    exact ⟨(congrArg w.cell? (hx (i * 6 + 0))).symm.trans (c0 i hi).choose_spec, (congrArg w.cell? (hx (i * 6 + 1))).symm.trans (c1 i hi).choose_spec, (congrArg w.cell? (hx (i * 6 + 2))).symm.trans (c2 i hi).choose_spec, (congrArg w.cell? (hx (i * 6 + 3))).symm.trans (c3 i hi).choose_spec, (congrArg w.cell? (hx (i * 6 + 4))).symm.trans (c4 i hi).choose_spec, (congrArg w.cell? (hx (i * 6 + 5))).symm.trans (c5 i hi).choose_spec⟩
end Go.Proofs.Ytgbdnodkbdkaeaa
