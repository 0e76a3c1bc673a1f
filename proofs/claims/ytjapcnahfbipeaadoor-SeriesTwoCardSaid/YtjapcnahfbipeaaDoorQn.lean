/- Series: a series that comes in, opened. -/
import Derived.Test.YtjapcnahfbipeaaDoorQm
import Derived.Test.YtjapcnahfbipeaaDoorQl
import Derived.OpenShut
namespace Go.Proofs.YtjapcnahfbipeaaDoor
open Go.RowKit

set_option maxRecDepth 100000 in
theorem open_sr {H : Type} {enc : TypeId × Value → H} {w : World} {base b0 : Nat} {spare : Nat → Bool} {held : Bool} {r : Reach} {v : Value} {d : DataW H} {p : List MemPlace} (hv : Value.okWide Tryd.prog w r b0 23 v) (h : DataW.Trod enc Tryd.prog w base spare held 23 v d p) :
    ∃ s : Sr, v = .agg #[.string s.cls, .int .i64 s.exp, .int .i64 s.strike, .int .i64 s.right] := by
  obtain ⟨cs, rfl, hsz⟩ := WideShapes.okWide_struct Tryd.underlying23 hv
  obtain ⟨l⟩ := cs
  have hC : Tryd.prog.cellsOf 23 = 4 := by kernel_rfl
  match l, hsz.trans hC with
  | [c0, c1, c2, c3], _ =>
    obtain ⟨fuel, hf⟩ := h
    obtain ⟨xs, n, _, hx, _, hlen, hg⟩ := DataW.trod_struct Tryd.underlying23 hf
    have hone : Deep.oneCellFields Tryd.prog _ = true := (by kernel_rfl : Deep.oneCellFields Tryd.prog #[{ name := "Class", type := 9, offset := 0, embedded := false, tag := "", pkgPath := "", byteOffset := 0 }, { name := "Expiry", type := 2, offset := 1, embedded := false, tag := "", pkgPath := "", byteOffset := 16 }, { name := "Strike", type := 2, offset := 2, embedded := false, tag := "", pkgPath := "", byteOffset := 24 }, { name := "Right", type := 3, offset := 3, embedded := false, tag := "", pkgPath := "", byteOffset := 32 }] = true)
    have int_of : ∀ (t : TypeId) (c : Value) y, Tryd.prog.underlying t = some (.int .i64) → DataW.trod enc Tryd.prog w base spare held n t [c] = some y → ∃ z, c = .int .i64 z := fun t c y hu hy => by
      obtain ⟨z, hz, _⟩ := DataW.trod_int hu hy
      simp at hz; exact ⟨z, hz⟩
    have str_of : ∀ (t : TypeId) (c : Value) y, Tryd.prog.underlying t = some .string → DataW.trod enc Tryd.prog w base spare held n t [c] = some y → ∃ z, c = .string z := fun t c y hu hy => by
      obtain ⟨z, hz, _⟩ := DataW.trod_string hu hy
      simp at hz; exact ⟨z, hz⟩
    match xs, hlen with
    | [y0, y1, y2, y3], _ =>
      obtain ⟨o0, k0⟩ := Deep.hone_of hone 0 _ rfl
      obtain ⟨o1, k1⟩ := Deep.hone_of hone 1 _ rfl
      obtain ⟨o2, k2⟩ := Deep.hone_of hone 2 _ rfl
      obtain ⟨o3, k3⟩ := Deep.hone_of hone 3 _ rfl
      obtain ⟨z0, rfl⟩ := str_of 9 c0 y0 Tryd.underlying9 (by have := hg 0 _ rfl; rw [k0] at this; simpa [Value.cells] using this)
      obtain ⟨z1, rfl⟩ := int_of 2 c1 y1 Tryd.underlying2 (by have := hg 1 _ rfl; rw [k1] at this; simpa [Value.cells] using this)
      obtain ⟨z2, rfl⟩ := int_of 2 c2 y2 Tryd.underlying2 (by have := hg 2 _ rfl; rw [k2] at this; simpa [Value.cells] using this)
      obtain ⟨z3, rfl⟩ := int_of 3 c3 y3 Tryd.underlying3 (by have := hg 3 _ rfl; rw [k3] at this; simpa [Value.cells] using this)
      exact ⟨⟨z0, z1, z2, z3⟩, rfl⟩
end Go.Proofs.YtjapcnahfbipeaaDoor
