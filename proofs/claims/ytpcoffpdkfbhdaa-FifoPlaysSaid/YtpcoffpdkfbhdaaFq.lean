/- A slice of acts that comes in, opened. -/
import Derived.Test.YtpcoffpdkfbhdaaFp
import Derived.OpenShut
namespace Go.Proofs.Ytpcoffpdkfbhdaa
open Go.RowKit

theorem open_acts {H : Type} {enc : TypeId × Value → H} {w : World} {base b0 : Nat} {spare : Nat → Bool} {held : Bool} {r : Reach} {v : Value} {d : DataW H} {p : List MemPlace} (hv : Value.okWide Try.prog w r b0 22 v) (h : DataW.Trod enc Try.prog w base spare held 22 v d p) :
    ∃ (a : Option Addr) (len cap : Nat), v = .slice a len cap ∧ len ≤ maxLen ∧ ∃ b off g, ActsAt w a b off len g := by
  obtain ⟨a, len, cap, rfl⟩ := WideShapes.okWide_slice Try.underlying22 hv
  obtain ⟨fuel, hf⟩ := h
  have hone : Deep.oneCellFields Try.prog _ = true := (by kernel_rfl : Deep.oneCellFields Try.prog #[{ name := "Op", type := 3, offset := 0, embedded := false, tag := "", pkgPath := "", byteOffset := 0 }, { name := "Row", type := 3, offset := 1, embedded := false, tag := "", pkgPath := "", byteOffset := 8 }, { name := "Cell", type := 3, offset := 2, embedded := false, tag := "", pkgPath := "", byteOffset := 16 }, { name := "V", type := 2, offset := 3, embedded := false, tag := "", pkgPath := "", byteOffset := 24 }] = true)
  have hC : Try.prog.cellsOf 31 = 4 := by kernel_rfl
  rcases open_recs Try.underlying22 Try.underlying31 hone hC hf with hcs | ⟨x, l, c, hcs, hl, hm, hat⟩
  · simp [Value.cells] at hcs
    obtain ⟨rfl, rfl, rfl⟩ := hcs
    exact ⟨none, 0, 0, rfl, by unfold maxLen; omega, 0, 0, fun _ => ⟨0, 0, 0, 0⟩, fun h => absurd h (by omega), fun i hi => absurd hi (by omega)⟩
  · simp [Value.cells] at hcs
    obtain ⟨rfl, rfl, rfl⟩ := hcs
    have int_of : ∀ (n : Nat) (t : TypeId) (c : Value) y, Try.prog.underlying t = some (.int .i64) → DataW.trod enc Try.prog w base spare held n t [c] = some y → ∃ z, c = .int .i64 z := fun n t c y hu hy => by
      obtain ⟨z, hz, _⟩ := DataW.trod_int hu hy
      simp at hz; exact ⟨z, hz⟩
    have hcell : ∀ i, i < len → ∀ j t, j < 4 → (∃ f, (#[{ name := "Op", type := 3, offset := 0, embedded := false, tag := "", pkgPath := "", byteOffset := 0 }, { name := "Row", type := 3, offset := 1, embedded := false, tag := "", pkgPath := "", byteOffset := 8 }, { name := "Cell", type := 3, offset := 2, embedded := false, tag := "", pkgPath := "", byteOffset := 16 }, { name := "V", type := 2, offset := 3, embedded := false, tag := "", pkgPath := "", byteOffset := 24 }] : Array Field)[j]? = some f ∧ f.type = t) → Try.prog.underlying t = some (.int .i64) → ∃ z : Int, w.cell? (x.add (i * 4 + j)) = some (.int .i64 z) := by
      intro i hi j t hj ⟨f, hf, ht⟩ hu
      obtain ⟨v, y, n, hc, hy⟩ := hat i hi j f hf
      rw [ht] at hy
      obtain ⟨z, rfl⟩ := int_of n t v y hu hy
      exact ⟨z, hc⟩
    have c0 := fun i hi => hcell i hi 0 3 (by decide) ⟨_, rfl, rfl⟩ Try.underlying3
    have c1 := fun i hi => hcell i hi 1 3 (by decide) ⟨_, rfl, rfl⟩ Try.underlying3
    have c2 := fun i hi => hcell i hi 2 3 (by decide) ⟨_, rfl, rfl⟩ Try.underlying3
    have c3 := fun i hi => hcell i hi 3 2 (by decide) ⟨_, rfl, rfl⟩ Try.underlying2
    refine ⟨some x, len, cap, rfl, Nat.le_trans hl hm, x.block, x.off, fun i => if hi : i < len then ⟨(c0 i hi).choose, (c1 i hi).choose, (c2 i hi).choose, (c3 i hi).choose⟩ else ⟨0, 0, 0, 0⟩, fun h0 => ?_, fun i hi => ?_⟩
    · have h1 := (c0 0 h0).choose_spec
      obtain ⟨h2, h3⟩ := plain_of_cell (a := x) (by simpa using h1)
      exact ⟨by rw [h2], h3⟩
    · have h0 := (c0 0 (by omega)).choose_spec
      obtain ⟨h2, _⟩ := plain_of_cell (a := x) (by simpa using h0)
      have hx : ∀ j, x.add j = ⟨x.block, x.off + j, none⟩ := fun j => by rw [h2]; exact addr_add _ _ _
      have s0 := (c0 i hi).choose_spec
      have s1 := (c1 i hi).choose_spec
      have s2 := (c2 i hi).choose_spec
      have s3 := (c3 i hi).choose_spec
      simp only [dif_pos hi]
      exact ⟨(congrArg w.cell? (hx (i * 4 + 0))).symm.trans s0, (congrArg w.cell? (hx (i * 4 + 1))).symm.trans s1, (congrArg w.cell? (hx (i * 4 + 2))).symm.trans s2, (congrArg w.cell? (hx (i * 4 + 3))).symm.trans s3⟩
end Go.Proofs.Ytpcoffpdkfbhdaa
