/- A slice of acts that comes in, opened; the walk at every argument. -/
import Derived.Test.YtopfgcnehdjjpaaDj
import Derived.OpenShut
namespace Go.Proofs.Ytopfgcnehdjjpaa
open Go.RowKit

section
variable {H : Type} {enc : TypeId × Value → H} {w : World} {base : Nat} {spare : Nat → Bool} {held : Bool}
theorem int_of {n : Nat} {t : TypeId} {c : Value} {y : DataW H × List MemPlace} (hu : Try.prog.underlying t = some (.int .i64)) (hy : DataW.trod enc Try.prog w base spare held n t [c] = some y) : ∃ z, c = .int .i64 z := by
  obtain ⟨z, hz, _⟩ := DataW.trod_int hu hy
  simp at hz; exact ⟨z, hz⟩
theorem od_of {n : Nat} {c0 c1 c2 c3 c4 : Value} {y : DataW H × List MemPlace} (hy : DataW.trod enc Try.prog w base spare held n 31 [c0, c1, c2, c3, c4] = some y) :
    ∃ z0 z1 z2 z3 z4 : Int, c0 = .int .i64 z0 ∧ c1 = .int .i64 z1 ∧ c2 = .int .i64 z2 ∧ c3 = .int .i64 z3 ∧ c4 = .int .i64 z4 := by
  obtain ⟨ys, n', _, _, _, hyl, hf⟩ := DataW.trod_struct Try.underlying31 hy
  have k2 : Try.prog.cellsOf 2 = 1 := by kernel_rfl
  have k3 : Try.prog.cellsOf 3 = 1 := by kernel_rfl
  match ys, hyl with
  | [y0, y1, y2, y3, y4], _ =>
    have h0 : DataW.trod enc Try.prog w base spare held n' 2 (([c0, c1, c2, c3, c4] : List Value).drop 0 |>.take (Try.prog.cellsOf 2)) = some y0 := hf 0 _ rfl
    have h1 : DataW.trod enc Try.prog w base spare held n' 3 (([c0, c1, c2, c3, c4] : List Value).drop 1 |>.take (Try.prog.cellsOf 3)) = some y1 := hf 1 _ rfl
    have h2 : DataW.trod enc Try.prog w base spare held n' 3 (([c0, c1, c2, c3, c4] : List Value).drop 2 |>.take (Try.prog.cellsOf 3)) = some y2 := hf 2 _ rfl
    have h3 : DataW.trod enc Try.prog w base spare held n' 2 (([c0, c1, c2, c3, c4] : List Value).drop 3 |>.take (Try.prog.cellsOf 2)) = some y3 := hf 3 _ rfl
    have h4 : DataW.trod enc Try.prog w base spare held n' 2 (([c0, c1, c2, c3, c4] : List Value).drop 4 |>.take (Try.prog.cellsOf 2)) = some y4 := hf 4 _ rfl
    rw [k2] at h0 h3 h4
    rw [k3] at h1 h2
    obtain ⟨z0, e0⟩ := int_of (c := c0) (y := y0) Try.underlying2 (by simpa using h0)
    obtain ⟨z1, e1⟩ := int_of (c := c1) (y := y1) Try.underlying3 (by simpa using h1)
    obtain ⟨z2, e2⟩ := int_of (c := c2) (y := y2) Try.underlying3 (by simpa using h2)
    obtain ⟨z3, e3⟩ := int_of (c := c3) (y := y3) Try.underlying2 (by simpa using h3)
    obtain ⟨z4, e4⟩ := int_of (c := c4) (y := y4) Try.underlying2 (by simpa using h4)
    exact ⟨z0, z1, z2, z3, z4, e0, e1, e2, e3, e4⟩
theorem ac_of {n : Nat} {c0 c1 c2 c3 c4 c5 c6 c7 : Value} {y : DataW H × List MemPlace} (hy : DataW.trod enc Try.prog w base spare held n 33 [c0, c1, c2, c3, c4, c5, c6, c7] = some y) : ∃ x : Ac, [c0, c1, c2, c3, c4, c5, c6, c7] = acC x := by
  obtain ⟨ys, n', _, _, _, hyl, hf⟩ := DataW.trod_struct Try.underlying33 hy
  have k2 : Try.prog.cellsOf 2 = 1 := by kernel_rfl
  have k3 : Try.prog.cellsOf 3 = 1 := by kernel_rfl
  have k31 : Try.prog.cellsOf 31 = 5 := by kernel_rfl
  match ys, hyl with
  | [y0, y1, y2, y3], _ =>
    have h0 : DataW.trod enc Try.prog w base spare held n' 3 (([c0, c1, c2, c3, c4, c5, c6, c7] : List Value).drop 0 |>.take (Try.prog.cellsOf 3)) = some y0 := hf 0 _ rfl
    have h1 : DataW.trod enc Try.prog w base spare held n' 31 (([c0, c1, c2, c3, c4, c5, c6, c7] : List Value).drop 1 |>.take (Try.prog.cellsOf 31)) = some y1 := hf 1 _ rfl
    have h2 : DataW.trod enc Try.prog w base spare held n' 2 (([c0, c1, c2, c3, c4, c5, c6, c7] : List Value).drop 6 |>.take (Try.prog.cellsOf 2)) = some y2 := hf 2 _ rfl
    have h3 : DataW.trod enc Try.prog w base spare held n' 2 (([c0, c1, c2, c3, c4, c5, c6, c7] : List Value).drop 7 |>.take (Try.prog.cellsOf 2)) = some y3 := hf 3 _ rfl
    rw [k3] at h0
    rw [k31] at h1
    rw [k2] at h2 h3
    obtain ⟨z0, e0⟩ := int_of (c := c0) (y := y0) Try.underlying3 (by simpa using h0)
    obtain ⟨z1, z2, z3, z4, z5, e1, e2, e3, e4, e5⟩ := od_of (c0 := c1) (c1 := c2) (c2 := c3) (c3 := c4) (c4 := c5) (y := y1) (by simpa using h1)
    obtain ⟨z6, e6⟩ := int_of (c := c6) (y := y2) Try.underlying2 (by simpa using h2)
    obtain ⟨z7, e7⟩ := int_of (c := c7) (y := y3) Try.underlying2 (by simpa using h3)
    subst e0 e1 e2 e3 e4 e5 e6 e7
    exact ⟨⟨z0, ⟨z1, z2, z3, z4, z5⟩, z6, z7⟩, rfl⟩
theorem open_acts {b0 : Nat} {r : Reach} {v : Value} {d : DataW H} {p : List MemPlace} (hv : Value.okWide Try.prog w r b0 22 v) (h : DataW.Trod enc Try.prog w base spare held 22 v d p) :
    ∃ (a : Option Addr) (len cap : Nat), v = .slice a len cap ∧ len ≤ maxLen ∧ ∃ b off g, ActsAt w a b off len g := by
  obtain ⟨a, len, cap, rfl⟩ := WideShapes.okWide_slice Try.underlying22 hv
  obtain ⟨fuel, hf⟩ := h
  have hC : Try.prog.cellsOf 33 = 8 := by kernel_rfl
  rcases Deep.open_slice Try.underlying22 hf with ⟨hcs, _⟩ | ⟨x, l, c, m, n, D, Pl, hcs, _, hl, hm, hmm, _, hi⟩
  · simp [Value.cells] at hcs
    obtain ⟨rfl, rfl, rfl⟩ := hcs
    exact ⟨none, 0, 0, rfl, by unfold maxLen; omega, 0, 0, fun _ => ⟨0, ⟨0, 0, 0, 0, 0⟩, 0, 0⟩, fun h => absurd h (by omega), fun i hi => absurd hi (by omega)⟩
  · simp [Value.cells] at hcs
    obtain ⟨rfl, rfl, rfl⟩ := hcs
    have hcell : ∀ i, i < len → ∃ y : Ac, ∀ j, j < 8 → w.cell? (x.add (i * 8 + j)) = (acC y)[j]? := by
      intro i hil
      have him : i < m := by rw [hmm]; split <;> omega
      obtain ⟨cs', hc, ht'⟩ := hi i him
      rw [hC] at hc
      obtain ⟨_, hcl, hat⟩ := World.cells?_some hc
      match cs', hcl with
      | [c0, c1, c2, c3, c4, c5, c6, c7], _ =>
        obtain ⟨y, hy⟩ := ac_of ht'
        refine ⟨y, fun j hj => ?_⟩
        rw [← Deep.add_add, hat j hj, hy]
    refine ⟨some x, len, cap, rfl, Nat.le_trans hl hm, x.block, x.off, fun i => if hi : i < len then (hcell i hi).choose else ⟨0, ⟨0, 0, 0, 0, 0⟩, 0, 0⟩, fun h0 => ?_, fun i hi j hj => ?_⟩
    · have h1 := (hcell 0 h0).choose_spec 0 (by decide)
      obtain ⟨h2, h3⟩ := plain_of_cell (a := x) (by simpa [acC] using h1)
      exact ⟨by rw [h2], h3⟩
    · have h0 := (hcell 0 (by omega)).choose_spec 0 (by decide)
      obtain ⟨h2, _⟩ := plain_of_cell (a := x) (by simpa [acC] using h0)
      have hx : ∀ j, x.add j = ⟨x.block, x.off + j, none⟩ := fun j => by rw [h2]; exact addr_add _ _ _
      have s0 := (hcell i hi).choose_spec j hj
      simp only [dif_pos hi]
      rw [Nat.add_assoc]
      exact (congrArg w.cell? (hx (i * 8 + j))).symm.trans s0
end

set_option maxHeartbeats 1000000 in
set_option maxRecDepth 100000 in
theorem plays_long (a0 : Option Addr) (len cap : Nat) (id : Int) (w : World) (h : 100 < len) (hm : len ≤ maxLen) : Calls Try.prog 3 #[.slice a0 len cap, .int .i64 id] w (FinPost w) := by
  unfold maxLen at hm
  go_enter Try.func3, Try.ntmps3
  go_wp2_with fail
  refine (known_any w).mono ?_
  rintro e w1 ⟨rfl, k1⟩
  go_wp2_with fail
  go_ret
  exact ⟨rfl, k1⟩
theorem plays_all (a0 : Option Addr) (len cap : Nat) (id : Int) (w : World) (hm : len ≤ maxLen) (ha : ∃ b off g, ActsAt w a0 b off len g) : Calls Try.prog 3 #[.slice a0 len cap, .int .i64 id] w (FinPost w) := by
  by_cases h : 100 < len
  · exact plays_long a0 len cap id w h hm
  · obtain ⟨b, off, g, hg⟩ := ha
    exact plays_any a0 b off len cap g id w hg (by omega)
end Go.Proofs.Ytopfgcnehdjjpaa
