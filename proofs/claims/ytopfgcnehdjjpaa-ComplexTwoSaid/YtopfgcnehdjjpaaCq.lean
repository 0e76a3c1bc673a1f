/- The walk of 'ComplexTwo', every case; an order that comes in, opened. -/
import Derived.Test.YtopfgcnehdjjpaaTa
import Derived.Test.YtopfgcnehdjjpaaTb
import Derived.Test.YtopfgcnehdjjpaaTc
import Derived.Test.YtopfgcnehdjjpaaTd
import Derived.OpenShut
namespace Go.Proofs.Ytopfgcnehdjjpaa
open Go.RowKit

theorem open_od {H : Type} {enc : TypeId × Value → H} {w : World} {base b0 : Nat} {spare : Nat → Bool} {held : Bool} {r : Reach} {v : Value} {d : DataW H} {p : List MemPlace} (hv : Value.okWide Try.prog w r b0 31 v) (h : DataW.Trod enc Try.prog w base spare held 31 v d p) :
    ∃ i0 i1 i2 i3 i4 : Int, v = .agg #[.int .i64 i0, .int .i64 i1, .int .i64 i2, .int .i64 i3, .int .i64 i4] := by
  obtain ⟨cs, rfl, hsz⟩ := WideShapes.okWide_struct Try.underlying31 hv
  obtain ⟨l⟩ := cs
  have hC : Try.prog.cellsOf 31 = 5 := by kernel_rfl
  match l, hsz.trans hC with
  | [c0, c1, c2, c3, c4], _ =>
    obtain ⟨fuel, hf⟩ := h
    obtain ⟨xs, n, _, hx, _, hlen, hg⟩ := DataW.trod_struct Try.underlying31 hf
    have hone : Deep.oneCellFields Try.prog _ = true := (by kernel_rfl : Deep.oneCellFields Try.prog #[{ name := "ID", type := 2, offset := 0, embedded := false, tag := "", pkgPath := "", byteOffset := 0 }, { name := "Owner", type := 3, offset := 1, embedded := false, tag := "", pkgPath := "", byteOffset := 8 }, { name := "Side", type := 3, offset := 2, embedded := false, tag := "", pkgPath := "", byteOffset := 16 }, { name := "Net", type := 2, offset := 3, embedded := false, tag := "", pkgPath := "", byteOffset := 24 }, { name := "Units", type := 2, offset := 4, embedded := false, tag := "", pkgPath := "", byteOffset := 32 }] = true)
    have int_of : ∀ (t : TypeId) (c : Value) y, Try.prog.underlying t = some (.int .i64) → DataW.trod enc Try.prog w base spare held n t [c] = some y → ∃ z, c = .int .i64 z := fun t c y hu hy => by
      obtain ⟨z, hz, _⟩ := DataW.trod_int hu hy
      simp at hz; exact ⟨z, hz⟩
    match xs, hlen with
    | [y0, y1, y2, y3, y4], _ =>
      obtain ⟨o0, k0⟩ := Deep.hone_of hone 0 _ rfl
      obtain ⟨o1, k1⟩ := Deep.hone_of hone 1 _ rfl
      obtain ⟨o2, k2⟩ := Deep.hone_of hone 2 _ rfl
      obtain ⟨o3, k3⟩ := Deep.hone_of hone 3 _ rfl
      obtain ⟨o4, k4⟩ := Deep.hone_of hone 4 _ rfl
      obtain ⟨z0, rfl⟩ := int_of 2 c0 y0 Try.underlying2 (by have := hg 0 _ rfl; rw [k0] at this; simpa [Value.cells] using this)
      obtain ⟨z1, rfl⟩ := int_of 3 c1 y1 Try.underlying3 (by have := hg 1 _ rfl; rw [k1] at this; simpa [Value.cells] using this)
      obtain ⟨z2, rfl⟩ := int_of 3 c2 y2 Try.underlying3 (by have := hg 2 _ rfl; rw [k2] at this; simpa [Value.cells] using this)
      obtain ⟨z3, rfl⟩ := int_of 2 c3 y3 Try.underlying2 (by have := hg 3 _ rfl; rw [k3] at this; simpa [Value.cells] using this)
      obtain ⟨z4, rfl⟩ := int_of 2 c4 y4 Try.underlying2 (by have := hg 4 _ rfl; rw [k4] at this; simpa [Value.cells] using this)
      exact ⟨z0, z1, z2, z3, z4, rfl⟩

set_option maxHeartbeats 2000000 in
theorem two_skip (ai ao sa an au bi bo sb bn bu net : Int) (w : World) (h : sa ≠ sb ∨ (sa ≠ 1 ∧ sa ≠ 2)) :
    Calls Try.prog 4 #[.agg #[.int .i64 ai, .int .i64 ao, .int .i64 sa, .int .i64 an, .int .i64 au], .agg #[.int .i64 bi, .int .i64 bo, .int .i64 sb, .int .i64 bn, .int .i64 bu], .int .i64 net] w (FinPost w) := by
  have hc : (sa != sb) = true ∨ ((sa != sb) = false ∧ (sa != 1) = true ∧ (sa != 2) = true) := by
    by_cases e : sa = sb
    · right; refine ⟨by simp [e], ?_, ?_⟩ <;> (rcases h with h | h; exact absurd e h; simp [h.1, h.2])
    · left; simp [e]
  have hb1 : ((w.alloc (.cells #[.int .i64 ai, .int .i64 ao, .int .i64 sa, .int .i64 an, .int .i64 au] 31)).alloc (.cells #[.int .i64 bi, .int .i64 bo, .int .i64 sb, .int .i64 bn, .int .i64 bu] 31)).heap[w.heap.size + 1]? = some (boxO ⟨bi, bo, sb, bn, bu⟩) := block_new (by simp)
  have ha1 : ((w.alloc (.cells #[.int .i64 ai, .int .i64 ao, .int .i64 sa, .int .i64 an, .int .i64 au] 31)).alloc (.cells #[.int .i64 bi, .int .i64 bo, .int .i64 sb, .int .i64 bn, .int .i64 bu] 31)).heap[w.heap.size]? = some (boxO ⟨ai, ao, sa, an, au⟩) := block_alloc (block_alloc_new _ _)
  have hk1 : Kept (fun _ => False) w ((w.alloc (.cells #[.int .i64 ai, .int .i64 ao, .int .i64 sa, .int .i64 an, .int .i64 au] 31)).alloc (.cells #[.int .i64 bi, .int .i64 bo, .int .i64 sb, .int .i64 bn, .int .i64 bu] 31)) := ((Kept.refl _ _).alloc _).alloc _
  clear h
  rcases hc with hc | ⟨hc1, hc2, hc3⟩
  all_goals
    go_enter Try.func4, Try.ntmps4
    go_wp2_with fail
    generalize w.heap.size + 1 = qb at hb1 ⊢
    generalize w.heap.size = qa at ha1 ⊢
    generalize (w.alloc (.cells #[.int .i64 ai, .int .i64 ao, .int .i64 sa, .int .i64 an, .int .i64 au] 31)).alloc (.cells #[.int .i64 bi, .int .i64 bo, .int .i64 sb, .int .i64 bn, .int .i64 bu] 31) = w1 at ha1 hb1 hk1 ⊢
    refine (known_any w1).mono ?_
    rintro e w2 ⟨rfl, k2⟩
    have ha2 := (k2.block qa (lt_of_block ha1) (fun h => h)).trans ha1
    have hb2 := (k2.block qb (lt_of_block hb1) (fun h => h)).trans hb1
    have a2 : w2.cell? ⟨qa, 2, none⟩ = some (.int .i64 sa) := by rw [cell_of_block ha2]; rfl
    have b2 : w2.cell? ⟨qb, 2, none⟩ = some (.int .i64 sb) := by rw [cell_of_block hb2]; rfl
    go_wp2_with fail
    go_ret
    exact ⟨rfl, hk1.trans k2⟩
theorem two_any (ai ao sa an au bi bo sb bn bu net : Int) (w : World) :
    Calls Try.prog 4 #[.agg #[.int .i64 ai, .int .i64 ao, .int .i64 sa, .int .i64 an, .int .i64 au], .agg #[.int .i64 bi, .int .i64 bo, .int .i64 sb, .int .i64 bn, .int .i64 bu], .int .i64 net] w (FinPost w) := by
  by_cases h : sa = sb ∧ (sa = 1 ∨ sa = 2)
  · obtain ⟨rfl, h⟩ := h
    have hl := (two_law (a := ⟨ai, ao, sa, an, au⟩) (b := ⟨bi, bo, sa, bn, bu⟩) rfl h).2.2.1
    rcases h with rfl | rfl
    · cases hX : rahB (⟨ai, ao, 1, an, au⟩ : Od) (⟨bi, bo, 1, bn, bu⟩ : Od) with
      | false =>
        cases hY : rahB (⟨bi, bo, 1, bn, bu⟩ : Od) (⟨ai, ao, 1, an, au⟩ : Od) with
        | false =>
          cases hT : takesB (⟨ai, ao, 1, an, au⟩ : Od) net with
          | false => exact two_1fff _ _ _ _ _ _ _ _ _ w hX hY hT
          | true => exact two_1fft _ _ _ _ _ _ _ _ _ w hX hY hT
        | true =>
          cases hT : takesB (⟨ai, ao, 1, an, au⟩ : Od) net with
          | false => exact two_1ftf _ _ _ _ _ _ _ _ _ w hX hY hT
          | true => exact two_1ftt _ _ _ _ _ _ _ _ _ w hX hY hT
      | true =>
        cases hY : rahB (⟨bi, bo, 1, bn, bu⟩ : Od) (⟨ai, ao, 1, an, au⟩ : Od) with
        | false =>
          cases hT : takesB (⟨ai, ao, 1, an, au⟩ : Od) net with
          | false => exact two_1tff _ _ _ _ _ _ _ _ _ w hX hY hT
          | true => exact two_1tft _ _ _ _ _ _ _ _ _ w hX hY hT
        | true => rw [hX, hY] at hl; cases hl
    · cases hX : rahB (⟨ai, ao, 2, an, au⟩ : Od) (⟨bi, bo, 2, bn, bu⟩ : Od) with
      | false =>
        cases hY : rahB (⟨bi, bo, 2, bn, bu⟩ : Od) (⟨ai, ao, 2, an, au⟩ : Od) with
        | false =>
          cases hT : takesB (⟨ai, ao, 2, an, au⟩ : Od) net with
          | false => exact two_2fff _ _ _ _ _ _ _ _ _ w hX hY hT
          | true => exact two_2fft _ _ _ _ _ _ _ _ _ w hX hY hT
        | true =>
          cases hT : takesB (⟨ai, ao, 2, an, au⟩ : Od) net with
          | false => exact two_2ftf _ _ _ _ _ _ _ _ _ w hX hY hT
          | true => exact two_2ftt _ _ _ _ _ _ _ _ _ w hX hY hT
      | true =>
        cases hY : rahB (⟨bi, bo, 2, bn, bu⟩ : Od) (⟨ai, ao, 2, an, au⟩ : Od) with
        | false =>
          cases hT : takesB (⟨ai, ao, 2, an, au⟩ : Od) net with
          | false => exact two_2tff _ _ _ _ _ _ _ _ _ w hX hY hT
          | true => exact two_2tft _ _ _ _ _ _ _ _ _ w hX hY hT
        | true => rw [hX, hY] at hl; cases hl
  · exact two_skip _ _ _ _ _ _ _ _ _ _ net w (by
      by_cases e : sa = sb
      · right; refine ⟨fun h1 => h ⟨e, .inl h1⟩, fun h2 => h ⟨e, .inr h2⟩⟩
      · exact .inl e)
end Go.Proofs.Ytopfgcnehdjjpaa
