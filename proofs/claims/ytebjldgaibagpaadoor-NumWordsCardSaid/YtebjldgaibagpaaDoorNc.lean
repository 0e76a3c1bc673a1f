/- Numbers: what divides both. -/
import Derived.Test.YtebjldgaibagpaaDoorNb
namespace Go.Proofs.YtebjldgaibagpaaDoor
open Go Go.RowKit

/-- The number that both Gcds tell. -/
def gcdRes (a b : Int) : Int := if Nat.gcd a.natAbs b.natAbs ≤ 9223372036854775807 then (Nat.gcd a.natAbs b.natAbs : Int) else 9223372036854775807

/-- The loop's state. -/
def GcdRel (G : Nat) (w : World) (s5 s6 : Value) (wr : World) : Prop :=
  ∃ x y : Int, s5 = .int .u64 x ∧ s6 = .int .u64 y ∧ 0 ≤ x ∧ x ≤ 9223372036854775808 ∧ 0 ≤ y ∧ y ≤ 9223372036854775808 ∧ Nat.gcd x.toNat y.toNat = G ∧ Below w.heap.size w wr

theorem gcd_step {x y : Int} (hx : 0 ≤ x) (hx1 : x ≤ 9223372036854775808) (hy1 : y ≤ 9223372036854775808) (hy : 0 < y) {G : Nat} (h : Nat.gcd x.toNat y.toNat = G) :
    ∃ r : Int, Int.tmod x y = r ∧ 0 ≤ r ∧ r < y ∧ Nat.gcd y.toNat r.toNat = G := by
  have e : Int.tmod x y = x % y := Int.tmod_eq_emod_of_nonneg hx
  have p1 := Int.emod_nonneg x (b := y) (by omega)
  have p2 := Int.emod_lt_of_pos x hy
  refine ⟨x % y, ?_, p1, p2, ?_⟩
  · exact e
  · obtain ⟨m, rfl⟩ := Int.eq_ofNat_of_zero_le hx
    obtain ⟨n, rfl⟩ := Int.eq_ofNat_of_zero_le (Int.le_of_lt hy)
    have e2 : ((m : Int) % (n : Int)).toNat = m % n := by rw [← Int.natCast_emod]; rfl
    rw [e2]
    simp at h
    rw [← h]
    simp
    rw [Nat.gcd_comm m n, Nat.gcd_rec n m, Nat.gcd_comm]

set_option maxHeartbeats 1000000 in
theorem gcd_num_at (a b x y z : Int) (G : Nat) (w : World)
    (hx : Calls Tryd.prog 25 #[.int .i64 a] w fun e w' => e = .returned (.int .u64 x) ∧ w' = w)
    (hy : Calls Tryd.prog 25 #[.int .i64 b] w fun e w' => e = .returned (.int .u64 y) ∧ w' = w)
    (x0 : 0 ≤ x) (x1 : x ≤ 9223372036854775808) (y0 : 0 ≤ y) (y1 : y ≤ 9223372036854775808) (hG : Nat.gcd x.toNat y.toNat = G)
    (hz : (if G ≤ 9223372036854775807 then (G : Int) else 9223372036854775807) = z) :
    Calls Tryd.prog 17 #[.int .i64 a, .int .i64 b] w fun e w' => e = .returned (.int .i64 z) ∧ Below w.heap.size w w' := by
  have hstart : GcdRel G w (.int .u64 x) (.int .u64 y) w := ⟨x, y, rfl, rfl, x0, x1, y0, y1, hG, Below.refl _ _⟩
  clear x0 x1 y0 y1 hG
  go_enter Tryd.func17, Tryd.ntmps17
  go_wp2_with fail
  refine hx.mono ?_
  rintro e w' ⟨rfl, rfl⟩
  go_wp2_with fail
  refine hy.mono ?_
  rintro e w' ⟨rfl, rfl⟩
  go_wp2_with fail
  go_loopw [5, 6] (fun s5 s6 wr => GcdRel G w' s5 s6 wr) (fun _ s6 _ => (intOf s6).toNat)
  case atStart => exact hstart
  case round =>
    obtain ⟨p, q, rfl, rfl, p0, p1, q0, q1, hg, hbel⟩ := hrel
    clear hstart
    by_cases hq : 0 < q
    · obtain ⟨r, hr, r0, r1, hg2⟩ := gcd_step p0 p1 q1 hq hg
      have hrel2 : GcdRel G w' (.int .u64 q) (.int .u64 r) wr.drew := ⟨q, r, rfl, rfl, by omega, q1, r0, by omega, hg2, hbel.drew⟩
      have hrel2 := Lib.hid hrel2
      have hm : Hid (0 ≤ r ∧ r < q) := ⟨r0, r1⟩
      have hq0 : ¬ q = 0 := by omega
      clear hg hg2 p0 p1 q0 q1 r0 r1 hbel
      go_wp2
      go_region
      go_wp2
      exact ⟨hrel2.out, by have := hm.out; simp [intOf]; omega⟩
    · obtain rfl : q = 0 := by omega
      have hG : p.toNat = G := by simpa using hg
      have hp : IntKind.i64.wrap (min p 9223372036854775807) = z := by
        rw [← hz, IntKind.wrap_i64]; split <;> omega
      have hbel := Lib.hid hbel
      clear hg hq q0 q1 hG p0 p1 hz
      go_wp2
      go_ret
      exact ⟨ret_int (by first | rfl | exact hp), hbel.out⟩

theorem gcd_num (a b : Int) (ha : I64 a) (hb : I64 b) (w : World) :
    Calls Tryd.prog 17 #[.int .i64 a, .int .i64 b] w fun e w' => e = .returned (.int .i64 (gcdRes a b)) ∧ Below w.heap.size w w' := by
  have hx := size_num a ha w
  have hy := size_num b hb w
  unfold I64 at ha hb
  exact gcd_num_at a b _ _ _ _ w hx hy (by omega) (by omega) (by omega) (by omega) rfl (by simp [gcdRes])
set_option maxHeartbeats 1000000 in
theorem gcd_ref_at (a b x y z : Int) (G : Nat) (w : World)
    (hx : Calls Tryd.prog 26 #[.int .i64 a] w fun e w' => e = .returned (.int .u64 x) ∧ w' = w)
    (hy : Calls Tryd.prog 26 #[.int .i64 b] w fun e w' => e = .returned (.int .u64 y) ∧ w' = w)
    (x0 : 0 ≤ x) (x1 : x ≤ 9223372036854775808) (y0 : 0 ≤ y) (y1 : y ≤ 9223372036854775808) (hG : Nat.gcd x.toNat y.toNat = G)
    (hz : (if G ≤ 9223372036854775807 then (G : Int) else 9223372036854775807) = z) :
    Calls Tryd.prog 18 #[.int .i64 a, .int .i64 b] w fun e w' => e = .returned (.int .i64 z) ∧ Below w.heap.size w w' := by
  have hstart : GcdRel G w (.int .u64 x) (.int .u64 y) w := ⟨x, y, rfl, rfl, x0, x1, y0, y1, hG, Below.refl _ _⟩
  clear x0 x1 y0 y1 hG
  go_enter Tryd.func18, Tryd.ntmps18
  go_wp2_with fail
  refine hx.mono ?_
  rintro e w' ⟨rfl, rfl⟩
  go_wp2_with fail
  refine hy.mono ?_
  rintro e w' ⟨rfl, rfl⟩
  go_wp2_with fail
  go_loopw [5, 6] (fun s5 s6 wr => GcdRel G w' s5 s6 wr) (fun _ s6 _ => (intOf s6).toNat)
  case atStart => exact hstart
  case round =>
    obtain ⟨p, q, rfl, rfl, p0, p1, q0, q1, hg, hbel⟩ := hrel
    clear hstart
    by_cases hq : 0 < q
    · obtain ⟨r, hr, r0, r1, hg2⟩ := gcd_step p0 p1 q1 hq hg
      have hrel2 : GcdRel G w' (.int .u64 q) (.int .u64 r) wr.drew := ⟨q, r, rfl, rfl, by omega, q1, r0, by omega, hg2, hbel.drew⟩
      have hrel2 := Lib.hid hrel2
      have hm : Hid (0 ≤ r ∧ r < q) := ⟨r0, r1⟩
      have hq0 : ¬ q = 0 := by omega
      clear hg hg2 p0 p1 q0 q1 r0 r1 hbel
      go_wp2
      go_region
      go_wp2
      exact ⟨hrel2.out, by have := hm.out; simp [intOf]; omega⟩
    · obtain rfl : q = 0 := by omega
      have hG : p.toNat = G := by simpa using hg
      have hbel := Lib.hid hbel
      by_cases hb : 9223372036854775807 < p
      · have hp : 9223372036854775807 = z := by rw [← hz]; split <;> omega
        have hp := Lib.hid hp
        clear hg hq q0 q1 hG p0 p1 hz
        go_wp2
        go_ret
        exact ⟨ret_int hp.out, hbel.out⟩
      · have hp : IntKind.i64.wrap p = z := by
          rw [← hz, IntKind.wrap_i64]; split <;> omega
        clear hg hq q0 q1 hG p0 p1 hz
        go_wp2
        go_ret
        exact ⟨ret_int (by first | rfl | exact hp), hbel.out⟩

theorem gcd_ref (a b : Int) (ha : I64 a) (hb : I64 b) (w : World) :
    Calls Tryd.prog 18 #[.int .i64 a, .int .i64 b] w fun e w' => e = .returned (.int .i64 (gcdRes a b)) ∧ Below w.heap.size w w' := by
  have hx := size_ref a ha w
  have hy := size_ref b hb w
  unfold I64 at ha hb
  exact gcd_ref_at a b _ _ _ _ w hx hy (by omega) (by omega) (by omega) (by omega) rfl (by simp [gcdRes])
end Go.Proofs.YtebjldgaibagpaaDoor
