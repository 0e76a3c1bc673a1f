/- Numbers: the walk of the law NumDivides. -/
import Derived.Test.YtebjldgaibagpaaDoorNg
namespace Go.Proofs.YtebjldgaibagpaaDoor
open Go Go.RowKit

theorem gcd_small {a b : Int} (ha : -32768 ≤ a ∧ a ≤ 32767) (hb : -32768 ≤ b ∧ b ≤ 32767) : Nat.gcd a.natAbs b.natAbs ≤ 32768 := by
  by_cases h : a = 0
  · subst h; simp; omega
  · exact Nat.le_trans (Nat.le_of_dvd (by omega) (Nat.gcd_dvd_left _ _)) (by omega)

theorem gcd_zero {a b : Int} (h : Nat.gcd a.natAbs b.natAbs = 0) : a = 0 ∧ b = 0 := by
  rw [Nat.gcd_eq_zero_iff] at h; omega

theorem gcd_tmod {a b : Int} : Int.tmod a (Nat.gcd a.natAbs b.natAbs : Int) = 0 ∧ Int.tmod b (Nat.gcd a.natAbs b.natAbs : Int) = 0 :=
  ⟨Int.tmod_eq_zero_of_dvd (Int.ofNat_dvd_left.2 (Nat.gcd_dvd_left _ _)), Int.tmod_eq_zero_of_dvd (Int.ofNat_dvd_left.2 (Nat.gcd_dvd_right _ _))⟩

theorem gcd_most {a b k : Int} (h0 : 0 < Nat.gcd a.natAbs b.natAbs) (hk : (Nat.gcd a.natAbs b.natAbs : Int) < k) : ¬ (Int.tmod a k = 0 ∧ Int.tmod b k = 0) := by
  rintro ⟨h1, h2⟩
  have d1 := Int.natAbs_dvd_natAbs.2 (Int.dvd_of_tmod_eq_zero h1)
  have d2 := Int.natAbs_dvd_natAbs.2 (Int.dvd_of_tmod_eq_zero h2)
  have := Nat.le_of_dvd h0 (Nat.dvd_gcd d1 d2)
  omega

def DivRel (g : Int) (w : World) (s6 : Value) (wr : World) : Prop :=
  ∃ k : Int, s6 = .int .i64 k ∧ g < k ∧ k ≤ 40001 ∧ Below w.heap.size w wr

set_option maxHeartbeats 2000000 in
set_option maxRecDepth 100000 in
theorem numDivides_walk (a b : Int) (ha : -32768 ≤ a ∧ a ≤ 32767) (hb : -32768 ≤ b ∧ b ≤ 32767) (w : World) (hL : Laid w) :
    Calls Tryd.prog 5 #[.int .i16 a, .int .i16 b] w (KnownPost w) := by
  have hk := Lib.hid (known_walk w hL)
  have hg := gcd_num a b (by unfold I64; omega) (by unfold I64; omega)
  have hsm := gcd_small ha hb
  have e1 : gcdRes a b = (Nat.gcd a.natAbs b.natAbs : Int) := by
    unfold gcdRes; rw [if_pos (by omega)]
  rw [e1] at hg
  clear e1 hL
  by_cases hz : Nat.gcd a.natAbs b.natAbs = 0
  · obtain ⟨rfl, rfl⟩ := gcd_zero hz
    rw [hz] at hg
    have hg := Lib.hid hg
    clear hz hsm ha hb
    go_enter Tryd.func5, Tryd.ntmps5
    go_wp2_with fail
    refine hk.out.mono ?_
    rintro e w1 ⟨rfl, hb1⟩
    have hb1 := Lib.hid hb1
    go_wp2_with fail
    refine (hg.out _).mono ?_
    rintro e w2 ⟨rfl, hb2⟩
    have hb2 := Lib.hid (hb1.out.trans (hb2.mono hb1.out.size))
    go_wp2
    go_ret
    exact ⟨rfl, hb2.out⟩
  · obtain ⟨t1, t2⟩ := @gcd_tmod a b
    have hmost : Hid (∀ k : Int, (Nat.gcd a.natAbs b.natAbs : Int) < k → ¬ (Int.tmod a k = 0 ∧ Int.tmod b k = 0)) := fun k h => gcd_most (by omega) h
    obtain ⟨g, hgg⟩ : ∃ g : Int, (Nat.gcd a.natAbs b.natAbs : Int) = g := ⟨_, rfl⟩
    have hg0 : 0 < g := by omega
    have hg1 : g ≤ 32768 := by omega
    rw [hgg] at hg t1 t2 hmost
    clear hgg hsm hz
    have hg := Lib.hid hg
    have wa : IntKind.i64.wrap a = a := IntWalk.i64_in _ (by omega)
    have wb : IntKind.i64.wrap b = b := IntWalk.i64_in _ (by omega)
    have g0 : ¬ g = 0 := by omega
    have g1 : decide (g < 0) = false := by simp; omega
    have g2 : (g == 0) = false := by simpa using g0
    have gp : IntKind.i64.wrap (g + 1) = g + 1 := IntWalk.i64_in _ (by omega)
    have hab : Hid ((-32768 ≤ a ∧ a ≤ 32767) ∧ (-32768 ≤ b ∧ b ≤ 32767)) := ⟨ha, hb⟩
    have Hg : Hid (0 < g ∧ g ≤ 32768) := ⟨hg0, hg1⟩
    clear ha hb hg0 hg1
    go_enter Tryd.func5, Tryd.ntmps5
    go_wp2_with fail
    refine hk.out.mono ?_
    rintro e w1 ⟨rfl, hb1⟩
    have hb1 := Lib.hid hb1
    go_wp2_with fail
    refine (hg.out _).mono ?_
    rintro e w2 ⟨rfl, hb2⟩
    have hb2 := Lib.hid (hb1.out.trans (hb2.mono hb1.out.size))
    go_wp2_with fail
    go_loopw [6] (fun s6 wr => DivRel g w s6 wr) (fun s6 _ => (40001 - intOf s6).toNat)
    case atStart => exact ⟨g + 1, rfl, by omega, by have := Hg.out; omega, hb2.out⟩
    case round =>
      obtain ⟨k, rfl, k0, k1, hbk⟩ := hrel
      clear t1 t2 gp
      have hbk := Lib.hid hbk
      have hG := Hg.out
      have kz : ¬ k = 0 := by omega
      have hn := hmost.out k k0
      by_cases hle : k ≤ 40000
      · have kp : IntKind.i64.wrap (k + 1) = k + 1 := IntWalk.i64_in _ (by omega)
        obtain ⟨ra, hra⟩ : ∃ r, Int.tmod a k = r := ⟨_, rfl⟩
        obtain ⟨rb, hrb⟩ : ∃ r, Int.tmod b k = r := ⟨_, rfl⟩
        rw [hra, hrb] at hn
        have Hk : Hid (g < k) := k0
        clear hG k0 k1
        have hrel2 : Hid (DivRel g w (.int .i64 (k + 1)) wr) := ⟨k + 1, rfl, by have := Hk.out; omega, by omega, hbk.out⟩
        by_cases ca : ra = 0
        · have cb : ¬ rb = 0 := fun h => hn ⟨ca, h⟩
          clear hn
          go_wp2
          exact ⟨hrel2.out, by simp [intOf]; omega⟩
        · clear hn
          go_wp2
          exact ⟨hrel2.out, by simp [intOf]; omega⟩
      · clear hn hG k0 k1
        go_wp2
        go_ret
        exact ⟨rfl, hbk.out⟩

end Go.Proofs.YtebjldgaibagpaaDoor
