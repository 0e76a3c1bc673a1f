/- The walk of 'KillWindows'. -/
import Derived.Test.YtpcacnlkhicekaaKg
namespace Go.Proofs.Ytpcacnlkhicekaa
open Go.RowKit

def L1 (k mb : Nat) (f W N : Int) (O : Nat → Option (Option Int)) (w2 : World) (t i : Value) (wr : World) : Prop :=
  ∃ (j : Nat) (T : Int) (s : KS) (O' : Nat → Option (Option Int)) (B' : Int → Option Nat), (j : Int) ≤ N ∧ i = .int .i64 j ∧ t = .int .i64 T ∧ 0 ≤ T ∧ T ≤ 100 + j * 1000000 ∧ P1 f W T s ∧ SwAt wr k mb s O' B' ∧ Grow O O' w2 wr
def L2 (k mb : Nat) (f W T : Int) (O : Nat → Option (Option Int)) (w2 : World) (i : Value) (wr : World) : Prop :=
  ∃ (j : Nat) (s : KS) (O' : Nat → Option (Option Int)) (B' : Int → Option Nat), 1 ≤ j ∧ (j : Int) ≤ f + 1 ∧ i = .int .i64 j ∧ P2 f W T j s ∧ SwAt wr k mb s O' B' ∧ Grow O O' w2 wr

set_option maxHeartbeats 1000000 in
theorem windows_any (a0 a1 a2 : Int) (w0 : (Lit.int .u8 a0).wf = true) (w1 : (Lit.int .u8 a1).wf = true) (w2 : (Lit.int .u8 a2).wf = true) (w : World) :
    Calls Try.prog 3 #[.int .u8 a0, .int .u8 a1, .int .u8 a2] w (FinPost w) := by
  obtain ⟨l0, u0⟩ := u8_bd w0
  obtain ⟨l1, u1⟩ := u8_bd w1
  obtain ⟨l2, u2⟩ := u8_bd w2
  clear w0 w1 w2
  go_enter Try.func3, Try.ntmps3
  go_wp2_with fail
  refine (known_any w).mono ?_
  rintro e w1 ⟨rfl, k1⟩
  go_wp2_with fail
  have hf : 2 ≤ 2 + a0 % 20 ∧ 2 + a0 % 20 ≤ 1000 := by omega
  have hW : 1 ≤ 1 + a1 % 50 ∧ 1 + a1 % 50 ≤ 1000000 := by omega
  have hn : 0 ≤ a2 % 40 ∧ a2 % 40 ≤ 40 := by omega
  generalize 2 + a0 % 20 = f at hf ⊢
  generalize 1 + a1 % 50 = W at hW ⊢
  refine (new_good (by omega)).mono ?_
  rintro e w2 ⟨k, mb, O, B, rfl, h1, hk, hO⟩
  have HO := Lib.hid hO
  clear hO
  go_wp2_with fail
  have hstart : L1 k mb f W (a2 % 40) O w2 (.int .i64 100) (.int .i64 0) w2 :=
    ⟨0, 100, KS.new f W, O, B, by omega, rfl, rfl, by omega, by omega, P1.new (by omega), h1, Grow.refl _ _⟩
  go_loopw [11, 12] (fun t i wr => L1 k mb f W (a2 % 40) O w2 t i wr) (fun _ i _ => 100 - (intOf i).toNat)
  case atStart => exact hstart
  case round =>
    obtain ⟨j, T, s, O', B', hjn, rfl, rfl, hT0, hT1, hp, hs, hg⟩ := hrel
    clear hstart h1
    by_cases hlt : (j : Int) < a2 % 40
    · obtain ⟨r1, hp', r3⟩ := p1_step hp (by omega) hW (by omega)
      have hlen : (s.m 1).times.length ≤ 1000 := by have := hp.len; omega
      have hlen' : ((s.set 1 (fillM s (s.m 1) T)).m 1).times.length ≤ 1000 := by have := hp'.len; omega
      have R1 := Lib.hid r1
      have R3 := Lib.hid r3
      clear r1 r3 hp
      go_wp2_with fail
      refine (fill_any hs 1 T hlen).mono ?_
      rintro e w3 ⟨O3, B3, rfl, h3, g3⟩
      rw [R1.out]
      go_wp2_with fail
      refine (off_any h3 1).mono ?_
      rintro e w' ⟨rfl, rfl⟩
      rw [hp'.off]
      go_wp2_with fail
      refine (kcount_any h3 1 T hlen').mono ?_
      rintro e w' ⟨rfl, rfl⟩
      rw [R3.out]
      go_wp2
      exact ⟨⟨j + 1, T + W, _, O3, B3, by omega, by go_num, rfl, by omega, by omega, hp', h3, hg.trans g3⟩, by simp [intOf]; omega⟩
    · go_wp2_with fail
      have hstart2 : L2 k mb f W T O w2 (.int .i64 1) wr := ⟨1, s, O', B', by omega, by omega, rfl, hp.to2 (by omega), hs, hg⟩
      clear hp hs hg
      go_loopw [13] (fun i wr => L2 k mb f W T O w2 i wr) (fun i _ => 2000 - (intOf i).toNat)
      case atStart => exact hstart2
      case round =>
        obtain ⟨j2, s, O', B', hj1, hj2, rfl, hp, hs, hg⟩ := hrel
        clear hstart2
        by_cases hlt2 : (j2 : Int) ≤ f
        · obtain ⟨r1, hp'⟩ := p2_step hp hj1 hlt2 hW
          have hlen := hp.len hlt2 hf.2
          obtain ⟨c, hc1, hc2⟩ : ∃ c, decide ((j2 : Int) = f) = c ∧ ((j2 : Int) == f) = c := ⟨_, rfl, by rw [Bool.eq_iff_iff]; simp⟩
          rw [hc1] at r1
          have R1 := Lib.hid r1
          clear r1 hp hc1
          go_wp2_with fail
          refine (fill_any hs 2 T hlen).mono ?_
          rintro e w3 ⟨O3, B3, rfl, h3, g3⟩
          rw [R1.out]
          go_wp2
          exact ⟨⟨j2 + 1, _, O3, B3, by omega, by omega, by go_num, hp', h3, hg.trans g3⟩, by simp [intOf]; omega⟩
        · have hout := hp.out (by omega)
          have hoff := hp.off
          go_wp2_with fail
          refine (off_any hs 2).mono ?_
          rintro e w' ⟨rfl, rfl⟩
          rw [hout]
          go_wp2_with fail
          refine (off_any hs 1).mono ?_
          rintro e w' ⟨rfl, rfl⟩
          rw [hoff]
          go_wp2_with fail
          go_ret
          exact ⟨rfl, k1.trans (kept_new hk HO.out hg)⟩
end Go.Proofs.Ytpcacnlkhicekaa
