/- The walk of 'known'. -/
import Derived.Test.YtpcacnlkhicekaaKe
namespace Go.Proofs.Ytpcacnlkhicekaa
open Go.RowKit

theorem kept_new {O O' : Nat → Option (Option Int)} {w w1 w' : World} (h : Kept (fun _ => False) w w1) (hO : ∀ i, i < w.heap.size → O i = none) (hg : Grow O O' w1 w') : Kept (fun _ => False) w w' :=
  h.trans' hg.1 fun i hi hG => absurd (hO i hi) hG

def K0 : KS := KS.new 2 10
def K1 : KS := K0.set 1 ⟨false, 5, true, [5]⟩
def K2 : KS := K1.set 1 ⟨true, 14, true, []⟩
def K3 : KS := K2.set 1 ⟨false, 14, true, []⟩
def K4 : KS := K3.set 2 ⟨true, 0, false, []⟩
theorem k0_fill : fillR K0 (K0.m 1) 5 = false ∧ K0.set 1 (fillM K0 (K0.m 1) 5) = K1 := ⟨by kernel_rfl, by
  unfold K1; rw [show fillM K0 (K0.m 1) 5 = ⟨false, 5, true, [5]⟩ by kernel_rfl]⟩
theorem k1_count : countM K1 (K1.m 1) 5 = 1 := by kernel_rfl
theorem k1_fill : fillR K1 (K1.m 1) 14 = true ∧ K1.set 1 (fillM K1 (K1.m 1) 14) = K2 := ⟨by kernel_rfl, by
  unfold K2; rw [show fillM K1 (K1.m 1) 14 = ⟨true, 14, true, []⟩ by kernel_rfl]⟩
theorem k2_fill : fillR K2 (K2.m 1) 14 = false ∧ K2.set 1 (fillM K2 (K2.m 1) 14) = K2 := ⟨by kernel_rfl, by
  rw [show fillM K2 (K2.m 1) 14 = K2.m 1 by kernel_rfl, set_self]⟩
theorem k3_count : countM K3 (K3.m 1) 14 = 0 := by kernel_rfl

def FinPost (w : World) (e : Ending) (w' : World) : Prop := e = .returned (.bool true) ∧ Kept (fun _ => False) w w'

set_option maxHeartbeats 1000000 in
theorem known_any (w : World) : Calls Try.prog 5 #[] w (FinPost w) := by
  go_enter Try.func5, Try.ntmps5
  go_wp2_with fail
  refine (new_good (by decide)).mono ?_
  rintro e w1 ⟨k, mb, O, B, rfl, h1, hk, hO⟩
  have HO := Lib.hid hO
  clear hO
  go_wp2_with fail
  refine (fill_any h1 1 5 (by decide)).mono ?_
  rintro e w2 ⟨O2, B2, rfl, h2, g2⟩
  have h2 : SwAt w2 k mb K1 O2 B2 := k0_fill.2 ▸ h2
  rw [show fillR (KS.new 2 10) ((KS.new 2 10).m 1) 5 = false from k0_fill.1]
  go_wp2_with fail
  refine (kcount_any h2 1 5 (by decide)).mono ?_
  rintro e w' ⟨rfl, rfl⟩
  rw [k1_count]
  go_wp2_with fail
  refine (fill_any h2 1 14 (by decide)).mono ?_
  rintro e w3 ⟨O3, B3, rfl, h3, g3⟩
  rw [k1_fill.2] at h3
  rw [k1_fill.1]
  go_wp2_with fail
  refine (fill_any h3 1 14 (by decide)).mono ?_
  rintro e w4 ⟨O4, B4, rfl, h4, g4⟩
  rw [k2_fill.2] at h4
  rw [k2_fill.1]
  go_wp2_with fail
  refine (off_any h4 1).mono ?_
  rintro e w' ⟨rfl, rfl⟩
  rw [show (K2.m 1).off = true by kernel_rfl]
  go_wp2_with fail
  refine (enable_any h4 1).mono ?_
  rintro e w5 ⟨O5, B5, rfl, h5, g5⟩
  have h5 : SwAt w5 k mb K3 O5 B5 := h5
  rw [show (K2.m 1).off = true by kernel_rfl]
  go_wp2_with fail
  refine (new_bad (by omega)).mono ?_
  rintro e w' ⟨rfl, rfl⟩
  go_wp2_with fail
  refine (off_any h5 1).mono ?_
  rintro e w' ⟨rfl, rfl⟩
  rw [show (K3.m 1).off = false by kernel_rfl]
  go_wp2_with fail
  refine (kcount_any h5 1 14 (by decide)).mono ?_
  rintro e w' ⟨rfl, rfl⟩
  rw [k3_count]
  go_wp2_with fail
  refine (trip_any h5 2).mono ?_
  rintro e w6 ⟨O6, B6, rfl, h6, g6⟩
  have h6 : SwAt w6 k mb K4 O6 B6 := h6
  rw [show (!(K3.m 2).off) = true by kernel_rfl]
  go_wp2_with fail
  refine (trip_any h6 2).mono ?_
  rintro e w7 ⟨O7, B7, rfl, h7, g7⟩
  rw [show (!(K4.m 2).off) = false by kernel_rfl]
  go_wp2_with fail
  go_ret
  exact ⟨rfl, kept_new hk HO.out (g2.trans (g3.trans (g4.trans (g5.trans (g6.trans g7)))))⟩
end Go.Proofs.Ytpcacnlkhicekaa
