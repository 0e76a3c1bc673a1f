/- Alloc: AllocOne's walk 5. -/
import Derived.Test.YtgbdnodkbdkaeaaBb
namespace Go.Proofs.Ytgbdnodkbdkaeaa
open Go Go.RowKit

set_option maxRecDepth 100000 in
set_option maxHeartbeats 2000000 in
theorem one_any (x y z net : Int) (h1 : 0 ≤ x) (h2 : x ≤ 255) (h3 : 0 ≤ y) (h4 : y ≤ 255) (h5 : 0 ≤ z) (h6 : z ≤ 255) (h7 : -32768 ≤ net) (h8 : net ≤ 32767) (w : World) :
    Calls Try.prog 5 #[.int .u8 x, .int .u8 y, .int .u8 z, .int .i16 net] w (BlPost true w) := by
  have m1 : 0 ≤ y % 20 ∧ y % 20 < 20 := by omega
  obtain ⟨m, hm⟩ : ∃ m, y % 20 = m := ⟨_, rfl⟩
  obtain ⟨m2, m3⟩ := m1
  rw [hm] at m2 m3
  have c0 : IntKind.i64.wrap x = x := IntWalk.i64_in _ (by omega)
  have c1 : wrap64 (1 + x) = 1 + x := IntWalk.wrap64_in _ (by omega)
  have c2 : wrap64 (1 + z) = 1 + z := IntWalk.wrap64_in _ (by omega)
  have c3 : wrap64 (1 + x + m) = 1 + x + m := IntWalk.wrap64_in _ (by omega)
  go_enter Try.func5, Try.ntmps5
  go_wp2_with fail
  refine (known_any w).mono ?_
  rintro e w1 ⟨rfl, k1⟩
  go_upto_region 9 with fail
  have b1 : 1 ≤ 1 + x ∧ 1 + x ≤ 256 ∧ 1 + x ≤ 1 + x + m ∧ 1 + x + m ≤ 300 := by omega
  have b2 : 1 ≤ 1 + z ∧ 1 + z ≤ 256 := by omega
  clear c0 c1 c2 c3 m2 m3
  generalize 1 + x + m = a at b1 ⊢
  generalize 1 + x = b at b1 ⊢
  generalize 1 + z = o at b2 ⊢
  refine gen5 (Φ := fun W => Code.wp _ _ _ _ W) ?_
  intro W g0 g1 g2 g3 g4 hk
  have hk1 := k1.trans hk
  generalize w1.heap.size = q at g0 g1 g2 g3 g4 ⊢
  have hl := two_at g0
  have ht := tops_at ⟨b, 1, a, 1, false, false⟩ ⟨o, 1, o, 1, false, false⟩ g1
  have hg := ones_at g2 g3 g4
  have hp := prices_all (la := some ⟨q, 0, none⟩) (ta := some ⟨q + 1, 0, none⟩) (ga := some ⟨q + 1 + 1 + 1 + 1, 0, none⟩) (lc := 2) (tc := 2) (gc := 2) (ls := two) (ts := [⟨b, 1, a, 1, false, false⟩, ⟨o, 1, o, 1, false, false⟩]) (gs := ones 2) net (by unfold I64; omega) (by decide) (by simp; decide) (by decide) (by decide) (good_ones 2) (.inr ⟨q, 0, rfl, hl⟩) (.inr ⟨_, 0, rfl, ht⟩) (.inr ⟨_, 0, rfl, hg⟩)
  rw [one_law b1.1 (by omega) b1.2.2.1 (by omega) b2.1 (by omega) (by omega) (by omega)] at hp
  have hcn : IntKind.i64.wrap net = net := IntWalk.i64_in _ (by omega)
  have hca : wrap64 (a - (net + o)) = a - (net + o) := IntWalk.wrap64_in _ (by omega)
  have hcs : (b ≤ net + o ∧ net + o ≤ a ∧ a - (net + o) ≤ 12) ∨ (net + o < b) ∨ (b ≤ net + o ∧ a < net + o) ∨ (b ≤ net + o ∧ net + o ≤ a ∧ 12 < a - (net + o)) := by omega
  obtain ⟨v, hv⟩ : ∃ v, net + o = v := ⟨_, rfl⟩
  have hcv : wrap64 (net + o) = v := by rw [IntWalk.wrap64_in _ (by omega)]; exact hv
  rw [hv] at hp hca hcs
  clear hl ht hg g0 g1 g2 g3 g4 k1 hk b1 b2 hv
  rcases hcs with ⟨n1, n2, n3⟩ | n1 | ⟨n1, n2⟩ | ⟨n1, n2, n3⟩
  · rw [if_pos ⟨n1, n2, n3⟩] at hp
    have Hp : Hid (Calls Try.prog 11 #[.slice (some ⟨q, 0, none⟩) 2 2, .slice (some ⟨q + 1, 0, none⟩) 2 2, .slice (some ⟨q + 1 + 1 + 1 + 1, 0, none⟩) 2 2, .int .i64 net] W (PrPost (some [v, o]) W)) := hp
    clear hp
    go_wp2_with fail
    refine Hp.out.mono ?_
    rintro e w2 ⟨k2, ⟨h, _⟩ | ⟨l, pa, hla, rfl, hsl⟩⟩
    · cases h
    obtain rfl : [v, o] = l := by simpa using hla
    obtain ⟨pb, po, rfl, hps⟩ := hsl.ps.at (by simp)
    have p0 : w2.cell? ⟨pb, po, none⟩ = some (.int .i64 v) := hps 0 (by simp)
    have p1 : w2.cell? ⟨pb, po + 1, none⟩ = some (.int .i64 o) := hps 1 (by simp)
    have hk2 := hk1.trans k2
    clear hla hsl hps Hp k2
    simp only [List.length_cons, List.length_nil]
    go_wp2
    go_ret
    first | exact ⟨rfl, hk2⟩ | exact ⟨ret_bool (by simp; omega), hk2⟩
  all_goals
    rw [if_neg (by omega)] at hp
    have Hp : Hid (Calls Try.prog 11 #[.slice (some ⟨q, 0, none⟩) 2 2, .slice (some ⟨q + 1, 0, none⟩) 2 2, .slice (some ⟨q + 1 + 1 + 1 + 1, 0, none⟩) 2 2, .int .i64 net] W (PrPost none W)) := hp
    clear hp
    go_wp2_with fail
    refine Hp.out.mono ?_
    rintro e w2 ⟨k2, ⟨_, rfl⟩ | ⟨l, pa, h, _⟩⟩
    rotate_left
    · cases h
    have hk2 := hk1.trans k2
    clear Hp k2
    go_wp2
    go_ret
    first | exact ⟨rfl, hk2⟩ | exact ⟨ret_bool (by simp; omega), hk2⟩
end Go.Proofs.Ytgbdnodkbdkaeaa
