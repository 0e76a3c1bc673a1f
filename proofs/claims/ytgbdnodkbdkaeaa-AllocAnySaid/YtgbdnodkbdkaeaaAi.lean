/- Alloc: a table's prices by the reference: Near 49, On 27, Up 47, Down 48: the same as the program's where the table may be. -/
import Derived.Test.YtgbdnodkbdkaeaaAh
namespace Go.Proofs.Ytgbdnodkbdkaeaa
open Go Go.RowKit

theorem rstep_stepT {xs : List (Int × Int)} (hg : GoodT xs) {p : Int} (hp : 1 ≤ p) : xs.getD (rstepK xs p xs.length) (0, 0) = stepT xs p := by
  unfold stepT stepK
  rw [rstepK_is hg hp _ hg.len.1]; rfl
theorem stepR_any {w : World} {b off cap : Nat} {xs : List (Int × Int)} (p : Int) (hp : 1 ≤ p) (hg : GoodT xs) (hb : b < w.heap.size) (hs : StAt w b off xs) :
    Calls Try.prog 58 #[.slice (some ⟨b, off, none⟩) xs.length cap, .int .i64 p] w (SpPost (stepT xs p) w) := by
  have := step_ref (cap := cap) p hg hb hs
  rwa [rstep_stepT hg hp] at this
set_option maxHeartbeats 1000000 in
theorem near_ref {w : World} {b off cap : Nat} {xs : List (Int × Int)} (p : Int) (hg : GoodT xs) (hb : b < w.heap.size) (hs : StAt w b off xs) :
    Calls Try.prog 49 #[.slice (some ⟨b, off, none⟩) xs.length cap, .int .i64 p] w (NrPost (nearT xs p) w) := by
  by_cases hp : p < 1
  · have hE : Hid (nearT xs p = 0) := if_pos hp
    clear hs hg
    generalize xs.length = len
    go_enter Try.func49, Try.ntmps49
    go_wp2
    go_ret
    exact ⟨ret_int hE.out.symm, Kept.refl _ _⟩
  · obtain ⟨q, hq⟩ : ∃ q, min p 1000000 = q := ⟨_, rfl⟩
    have hq1 : 1 ≤ q := by omega
    have hq2 : q ≤ 1000000 := by omega
    have ho := stepR_any (cap := cap) q hq1 hg hb hs
    obtain ⟨k, hk, he, hst, hle⟩ := hg.step hq1
    obtain ⟨h1, h2, h3, h4⟩ := hg.rows k hk
    have hE : nearT xs p = q - (q - (stepT xs q).1) % (stepT xs q).2 := by
      unfold nearT; rw [if_neg hp, hq]
    obtain ⟨sx, hsx⟩ : ∃ sx, stepT xs q = sx := ⟨_, rfl⟩
    have hsk : xs.getD k (0, 0) = sx := by rw [← hsx]; unfold stepT; rw [hst]
    rw [hsk] at h1 h2 h3 h4 hle
    rw [hsx] at ho hE
    obtain ⟨f, y⟩ := sx
    simp only at h1 h2 h3 h4 hle hE
    have t0 : 0 ≤ (q - f) % y := Int.emod_nonneg _ (by omega)
    have t1 : (q - f) % y < y := Int.emod_lt_of_pos _ (by omega)
    have hW : Hid (wrap64 (q - (q - f) % y) = q - (q - f) % y) := IntWalk.wrap64_in _ (by omega)
    have HE := Lib.hid hE
    have HO := Lib.hid ho
    have hp' : 1 ≤ p := by omega
    have hcs : (p ≤ 1000000 ∧ q = p) ∨ (1000000 < p ∧ q = 1000000) := by omega
    clear t0 t1 ho hs hg hk he hst hsx hsk hE hq hp
    generalize xs.length = len at HO ⊢
    rcases hcs with ⟨hc, rfl⟩ | ⟨hc, rfl⟩
    all_goals
      go_enter Try.func49, Try.ntmps49
      go_wp2_with fail
      refine HO.out.mono ?_
      rintro e w' ⟨rfl, hk⟩
      go_wp2
      go_ret
      exact ⟨ret_int (hW.out.trans HE.out.symm), hk.alloc _⟩
set_option maxHeartbeats 1000000 in
theorem on_ref {w : World} {b off cap : Nat} {xs : List (Int × Int)} (p : Int) (hg : GoodT xs) (hb : b < w.heap.size) (hs : StAt w b off xs) :
    Calls Try.prog 27 #[.slice (some ⟨b, off, none⟩) xs.length cap, .int .i64 p] w (BlPost (onT xs p) w) := by
  have hn := near_ref (cap := cap) p hg hb hs
  by_cases hp : 1 ≤ p
  · by_cases hp2 : p ≤ 1000000
    · have hE : Hid (onT xs p = (nearT xs p == p)) := by show _ = _; unfold onT; simp [hp]
      have HN := Lib.hid hn
      clear hn hs hg
      generalize xs.length = len at HN ⊢
      go_enter Try.func27, Try.ntmps27
      go_wp2_with fail
      refine HN.out.mono ?_
      rintro e w' ⟨rfl, hk⟩
      go_wp2
      go_ret
      exact ⟨ret_bool hE.out.symm, hk⟩
    · have hE : Hid (onT xs p = false) := by
        show _ = _
        cases h : onT xs p with
        | false => rfl
        | true => exact absurd (onT_range hg h).2 hp2
      have hp3 : 1000000 < p := by omega
      clear hn hs hg
      go_enter Try.func27, Try.ntmps27
      go_wp2
      go_ret
      exact ⟨ret_bool hE.out.symm, Kept.refl _ _⟩
  · have hE : Hid (onT xs p = false) := by show _ = _; unfold onT; simp [hp]
    have hp' : p < 1 := by omega
    clear hn hs hg
    go_enter Try.func27, Try.ntmps27
    go_wp2
    go_ret
    exact ⟨ret_bool hE.out.symm, Kept.refl _ _⟩
end Go.Proofs.Ytgbdnodkbdkaeaa
