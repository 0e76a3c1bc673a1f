/- Alloc: the next prices by the reference: Up 47, Down 48. -/
import Derived.Test.YtgbdnodkbdkaeaaAi
namespace Go.Proofs.Ytgbdnodkbdkaeaa
open Go Go.RowKit

set_option maxHeartbeats 1000000 in
theorem down_ref {w : World} {b off cap : Nat} {xs : List (Int × Int)} (p : Int) (hg : GoodT xs) (hb : b < w.heap.size) (hs : StAt w b off xs) :
    Calls Try.prog 48 #[.slice (some ⟨b, off, none⟩) xs.length cap, .int .i64 p] w (OpPost (downT xs p) w) := by
  have ho := on_ref (cap := cap) p hg hb hs
  have Hg := Lib.hid hg
  have Hs := Lib.hid hs
  have HO := Lib.hid ho
  clear ho hs hg
  cases hon : onT xs p with
  | false =>
    have hE : Hid (downT xs p = none) := by show _ = _; unfold downT; rw [if_neg (by rw [hon]; simp)]
    rw [hon] at HO
    clear hon
    generalize xs.length = len at HO ⊢
    go_enter Try.func48, Try.ntmps48
    go_wp2_with fail
    refine HO.out.mono ?_
    rintro e w' ⟨rfl, hk⟩
    go_wp2
    go_ret2
    exact ⟨ret_op hE.out (fun _ => rfl), hk⟩
  | true =>
    obtain ⟨hp1, hp2⟩ := onT_range Hg.out hon
    by_cases h1 : p = 1
    · have hE : Hid (downT xs p = none) := by show _ = _; unfold downT; rw [if_neg (by simp [h1])]
      rw [hon] at HO
      have hb1 : (p == 1) = true := by simp [h1]
      clear hon h1
      generalize xs.length = len at HO ⊢
      go_enter Try.func48, Try.ntmps48
      go_wp2_with fail
      refine HO.out.mono ?_
      rintro e w' ⟨rfl, hk⟩
      go_wp2
      go_ret2
      exact ⟨ret_op hE.out (fun _ => rfl), hk⟩
    · have hE : Hid (downT xs p = some (nearT xs (p - 1))) := by show _ = _; unfold downT; rw [if_pos ⟨hon, h1⟩]
      have hb1 : (p == 1) = false := by simp [h1]
      have hz := (nearT_le Hg.out (p := p - 1) (by omega)).1
      have hw1 : wrap64 (p - 1) = p - 1 := IntWalk.wrap64_in _ (by omega)
      rw [hon] at HO
      clear hon h1
      obtain ⟨len, hlen⟩ : ∃ len, xs.length = len := ⟨_, rfl⟩
      have Hlen := Lib.hid hlen
      rw [hlen] at HO ⊢
      clear hlen
      go_enter Try.func48, Try.ntmps48
      go_wp2_with fail
      refine HO.out.mono ?_
      rintro e w' ⟨rfl, hk⟩
      have hnr : Hid (Calls Try.prog 49 #[.slice (some ⟨b, off, none⟩) len cap, .int .i64 (p - 1)] w' (NrPost (nearT xs (p - 1)) w')) := by
        have := near_ref (cap := cap) (p - 1) Hg.out (Nat.lt_of_lt_of_le hb hk.size) (Hs.out.kept hb hk); rw [Hlen.out] at this; exact this
      go_wp2_with fail
      refine hnr.out.mono ?_
      rintro e w'' ⟨rfl, hk2⟩
      go_wp2
      go_ret2
      exact ⟨ret_op (by rw [hE.out]; rfl) (fun h => by cases h), hk.trans hk2⟩
theorem run_field93 (f y : Int) (w : World) : (Instr.field 93 (.agg #[.int .i64 f, .int .i64 y]) 1).run Try.prog w = .ok (.int .i64 y) w := by
  simp [Instr.field, go_sem, asAgg]
set_option maxRecDepth 100000 in
set_option maxHeartbeats 1000000 in
theorem up_ref {w : World} {b off cap : Nat} {xs : List (Int × Int)} (p : Int) (hg : GoodT xs) (hb : b < w.heap.size) (hs : StAt w b off xs) :
    Calls Try.prog 47 #[.slice (some ⟨b, off, none⟩) xs.length cap, .int .i64 p] w (OpPost (upT xs p) w) := by
  have ho := on_ref (cap := cap) p hg hb hs
  have Hg := Lib.hid hg
  have Hs := Lib.hid hs
  have HO := Lib.hid ho
  clear ho hs hg
  cases hon : onT xs p with
  | false =>
    have hE : Hid (upT xs p = none) := by show _ = _; unfold upT; rw [if_neg (by rw [hon]; simp)]
    rw [hon] at HO
    clear hon
    generalize xs.length = len at HO ⊢
    go_enter Try.func47, Try.ntmps47
    go_wp2_with fail
    refine HO.out.mono ?_
    rintro e w' ⟨rfl, hk⟩
    go_wp2
    go_ret2
    exact ⟨ret_op hE.out (fun _ => rfl), hk⟩
  | true =>
    obtain ⟨hp1, hp2⟩ := onT_range Hg.out hon
    obtain ⟨k, hk, he, hst, hle⟩ := Hg.out.step hp1
    obtain ⟨h1, h2, h3, h4⟩ := Hg.out.rows k hk
    have hsT : stepT xs p = xs.getD k (0, 0) := by unfold stepT; rw [hst]
    obtain ⟨sx, hsx⟩ : ∃ sx, stepT xs p = sx := ⟨_, rfl⟩
    rw [← hsT, hsx] at h3 h4
    obtain ⟨f, y⟩ := sx
    simp only at h3 h4
    have hw1 : wrap64 (p + y) = p + y := IntWalk.wrap64_in _ (by omega)
    have hE : Hid (upT xs p = if p + y ≤ 1000000 then some (p + y) else none) := by show _ = _; unfold upT; rw [if_pos hon, hsx]
    have Hst : Hid (∀ w' : World, Kept (fun _ => False) w w' → Calls Try.prog 58 #[.slice (some ⟨b, off, none⟩) xs.length cap, .int .i64 p] w' (SpPost (f, y) w')) := fun w' h => by
      have := stepR_any (cap := cap) p hp1 Hg.out (Nat.lt_of_lt_of_le hb h.size) (Hs.out.kept hb h); rw [hsx] at this; exact this
    rw [hon] at HO
    clear hon he hst hle hsT hsx h1 h2 hk
    generalize xs.length = len at HO Hst ⊢
    by_cases hbig : p + y ≤ 1000000
    all_goals
      go_enter Try.func47, Try.ntmps47
      go_wp2_with fail
      refine HO.out.mono ?_
      rintro e w' ⟨rfl, hk⟩
      go_wp2_with fail
      refine (Hst.out w' hk).mono ?_
      rintro e w'' ⟨rfl, hk2⟩
      have hkk := hk.trans hk2
      have hfld := run_field93 f y w''
      go_wp2
      go_ret2
      exact ⟨ret_op (by rw [hE.out]; first | exact if_pos hbig | exact if_neg (by omega)) (fun h => by first | rfl | cases h), hkk⟩
end Go.Proofs.Ytgbdnodkbdkaeaa
