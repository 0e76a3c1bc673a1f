/- Alloc: legs: whether they may be: Check 19. -/
import Derived.Test.YtgbdnodkbdkaeaaAn
namespace Go.Proofs.Ytgbdnodkbdkaeaa
open Go Go.RowKit

/-- Legs, in a slice. -/
def LgS (w : World) (a : Option Addr) (ls : List Lg) : Prop := ls = [] ∨ ∃ b off, a = some ⟨b, off, none⟩ ∧ LgAt w b off ls
theorem LgS.kept {A B : World} {a : Option Addr} {ls : List Lg} (h : Kept (fun _ => False) A B) (hs : LgS A a ls) : LgS B a ls := by
  rcases hs with h1 | ⟨b, off, h1, h2⟩
  · exact .inl h1
  · exact .inr ⟨b, off, h1, h2.kept h⟩
def CkRel (ls : List Lg) (w0 : World) (iv : Value) (wr : World) : Prop := ∃ i : Nat, i ≤ ls.length ∧ iv = .int .i64 i ∧ uptoB ls i = true ∧ Kept (fun _ => False) w0 wr
set_option maxHeartbeats 1000000 in
theorem check_short {w : World} {a : Option Addr} {len cap : Nat} (hl : len ≤ maxLen) (h : len < 2 ∨ 4 < len) :
    Calls Try.prog 19 #[.slice a len cap] w (CkPost false w) := by
  unfold maxLen at hl
  rcases h with h | h
  all_goals
    go_enter Try.func19, Try.ntmps19
    go_wp2_with fail
    refine (fault_any _ _ _).mono ?_
    rintro e w1 ⟨⟨fa, rfl⟩, k1⟩
    go_wp2
    go_ret
    exact ⟨k1, .inr ⟨rfl, _, rfl⟩⟩
set_option maxRecDepth 100000 in
set_option maxHeartbeats 2000000 in
theorem check_any {w : World} {b off cap : Nat} {ls : List Lg} (h2 : 2 ≤ ls.length) (h4 : ls.length ≤ 4) (hcap : ls.length ≤ cap) (hs : LgAt w b off ls) :
    Calls Try.prog 19 #[.slice (some ⟨b, off, none⟩) ls.length cap] w (CkPost (checkB ls) w) := by
  have Hs := Lib.hid hs
  obtain ⟨n, hn⟩ : ∃ n, ls.length = n := ⟨_, rfl⟩
  have Hn := Lib.hid hn
  rw [hn] at h2 h4 hcap ⊢
  clear hs hn
  go_enter Try.func19, Try.ntmps19
  go_wp2_with fail
  go_loopw [19] (fun iv wr => CkRel ls w iv wr) (fun iv _ => n - (intOf iv).toNat)
  case atStart => exact ⟨0, Nat.zero_le _, rfl, rfl, Kept.refl _ _⟩
  case round =>
    obtain ⟨i, hi, rfl, hup, hk⟩ := hrel
    have hin : i ≤ n := by have := Hn.out; omega
    have Hup := Lib.hid hup
    clear hi hup
    by_cases hlt : i < n
    · have hb2 : (0 : Int) ≤ (i : Int) := by omega
      have hb3 : (i : Int) < (n : Int) := by omega
      have hb4 : (i : Int) ≤ (cap : Int) := by omega
      obtain ⟨c0, c1, c2⟩ := (Hs.out.kept hk) i (by have := Hn.out; omega)
      obtain ⟨y, hy⟩ : ∃ y, lgAt ls i = y := ⟨_, rfl⟩
      rw [hy] at c0 c1 c2
      have Hy := Lib.hid hy
      clear hy
      obtain ⟨ser, sgn, rat⟩ := y
      simp only at c0 c1 c2
      have hbad : Hid (goodL ⟨ser, sgn, rat⟩ = false → CkPost (checkB ls) = CkPost false) := fun h => by
        rw [check_bad (i := i) (by have := Hn.out; omega) (.inl (by rw [Hy.out]; exact h))]
      go_upto_region 6 with fail
      have hbx := block_new3 wr (.cells #[.int .i64 ser, .int .i64 sgn, .int .i64 rat] 43)
      have hkx : Kept (fun _ => False) wr (wr.alloc (.cells #[.int .i64 ser, .int .i64 sgn, .int .i64 rat] 43)) := (Kept.refl _ _).alloc _
      generalize wr.heap.size = xb at hbx ⊢
      generalize wr.alloc (.cells #[.int .i64 ser, .int .i64 sgn, .int .i64 rat] 43) = w1 at hbx hkx ⊢
      have hk1 := hk.trans hkx
      clear c0 c1 c2 hkx hk
      have x0 : w1.cell? ⟨xb, 0, none⟩ = some (.int .i64 ser) := by rw [cell_of_block hbx]; rfl
      have x1 : w1.cell? ⟨xb, 1, none⟩ = some (.int .i64 sgn) := by rw [cell_of_block hbx]; rfl
      have x2 : w1.cell? ⟨xb, 2, none⟩ = some (.int .i64 rat) := by rw [cell_of_block hbx]; rfl
      clear hbx
      by_cases g1 : 1 ≤ ser
      · have hs3 : sgn = 1 ∨ sgn = -1 ∨ (sgn ≠ 1 ∧ sgn ≠ -1) := by omega
        rcases hs3 with rfl | rfl | ⟨g2, g3⟩
        rotate_left 2
        · have q1 : (sgn != 1) = true := by simp [g2]
          have q2 : (sgn != -1) = true := by simp [g3]
          have hB := Lib.hid (hbad.out (by simp [goodL, g2, g3]))
          clear g2 g3 hbad
          go_wp2_with fail
          refine (fault_any _ _ _).mono ?_
          rintro e w2 ⟨⟨fa, rfl⟩, k2⟩
          go_wp2
          go_ret
          rw [hB.out]
          exact ⟨hk1.trans k2, .inr ⟨rfl, _, rfl⟩⟩
        all_goals
          obtain ⟨r, hr⟩ : ∃ r, (decide (1 ≤ rat) && decide (rat ≤ 4)) = r := ⟨_, rfl⟩
          have Hr := Lib.hid hr
          clear hr
          go_wp2_with fail
          refine (in_num _ _ _ _).mono ?_
          rintro e w2 ⟨rfl, rfl⟩
          rw [Hr.out]
          cases r with
          | false =>
            have hB := Lib.hid (hbad.out (by simp only [goodL, Hr.out, Bool.and_false]))
            clear hbad Hr
            go_wp2_with fail
            refine (fault_any _ _ _).mono ?_
            rintro e w2 ⟨⟨fa, rfl⟩, k2⟩
            go_wp2
            go_ret
            rw [hB.out]
            exact ⟨hk1.trans k2, .inr ⟨rfl, _, rfl⟩⟩
          | true =>
            clear hbad
            obtain ⟨m, hm⟩ : ∃ m, anyB ls i ser = m := ⟨_, rfl⟩
            have Hm := Lib.hid hm
            clear hm
            have hcf := Lib.hid (contf_any (n := i) (cap := cap) ser (by have := Hn.out; omega) (by have := Hn.out; omega) (Hs.out.kept hk1) x0)
            rw [Hm.out] at hcf
            go_wp2_with fail
            refine hcf.out.mono ?_
            rintro e w3 ⟨rfl, k3⟩
            have hk3 := hk1.trans k3
            clear hcf x0 x1 x2
            cases m with
            | true =>
              have hB : Hid (CkPost (checkB ls) = CkPost false) := by
                show _ = _
                rw [check_bad (i := i) (by have := Hn.out; omega) (.inr (by rw [Hy.out]; exact Hm.out))]
              go_wp2_with fail
              refine (fault_any _ _ _).mono ?_
              rintro e w2 ⟨⟨fa, rfl⟩, k2⟩
              go_wp2
              go_ret
              rw [hB.out]
              exact ⟨hk3.trans k2, .inr ⟨rfl, _, rfl⟩⟩
            | false =>
              have hup2 : Hid (uptoB ls (i + 1) = true) := by
                show (uptoB ls i && (goodL (lgAt ls i) && !anyB ls i (lgAt ls i).ser)) = true
                rw [Hup.out, Hy.out, Hm.out]
                simp only [goodL, Hr.out, g1]
                decide
              clear Hr Hm
              go_wp2
              exact ⟨⟨i + 1, by have := Hn.out; omega, by push_cast; rfl, hup2.out, hk3⟩, by simp [intOf]; omega⟩
      · have hB := Lib.hid (hbad.out (by simp [goodL, g1]))
        have g2 : ser < 1 := by omega
        clear hbad g1
        go_wp2_with fail
        refine (fault_any _ _ _).mono ?_
        rintro e w2 ⟨⟨fa, rfl⟩, k2⟩
        go_wp2
        go_ret
        rw [hB.out]
        exact ⟨hk1.trans k2, .inr ⟨rfl, _, rfl⟩⟩
    · obtain rfl : i = n := by omega
      have hB : Hid (checkB ls = true) := by
        show checkB ls = true
        unfold checkB
        rw [Hn.out, Hup.out]
        simp; omega
      go_wp2
      go_ret
      rw [hB.out]
      exact ⟨hk, .inl ⟨rfl, rfl⟩⟩
/-- Check of any legs. -/
theorem check_all {w : World} {a : Option Addr} {cap : Nat} {ls : List Lg} (hm : ls.length ≤ maxLen) (hcap : ls.length ≤ cap) (hs : LgS w a ls) :
    Calls Try.prog 19 #[.slice a ls.length cap] w (CkPost (checkB ls) w) := by
  by_cases h : 2 ≤ ls.length ∧ ls.length ≤ 4
  · rcases hs with rfl | ⟨b, off, rfl, hs⟩
    · exact absurd h.1 (by simp)
    · exact check_any h.1 h.2 hcap hs
  · have : checkB ls = false := by unfold checkB; rcases Nat.lt_or_ge ls.length 2 with h1 | h1 <;> simp <;> omega
    rw [this]
    exact check_short hm (by omega)
end Go.Proofs.Ytgbdnodkbdkaeaa
