/- Alloc: legs by the reference: what they cost together: Net 32. -/
import Derived.Test.YtgbdnodkbdkaeaaAq
namespace Go.Proofs.Ytgbdnodkbdkaeaa
open Go Go.RowKit

/-- The reference's Check of any legs. -/
theorem rcheck_all {w : World} {a : Option Addr} {cap : Nat} {ls : List Lg} (hm : ls.length ≤ maxLen) (hs : LgS w a ls) :
    Calls Try.prog 25 #[.slice a ls.length cap] w (WrPost (checkB ls) w) := by
  by_cases h : 2 ≤ ls.length ∧ ls.length ≤ 4
  · rcases hs with rfl | ⟨b, off, rfl, hs⟩
    · exact absurd h.1 (by simp)
    · exact rcheck_any h.1 h.2 hs
  · have : checkB ls = false := by unfold checkB; rcases Nat.lt_or_ge ls.length 2 with h1 | h1 <;> simp <;> omega
    rw [this]
    exact rcheck_short hm (by omega)
set_option maxRecDepth 100000 in
set_option maxHeartbeats 1000000 in
theorem rnet_bad {w : World} {a pa : Option Addr} {cap pcap plen : Nat} {ls : List Lg} (hm : ls.length ≤ maxLen) (hs : LgS w a ls) (h : checkB ls = false ∨ (checkB ls = true ∧ plen ≠ ls.length)) (hpl : plen ≤ maxLen) :
    Calls Try.prog 32 #[.slice a ls.length cap, .slice pa plen pcap] w (NtPost 0 1 w) := by
  have hck := rcheck_all (cap := cap) hm hs
  unfold maxLen at hm hpl
  rcases h with h | ⟨h, h1⟩
  · rw [h] at hck
    have Hck := Lib.hid hck
    clear hck h hs
    generalize ls.length = len at Hck hm ⊢
    go_enter Try.func32, Try.ntmps32
    go_wp2_with fail
    refine Hck.out.mono ?_
    rintro e w1 ⟨v, n, rfl, k1, ⟨h, _⟩ | ⟨_, ⟨fa, rfl⟩, hn⟩⟩
    · cases h
    have hb : (n != 0) = true := by rcases hn with rfl | rfl <;> rfl
    clear hn
    go_wp2
    go_ret2
    exact ⟨rfl, k1.alloc _⟩
  · rw [h] at hck
    have Hck := Lib.hid hck
    clear hck h hs
    generalize ls.length = len at Hck hm h1 ⊢
    have hb : ((len : Int) != (plen : Int)) = true := by simp; omega
    clear h1
    go_enter Try.func32, Try.ntmps32
    go_wp2_with fail
    refine Hck.out.mono ?_
    rintro e w1 ⟨v, n, rfl, k1, ⟨_, rfl, rfl⟩ | ⟨h, _⟩⟩
    rotate_left
    · cases h
    go_wp2
    go_ret2
    exact ⟨rfl, k1.alloc _⟩
set_option maxRecDepth 100000 in
set_option maxHeartbeats 2000000 in
theorem rnet_good {w : World} {b off cap pb poff pcap : Nat} {ls : List Lg} {ps : List Int} (hc : checkB ls = true) (hl : ps.length = ls.length) (hp : GoodP ps) (hs : LgAt w b off ls) (hps : PsAt w pb poff ps) :
    Calls Try.prog 32 #[.slice (some ⟨b, off, none⟩) ls.length cap, .slice (some ⟨pb, poff, none⟩) ls.length pcap] w (NtPost (netF ls ps ls.length) 0 w) := by
  obtain ⟨⟨h2, h4⟩, hgd⟩ := check_good hc
  have hbd := netF_bd hgd hp hl
  have hck := rcheck_any (cap := cap) h2 h4 hs
  rw [hc] at hck
  have Hck := Lib.hid hck
  have Hs := Lib.hid hs
  have Hps := Lib.hid hps
  have Hgd := Lib.hid hgd
  have Hp := Lib.hid hp
  have Hl := Lib.hid hl
  have Hbd := Lib.hid hbd
  obtain ⟨n, hn⟩ : ∃ n, ls.length = n := ⟨_, rfl⟩
  have Hn := Lib.hid hn
  rw [hn] at h2 h4 Hck ⊢
  clear hs hps hgd hp hbd hck hc hn hl
  go_enter Try.func32, Try.ntmps32
  go_wp2_with fail
  refine Hck.out.mono ?_
  rintro e w1 ⟨v, m, rfl, k1, ⟨_, rfl, rfl⟩ | ⟨h, _⟩⟩
  rotate_left
  · cases h
  go_upto_region 2 with fail
  have hk1 : Kept (fun _ => False) w (w1.alloc (.cells #[.slice none 0 0, .int .i64 0] 64)) := k1.alloc _
  have hbx := block_w0 w1
  generalize w1.heap.size = xb at hbx ⊢
  generalize w1.alloc (.cells #[.slice none 0 0, .int .i64 0] 64) = w2 at hbx hk1 ⊢
  have x1 : w2.cell? ⟨xb, 1, none⟩ = some (.int .i64 0) := by rw [cell_of_block hbx]; rfl
  have Hk1 := Lib.hid hk1
  clear k1 Hck hbx hk1
  go_wp2_with fail
  clear x1
  go_loopw [7, 8] (fun ov iv wr => NtRel ls ps w2 ov iv wr) (fun _ iv _ => n - (intOf iv).toNat)
  case atStart => exact ⟨0, Nat.zero_le _, rfl, rfl, Kept.refl _ _⟩
  case round =>
    obtain ⟨i, hi, rfl, rfl, hk⟩ := hrel
    have hin : i ≤ n := by have := Hn.out; omega
    clear hi
    by_cases hlt : i < n
    · have hb2 : (0 : Int) ≤ (i : Int) := by omega
      have hb3 : (i : Int) < (n : Int) := by omega
      have hkr := Hk1.out.trans hk
      obtain ⟨c0, c1, c2⟩ := (Hs.out.kept hkr) i (by have := Hn.out; omega)
      have cp := (Hps.out.kept hkr) i (by have := Hn.out; have := Hl.out; omega)
      have hgi := Hgd.out i (by have := Hn.out; omega)
      obtain ⟨p0, p1⟩ := Hp.out i (by have := Hn.out; have := Hl.out; omega)
      have hstep : netF ls ps (i + 1) = netF ls ps i + termL (lgAt ls i) (psAt ps i) := rfl
      obtain ⟨q1, q2⟩ := Hbd.out i (by have := Hn.out; omega)
      obtain ⟨q3, q4⟩ := Hbd.out (i + 1) (by have := Hn.out; omega)
      obtain ⟨t1, t2⟩ := term_bd hgi p0 p1
      obtain ⟨y, hy⟩ : ∃ y, lgAt ls i = y := ⟨_, rfl⟩
      obtain ⟨p, hpp⟩ : ∃ p, psAt ps i = p := ⟨_, rfl⟩
      rw [hy] at c0 c1 c2 hgi t1 t2
      rw [hpp] at cp p0 p1 t1 t2
      rw [hy, hpp] at hstep
      clear hy hpp c0
      obtain ⟨ser, sgn, rat⟩ := y
      simp only at c1 c2
      obtain ⟨_, g2, g3, g4⟩ := goodL_is hgi
      simp only at g2 g3 g4
      have hsr : -4 ≤ sgn * rat ∧ sgn * rat ≤ 4 := by rcases g2 with e | e <;> rw [e] <;> omega
      have hw1 : wrap64 (sgn * rat) = sgn * rat := IntWalk.wrap64_in _ (by omega)
      have hmul := mul_ref (sgn * rat) p (by unfold I64; omega) (by unfold I64; omega)
      rw [numRes_in (by unfold termL at t1 t2; simp only at t1 t2; omega)] at hmul
      have hadd := add_ref (netF ls ps i) (termL ⟨ser, sgn, rat⟩ p) (by unfold I64; omega) (by unfold I64; omega)
      rw [numRes_in (by rw [← hstep]; omega), ← hstep] at hadd
      have Hadd := Lib.hid hadd
      have Hmul : Hid (∀ w, Calls Try.prog 51 #[.int .i64 (sgn * rat), .int .i64 p] w fun e w' => e = .returned (.tuple #[.int .i64 (termL ⟨ser, sgn, rat⟩ p), .int .i64 0]) ∧ w' = w) := hmul
      clear hadd hmul hstep q1 q2 q3 q4 t1 t2 hgi g2 g3 g4 p0 p1 hsr
      generalize termL ⟨ser, sgn, rat⟩ p = z at Hadd Hmul
      go_upto_region 8 with fail
      go_quiet ((go_at_call 51; exact Calls.quiet_of_same (Hmul.out _)))
      go_wp2_with fail
      refine (Hadd.out _).mono ?_
      rintro e w3 ⟨rfl, rfl⟩
      have hky := hk.drewN
      go_wp2
      exact ⟨⟨i + 1, by have := Hn.out; omega, rfl, by push_cast; rfl, hky _⟩, by simp [intOf]; omega⟩
    · obtain rfl : i = n := by omega
      have hk9 := Hk1.out.trans hk
      go_wp2
      go_ret2
      exact ⟨rfl, hk9⟩
end Go.Proofs.Ytgbdnodkbdkaeaa
