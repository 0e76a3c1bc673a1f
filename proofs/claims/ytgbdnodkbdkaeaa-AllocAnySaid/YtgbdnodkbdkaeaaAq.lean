/- Alloc: legs: what they cost together: part 35, Net 18. -/
import Derived.Test.YtgbdnodkbdkaeaaAp
namespace Go.Proofs.Ytgbdnodkbdkaeaa
open Go Go.RowKit

def psAt (ps : List Int) (j : Nat) : Int := ps.getD j 0
def PsAt (w : World) (b off : Nat) (ps : List Int) : Prop := ∀ j, j < ps.length → w.cell? ⟨b, off + j, none⟩ = some (.int .i64 (psAt ps j))
theorem PsAt.kept {A B : World} {b off : Nat} {ps : List Int} (h : Kept (fun _ => False) A B) (hs : PsAt A b off ps) : PsAt B b off ps := fun j hj => cell_kept2 h (hs j hj)
/-- Prices, in a slice. -/
def PsS (w : World) (a : Option Addr) (ps : List Int) : Prop := ps = [] ∨ ∃ b off, a = some ⟨b, off, none⟩ ∧ PsAt w b off ps
theorem PsS.kept {A B : World} {a : Option Addr} {ps : List Int} (h : Kept (fun _ => False) A B) (hs : PsS A a ps) : PsS B a ps := by
  rcases hs with h1 | ⟨b, off, h1, h2⟩
  · exact .inl h1
  · exact .inr ⟨b, off, h1, h2.kept h⟩
theorem SlAt.ps {w : World} {a : Option Addr} {cap : Nat} {ps : List Int} (h : SlAt w 2 1 a ps.length cap (ps.map intC)) : PsS w a ps := by
  rcases h.2.2 with ⟨h1, h2⟩ | ⟨t, o, arr, h1, h2, h3, h4⟩
  · have := h.2.1
    exact .inl (List.eq_nil_of_length_eq_zero (by omega))
  · subst h1
    exact .inr ⟨t, o, rfl, fun j hj => by
      rw [h.cell (j := j) (by omega)]
      simp [psAt, intC, List.getD_eq_getElem?_getD, List.getElem?_eq_getElem hj]⟩
def termL (x : Lg) (p : Int) : Int := x.sgn * x.rat * p
def netF (ls : List Lg) (ps : List Int) : Nat → Int
  | 0 => 0
  | i + 1 => netF ls ps i + termL (lgAt ls i) (psAt ps i)
def GoodP (ps : List Int) : Prop := ∀ j, j < ps.length → 0 ≤ psAt ps j ∧ psAt ps j ≤ 1000000
theorem upto_good {ls : List Lg} : ∀ {n : Nat}, uptoB ls n = true → ∀ j, j < n → goodL (lgAt ls j) = true
  | 0, _, j, hj => by omega
  | n + 1, h, j, hj => by
    have h' : (uptoB ls n && (goodL (lgAt ls n) && !anyB ls n (lgAt ls n).ser)) = true := h
    simp only [Bool.and_eq_true] at h'
    by_cases e : j = n
    · subst e; exact h'.2.1
    · exact upto_good h'.1 j (by omega)
theorem check_good {ls : List Lg} (h : checkB ls = true) : (2 ≤ ls.length ∧ ls.length ≤ 4) ∧ ∀ j, j < ls.length → goodL (lgAt ls j) = true := by
  unfold checkB at h
  simp only [Bool.and_eq_true, decide_eq_true_eq] at h
  exact ⟨h.1, upto_good h.2⟩
theorem goodL_is {x : Lg} (h : goodL x = true) : 1 ≤ x.ser ∧ (x.sgn = 1 ∨ x.sgn = -1) ∧ 1 ≤ x.rat ∧ x.rat ≤ 4 := by
  simp only [goodL, Bool.and_eq_true, Bool.or_eq_true, decide_eq_true_eq, beq_iff_eq] at h
  exact ⟨h.1.1, h.1.2, h.2.1, h.2.2⟩
theorem mul_bd {r p : Int} (h3 : 1 ≤ r) (h4 : r ≤ 4) (h5 : 0 ≤ p) (h6 : p ≤ 1000000) : 0 ≤ r * p ∧ r * p ≤ 4000000 := by
  have h7 := Int.mul_nonneg (show 0 ≤ r by omega) h5
  have h8 : r * p ≤ 4 * 1000000 := Int.mul_le_mul h4 h6 h5 (by omega)
  omega
theorem term_bd {x : Lg} (h : goodL x = true) {p : Int} (h5 : 0 ≤ p) (h6 : p ≤ 1000000) : -4000000 ≤ termL x p ∧ termL x p ≤ 4000000 := by
  obtain ⟨_, h2, h3, h4⟩ := goodL_is h
  obtain ⟨h7, h8⟩ := mul_bd h3 h4 h5 h6
  unfold termL
  rcases h2 with e | e <;> rw [e] <;> simp only [Int.one_mul, Int.neg_mul] <;> omega
theorem netF_bd {ls : List Lg} {ps : List Int} (hg : ∀ j, j < ls.length → goodL (lgAt ls j) = true) (hp : GoodP ps) (hl : ps.length = ls.length) : ∀ i, i ≤ ls.length → -4000000 * (i : Int) ≤ netF ls ps i ∧ netF ls ps i ≤ 4000000 * (i : Int)
  | 0, _ => by simp [netF]
  | i + 1, h => by
    have h1 := netF_bd hg hp hl i (by omega)
    have h2 := term_bd (hg i (by omega)) (hp i (by omega)).1 (hp i (by omega)).2
    show -4000000 * ((i + 1 : Nat) : Int) ≤ netF ls ps i + _ ∧ netF ls ps i + _ ≤ _
    push_cast
    omega
def NtPost (n e0 : Int) (w : World) (e : Ending) (w' : World) : Prop := e = .returned (.tuple #[.int .i64 n, .int .i64 e0]) ∧ Kept (fun _ => False) w w'
set_option maxHeartbeats 1000000 in
theorem part_any (ser sgn rat p : Int) (hg : goodL ⟨ser, sgn, rat⟩ = true) (h5 : 0 ≤ p) (h6 : p ≤ 1000000) (w : World) :
    Calls Try.prog 35 #[.agg #[.int .i64 ser, .int .i64 sgn, .int .i64 rat], .int .i64 p] w (NtPost (termL ⟨ser, sgn, rat⟩ p) 0 w) := by
  obtain ⟨_, h2, h3, h4⟩ := goodL_is hg
  simp only at h2 h3 h4
  have hb := term_bd hg h5 h6
  have hr1 : numRes (sgn * rat) = .tuple #[.int .i64 (sgn * rat), .int .i64 0] := numRes_in (by rcases h2 with e | e <;> rw [e] <;> omega)
  have hr2 : numRes (sgn * rat * p) = .tuple #[.int .i64 (sgn * rat * p), .int .i64 0] := numRes_in (by have h := hb; unfold termL at h; simp only at h; omega)
  have hm1 := mul_num sgn rat (by unfold I64; omega) (by unfold I64; omega)
  have hm2 := mul_num (sgn * rat) p (by unfold I64; rcases h2 with e | e <;> rw [e] <;> omega) (by unfold I64; omega)
  rw [hr1] at hm1
  rw [hr2] at hm2
  have Hm1 := Lib.hid hm1
  have Hm2 := Lib.hid hm2
  have hq : (w.alloc (.cells #[.int .i64 ser, .int .i64 sgn, .int .i64 rat] 43)).heap[w.heap.size]? = some (.cells #[.int .i64 ser, .int .i64 sgn, .int .i64 rat] 43 (0, 0)) := block_new3 _ _
  have hk : Kept (fun _ => False) w (w.alloc (.cells #[.int .i64 ser, .int .i64 sgn, .int .i64 rat] 43)) := (Kept.refl _ _).alloc _
  clear hm1 hm2 hr1 hr2 hb h2 h3 h4 hg h5 h6
  go_enter Try.func35, Try.ntmps35
  go_upto_region 1 with fail
  generalize w.heap.size = q at hq ⊢
  generalize w.alloc (.cells #[.int .i64 ser, .int .i64 sgn, .int .i64 rat] 43) = w0 at hq hk ⊢
  have c1 : w0.cell? ⟨q, 1, none⟩ = some (.int .i64 sgn) := by rw [cell_of_block hq]; rfl
  have c2 : w0.cell? ⟨q, 2, none⟩ = some (.int .i64 rat) := by rw [cell_of_block hq]; rfl
  go_wp2_with fail
  refine (Hm1.out w0).mono ?_
  rintro e w1 ⟨rfl, rfl⟩
  obtain ⟨z, hz⟩ : ∃ z, sgn * rat = z := ⟨_, rfl⟩
  rw [hz] at Hm2 ⊢
  have Hz := Lib.hid hz
  clear hz
  go_wp2_with fail
  refine (Hm2.out _).mono ?_
  rintro e w1 ⟨rfl, rfl⟩
  go_wp2
  go_ret2
  exact ⟨by unfold termL; simp only; rw [Hz.out]; rfl, hk⟩
theorem part_kw {w : World} (ser sgn rat p : Int) (hg : goodL ⟨ser, sgn, rat⟩ = true) (h5 : 0 ≤ p) (h6 : p ≤ 1000000) (x : KW w) :
    Calls Try.prog 35 #[.agg #[.int .i64 ser, .int .i64 sgn, .int .i64 rat], .int .i64 p] x.w fun e w'' => e = .returned (.tuple #[.int .i64 (termL ⟨ser, sgn, rat⟩ p), .int .i64 0]) ∧ ∃ y : KW w, w'' = y.w :=
  Calls.kw (part_any ser sgn rat p hg h5 h6 x.w)
def NtRel (ls : List Lg) (ps : List Int) (w0 : World) (ov iv : Value) (wr : World) : Prop := ∃ i : Nat, i ≤ ls.length ∧ ov = .int .i64 (netF ls ps i) ∧ iv = .int .i64 i ∧ Kept (fun _ => False) w0 wr
set_option maxRecDepth 100000 in
set_option maxHeartbeats 1000000 in
theorem net_bad {w : World} {a pa : Option Addr} {cap pcap plen : Nat} {ls : List Lg} (hm : ls.length ≤ maxLen) (hcap : ls.length ≤ cap) (hs : LgS w a ls) (h : checkB ls = false ∨ (checkB ls = true ∧ plen ≠ ls.length)) (hpl : plen ≤ maxLen) :
    Calls Try.prog 18 #[.slice a ls.length cap, .slice pa plen pcap] w (NtPost 0 1 w) := by
  have hck := check_all hm hcap hs
  unfold maxLen at hm hpl
  rcases h with h | ⟨h, h1⟩
  · rw [h] at hck
    have Hck := Lib.hid hck
    clear hck h hs hcap
    generalize ls.length = len at Hck hm ⊢
    go_enter Try.func18, Try.ntmps18
    go_wp2_with fail
    refine Hck.out.mono ?_
    rintro e w1 ⟨k1, ⟨h, _⟩ | ⟨_, fa, rfl⟩⟩
    · cases h
    go_wp2
    go_ret2
    exact ⟨rfl, k1⟩
  · rw [h] at hck
    have Hck := Lib.hid hck
    clear hck h hs hcap
    generalize ls.length = len at Hck hm h1 ⊢
    have hb : ((plen : Int) != (len : Int)) = true := by simp; omega
    clear h1
    go_enter Try.func18, Try.ntmps18
    go_wp2_with fail
    refine Hck.out.mono ?_
    rintro e w1 ⟨k1, ⟨_, rfl⟩ | ⟨h, _⟩⟩
    rotate_left
    · cases h
    go_wp2
    go_ret2
    exact ⟨rfl, k1⟩
set_option maxRecDepth 100000 in
set_option maxHeartbeats 2000000 in
theorem net_good {w : World} {b off cap pb poff pcap : Nat} {ls : List Lg} {ps : List Int} (hc : checkB ls = true) (hl : ps.length = ls.length) (hp : GoodP ps) (hcap : ls.length ≤ cap) (hs : LgAt w b off ls) (hps : PsAt w pb poff ps) :
    Calls Try.prog 18 #[.slice (some ⟨b, off, none⟩) ls.length cap, .slice (some ⟨pb, poff, none⟩) ls.length pcap] w (NtPost (netF ls ps ls.length) 0 w) := by
  obtain ⟨⟨h2, h4⟩, hgd⟩ := check_good hc
  have hbd := netF_bd hgd hp hl
  have hck := check_any h2 h4 hcap hs
  rw [hc] at hck
  have Hck := Lib.hid hck
  have Hs := Lib.hid hs
  have Hps := Lib.hid hps
  have Hgd := Lib.hid hgd
  have Hp := Lib.hid hp
  have Hl := Lib.hid hl
  have Hbd := Lib.hid hbd
  obtain ⟨n, hn⟩ : ∃ n, ls.length = n := ⟨_, rfl⟩
  have Hn := Lib.hid hn
  rw [hn] at h2 h4 hcap Hck ⊢
  clear hs hps hgd hp hbd hck hc hn hl
  go_enter Try.func18, Try.ntmps18
  go_wp2_with fail
  refine Hck.out.mono ?_
  rintro e w1 ⟨k1, ⟨_, rfl⟩ | ⟨h, _⟩⟩
  rotate_left
  · cases h
  have Hk1 := Lib.hid k1
  clear k1 Hck
  go_wp2_with fail
  go_loopw [6, 23] (fun ov iv wr => NtRel ls ps w1 ov iv wr) (fun _ iv _ => n - (intOf iv).toNat)
  case atStart => exact ⟨0, Nat.zero_le _, rfl, rfl, Kept.refl _ _⟩
  case round =>
    obtain ⟨i, hi, rfl, rfl, hk⟩ := hrel
    have hin : i ≤ n := by have := Hn.out; omega
    clear hi
    by_cases hlt : i < n
    · have hb2 : (0 : Int) ≤ (i : Int) := by omega
      have hb3 : (i : Int) < (n : Int) := by omega
      have hkr := Hk1.out.trans hk
      obtain ⟨c0, c1, c2⟩ := (Hs.out.kept hkr) i (by have := Hn.out; omega)
      have cp := (Hps.out.kept hkr) i (by have := Hn.out; have := Hl.out; omega)
      have hgi := Hgd.out i (by have := Hn.out; omega)
      obtain ⟨p0, p1⟩ := Hp.out i (by have := Hn.out; have := Hl.out; omega)
      have hstep : netF ls ps (i + 1) = netF ls ps i + termL (lgAt ls i) (psAt ps i) := rfl
      obtain ⟨q1, q2⟩ := Hbd.out i (by have := Hn.out; omega)
      obtain ⟨q3, q4⟩ := Hbd.out (i + 1) (by have := Hn.out; omega)
      obtain ⟨t1, t2⟩ := term_bd hgi p0 p1
      obtain ⟨y, hy⟩ : ∃ y, lgAt ls i = y := ⟨_, rfl⟩
      obtain ⟨p, hpp⟩ : ∃ p, psAt ps i = p := ⟨_, rfl⟩
      rw [hy] at c0 c1 c2 hgi t1 t2
      rw [hpp] at cp p0 p1 t1 t2
      rw [hy, hpp] at hstep
      clear hy hpp
      obtain ⟨ser, sgn, rat⟩ := y
      simp only at c0 c1 c2
      have Hgi := Lib.hid hgi
      have hadd := add_num (netF ls ps i) (termL ⟨ser, sgn, rat⟩ p) (by unfold I64; omega) (by unfold I64; omega)
      rw [numRes_in (by rw [← hstep]; omega), ← hstep] at hadd
      have Hadd := Lib.hid hadd
      clear hadd hstep q1 q2 q3 q4 t1 t2 hgi
      go_upto_region 7 with fail
      have hbx := block_new3 wr (.cells #[.int .i64 ser, .int .i64 sgn, .int .i64 rat] 43)
      have hkx : Kept (fun _ => False) wr (wr.alloc (.cells #[.int .i64 ser, .int .i64 sgn, .int .i64 rat] 43)) := (Kept.refl _ _).alloc _
      have cp2 := cell_kept2 hkx cp
      generalize wr.heap.size = xb at hbx ⊢
      generalize wr.alloc (.cells #[.int .i64 ser, .int .i64 sgn, .int .i64 rat] 43) = w2 at hbx hkx cp2 ⊢
      have hk2 := hk.trans hkx
      clear c0 c1 c2 hkx hk cp
      have x0 := fun y : KW w2 => KW.cell (show w2.cell? ⟨xb, 0, none⟩ = some (.int .i64 ser) by rw [cell_of_block hbx]; rfl) y
      have x1 := fun y : KW w2 => KW.cell (show w2.cell? ⟨xb, 1, none⟩ = some (.int .i64 sgn) by rw [cell_of_block hbx]; rfl) y
      have x2 := fun y : KW w2 => KW.cell (show w2.cell? ⟨xb, 2, none⟩ = some (.int .i64 rat) by rw [cell_of_block hbx]; rfl) y
      have xp := fun y : KW w2 => KW.cell cp2 y
      clear hbx cp2
      refine wp_region_kept (by kernel_rfl) (by kernel_rfl) ?_
      repeat (go_big_quiet_step (with_reducible exact part_kw _ _ _ _ Hgi.out p0 p1 _))
      refine wpQuiet_nil ?_
      intro _ hw'
      obtain ⟨y, rfl⟩ := hw'
      have hky := hk2.trans y.kept
      generalize y.w = wy at hky ⊢
      clear x0 x1 x2 xp hk2
      generalize termL ⟨ser, sgn, rat⟩ p = z at Hadd ⊢
      go_wp2_with fail
      refine (Hadd.out wy).mono ?_
      rintro e w3 ⟨rfl, rfl⟩
      go_wp2
      exact ⟨⟨i + 1, by have := Hn.out; omega, rfl, by push_cast; rfl, hky⟩, by simp [intOf]; omega⟩
    · obtain rfl : i = n := by omega
      have hk9 := Hk1.out.trans hk
      go_wp2
      go_ret2
      exact ⟨rfl, hk9⟩
end Go.Proofs.Ytgbdnodkbdkaeaa
