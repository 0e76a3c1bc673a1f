/- Alloc: whether a strategy may be had at prices, by the reference: Right 16. -/
import Derived.Test.YtgbdnodkbdkaeaaAs
namespace Go.Proofs.Ytgbdnodkbdkaeaa
open Go Go.RowKit

set_option maxRecDepth 100000 in
set_option maxHeartbeats 1000000 in
theorem rright_bad {w : World} {la ta ga pa : Option Addr} {lc tl tc gl gc pl pc : Nat} {ls : List Lg} (net : Int) (hl : ls.length ≤ maxLen) (ht : tl ≤ maxLen) (hg : gl ≤ maxLen) (hp : pl ≤ maxLen) (hs : LgS w la ls)
    (h : checkB ls = false ∨ (checkB ls = true ∧ (tl ≠ ls.length ∨ gl ≠ ls.length ∨ pl ≠ ls.length))) :
    Calls Try.prog 16 #[.slice la ls.length lc, .slice ta tl tc, .slice ga gl gc, .int .i64 net, .slice pa pl pc] w (BlPost false w) := by
  have hck := rcheck_all (cap := lc) hl hs
  unfold maxLen at hl ht hg hp
  rcases h with h | ⟨h, h1⟩
  · rw [h] at hck
    have Hck := Lib.hid hck
    clear hck h hs
    generalize ls.length = ll at Hck hl ⊢
    go_enter Try.func16, Try.ntmps16
    go_wp2_with fail
    refine Hck.out.mono ?_
    rintro e w1 ⟨v, n, rfl, k1, ⟨h, _⟩ | ⟨_, ⟨fa, rfl⟩, hn⟩⟩
    · cases h
    have hb : (n != 0) = true := by rcases hn with rfl | rfl <;> rfl
    clear hn
    go_wp2
    go_ret
    exact ⟨rfl, k1.alloc _⟩
  · rw [h] at hck
    have Hck := Lib.hid hck
    clear hck h hs
    generalize ls.length = ll at Hck hl h1 ⊢
    have hc : ((tl : Int) != (ll : Int)) = true ∨ (((tl : Int) != (ll : Int)) = false ∧ ((gl : Int) != (ll : Int)) = true) ∨ (((tl : Int) != (ll : Int)) = false ∧ ((gl : Int) != (ll : Int)) = false ∧ ((pl : Int) != (ll : Int)) = true) := by
      by_cases e1 : tl = ll
      · by_cases e2 : gl = ll
        · exact .inr (.inr ⟨by simp [e1], by simp [e2], by simp; omega⟩)
        · exact .inr (.inl ⟨by simp [e1], by simp; omega⟩)
      · exact .inl (by simp; omega)
    clear h1
    rcases hc with h1 | ⟨h1, h2⟩ | ⟨h1, h2, h3⟩
    all_goals
      go_enter Try.func16, Try.ntmps16
      go_wp2_with fail
      refine Hck.out.mono ?_
      rintro e w1 ⟨v, n, rfl, k1, ⟨_, rfl, rfl⟩ | ⟨h, _⟩⟩
      rotate_left
      · cases h
      go_wp2
      go_ret
      exact ⟨rfl, k1.alloc _⟩
set_option maxRecDepth 100000 in
set_option maxHeartbeats 2000000 in
theorem rright_any {w : World} {lb lo lc tb tof tc gb go' gc pb po pc : Nat} {ls : List Lg} {ts : List Tp} {gs : List Tb} {ps : List Int} (net : Int) (hck : checkB ls = true) (hlt : ts.length = ls.length) (hlg : gs.length = ls.length) (hlp : ps.length = ls.length)
    (hgg : GoodG gs) (hs : LgAt w lb lo ls) (ht : TpAt w tb tof ts) (hg : TbAt w gb go' gs) (hp : PsAt w pb po ps) :
    Calls Try.prog 16 #[.slice (some ⟨lb, lo, none⟩) ls.length lc, .slice (some ⟨tb, tof, none⟩) ls.length tc, .slice (some ⟨gb, go', none⟩) ls.length gc, .int .i64 net, .slice (some ⟨pb, po, none⟩) ls.length pc] w (BlPost (rightB ls ts gs net ps) w) := by
  obtain ⟨⟨hl2, hl4⟩, _⟩ := check_good hck
  have hcr := rcheck_any (cap := lc) hl2 hl4 hs
  rw [hck] at hcr
  have Hcr := Lib.hid hcr
  have Hck := Lib.hid hck
  have Hs := Lib.hid hs
  have Ht := Lib.hid ht
  have Hg := Lib.hid hg
  have Hp := Lib.hid hp
  have Hgg := Lib.hid hgg
  have Hlt := Lib.hid hlt
  have Hlg := Lib.hid hlg
  have Hlp := Lib.hid hlp
  obtain ⟨n, hn⟩ : ∃ n, ls.length = n := ⟨_, rfl⟩
  have Hn := Lib.hid hn
  rw [hn] at hl2 hl4 Hcr ⊢
  clear hs ht hg hp hn hgg hlt hlg hlp hck hcr
  go_enter Try.func16, Try.ntmps16
  go_wp2_with fail
  refine Hcr.out.mono ?_
  rintro e w1 ⟨v, m, rfl, k1, ⟨_, rfl, rfl⟩ | ⟨h, _⟩⟩
  rotate_left
  · cases h
  go_upto_region 2 with fail
  have hk1 : Kept (fun _ => False) w (w1.alloc (.cells #[.slice none 0 0, .int .i64 0] 64)) := k1.alloc _
  have hbx := block_w0 w1
  generalize w1.heap.size = xb at hbx ⊢
  generalize w1.alloc (.cells #[.slice none 0 0, .int .i64 0] 64) = w2 at hbx hk1 ⊢
  have x1 : w2.cell? ⟨xb, 1, none⟩ = some (.int .i64 0) := by rw [cell_of_block hbx]; rfl
  have Hk1 := Lib.hid hk1
  clear k1 Hcr hbx hk1
  go_wp2_with fail
  clear x1
  go_loopw [12] (fun iv wr => RgRel ts gs ps w2 iv wr) (fun iv _ => n - (intOf iv).toNat)
  case atStart => exact ⟨0, Nat.zero_le _, rfl, rfl, Kept.refl _ _⟩
  case round =>
    obtain ⟨i, hi, rfl, hup, hk⟩ := hrel
    have hin : i ≤ n := by have := Hn.out; have := Hlp.out; omega
    have Hup := Lib.hid hup
    have hkr := Hk1.out.trans hk
    clear hi hup
    by_cases hlt : i < n
    · have hb2 : (0 : Int) ≤ (i : Int) := by omega
      have hb3 : (i : Int) < (n : Int) := by omega
      have cp := (Hp.out.kept hkr) i (by have := Hn.out; have := Hlp.out; omega)
      have htr := (Ht.out.kept hkr) i (by have := Hn.out; have := Hlt.out; omega)
      obtain ⟨b1, o1, cc1, cg, hb1, hst⟩ := (Hg.out.kept hkr) i (by have := Hn.out; have := Hlg.out; omega)
      have hgt := Hgg.out i (by have := Hn.out; have := Hlg.out; omega)
      have hstep : mayU ts gs ps (i + 1) = mayB (tpAt ts i) (tbAt gs i) (psAt ps i) := by
        show (mayU ts gs ps i && _) = _
        rw [Hup.out, Bool.true_and]
      obtain ⟨p, hpp⟩ : ∃ p, psAt ps i = p := ⟨_, rfl⟩
      obtain ⟨t, htt⟩ : ∃ t, tpAt ts i = t := ⟨_, rfl⟩
      obtain ⟨g, hgn⟩ : ∃ g, tbAt gs i = g := ⟨_, rfl⟩
      rw [hpp] at cp
      rw [htt] at htr
      rw [hgn] at cg hst hgt
      rw [hpp, htt, hgn] at hstep
      clear hpp htt hgn
      have hon := on_ref (cap := cc1) p hgt hb1 hst
      obtain ⟨o, ho⟩ : ∃ o, onT g p = o := ⟨_, rfl⟩
      rw [ho] at hon
      obtain ⟨q, hin2⟩ : ∃ q, insideB t p = q := ⟨_, rfl⟩
      obtain ⟨m, hm⟩ : ∃ m, mayB t g p = m := ⟨_, rfl⟩
      rw [hm] at hstep
      have Hstep := Lib.hid hstep
      have hm' := hm
      unfold mayB at hm'
      rw [ho, hin2] at hm'
      have Hon := Lib.hid hon
      have Hin := Lib.hid hin2
      have Htr := Lib.hid htr
      clear hm ho hon hin2 hstep hst hgt hb1 htr
      obtain ⟨bid, bq, ask, aq, bc, ac⟩ := t
      simp only at Htr hm'
      have hfalse : Hid (m = false → BlPost (rightB ls ts gs net ps) w = BlPost false w) := fun hm => by
        have : rightB ls ts gs net ps = false := by
          unfold rightB
          rw [mayU_false (by rw [Hstep.out, hm]) ls.length (by have := Hn.out; omega)]
          simp
        rw [this]
      go_upto_region 8 with fail
      clear cp
      have hc : (o = false ∧ m = false) ∨ (o = true ∧ q = false ∧ m = false) ∨ (o = true ∧ q = true ∧ ((ac = false ∧ bc = false ∧ m = true) ∨ (ac = false ∧ bc = true ∧ bid < p ∧ m = true) ∨ (ac = false ∧ bc = true ∧ p ≤ bid ∧ m = false) ∨
          (ac = true ∧ bc = false ∧ p < ask ∧ m = true) ∨ (ac = true ∧ bc = true ∧ p < ask ∧ bid < p ∧ m = true) ∨ (ac = true ∧ bc = true ∧ p < ask ∧ p ≤ bid ∧ m = false) ∨ (ac = true ∧ ask ≤ p ∧ m = false))) := by
        subst hm'
        cases o <;> cases q <;> cases ac <;> cases bc <;> simp <;> omega
      clear hm'
      rcases hc with ⟨rfl, rfl⟩ | ⟨rfl, rfl, rfl⟩ | ⟨rfl, rfl, (⟨rfl, rfl, rfl⟩ | ⟨rfl, rfl, h1, rfl⟩ | ⟨rfl, rfl, h1, rfl⟩ | ⟨rfl, rfl, h1, rfl⟩ | ⟨rfl, rfl, h1, h2, rfl⟩ | ⟨rfl, rfl, h1, h2, rfl⟩ | ⟨rfl, h1, rfl⟩)⟩
      · have hE := Lib.hid (hfalse.out rfl)
        clear hfalse
        go_wp2_with fail
        refine Hon.out.mono ?_
        rintro e w3 ⟨rfl, k3⟩
        have hk3 := hk.trans k3
        have hkk := hkr.trans k3
        clear Hon
        go_wp2
        go_ret
        rw [hE.out]
        exact ⟨rfl, hkk⟩
      · have hE := Lib.hid (hfalse.out rfl)
        clear hfalse
        go_wp2_with fail
        refine Hon.out.mono ?_
        rintro e w3 ⟨rfl, k3⟩
        have hk3 := hk.trans k3
        have hkk := hkr.trans k3
        clear Hon
        obtain ⟨t0, t1, t2, t3, t4, t5⟩ : w3.cell? ⟨tb, tof + i * 6, none⟩ = some (.int .i64 bid) ∧ w3.cell? ⟨tb, tof + i * 6 + 1, none⟩ = some (.int .i64 bq) ∧ w3.cell? ⟨tb, tof + i * 6 + 2, none⟩ = some (.int .i64 ask) ∧ w3.cell? ⟨tb, tof + i * 6 + 3, none⟩ = some (.int .i64 aq) ∧ w3.cell? ⟨tb, tof + i * 6 + 4, none⟩ = some (.bool bc) ∧ w3.cell? ⟨tb, tof + i * 6 + 5, none⟩ = some (.bool ac) := by
          obtain ⟨u0, u1, u2, u3, u4, u5⟩ := Htr.out
          exact ⟨cell_kept2 k3 u0, cell_kept2 k3 u1, cell_kept2 k3 u2, cell_kept2 k3 u3, cell_kept2 k3 u4, cell_kept2 k3 u5⟩
        go_wp2_with fail
        refine (inside_refb bid bq ask aq bc ac p w3).mono ?_
        rintro e w4 ⟨rfl, k4⟩
        rw [Hin.out]
        replace hk3 := hk3.trans k4
        replace hkk := hkk.trans k4
        replace t0 := cell_kept2 k4 t0
        replace t2 := cell_kept2 k4 t2
        replace t4 := cell_kept2 k4 t4
        replace t5 := cell_kept2 k4 t5
        clear t1 t3 Htr Hin
        go_wp2
        go_ret
        rw [hE.out]
        exact ⟨rfl, hkk⟩
      · clear hfalse
        go_wp2_with fail
        refine Hon.out.mono ?_
        rintro e w3 ⟨rfl, k3⟩
        have hk3 := hk.trans k3
        have hkk := hkr.trans k3
        clear Hon
        obtain ⟨t0, t1, t2, t3, t4, t5⟩ : w3.cell? ⟨tb, tof + i * 6, none⟩ = some (.int .i64 bid) ∧ w3.cell? ⟨tb, tof + i * 6 + 1, none⟩ = some (.int .i64 bq) ∧ w3.cell? ⟨tb, tof + i * 6 + 2, none⟩ = some (.int .i64 ask) ∧ w3.cell? ⟨tb, tof + i * 6 + 3, none⟩ = some (.int .i64 aq) ∧ w3.cell? ⟨tb, tof + i * 6 + 4, none⟩ = some (.bool false) ∧ w3.cell? ⟨tb, tof + i * 6 + 5, none⟩ = some (.bool false) := by
          obtain ⟨u0, u1, u2, u3, u4, u5⟩ := Htr.out
          exact ⟨cell_kept2 k3 u0, cell_kept2 k3 u1, cell_kept2 k3 u2, cell_kept2 k3 u3, cell_kept2 k3 u4, cell_kept2 k3 u5⟩
        go_wp2_with fail
        refine (inside_refb bid bq ask aq false false p w3).mono ?_
        rintro e w4 ⟨rfl, k4⟩
        rw [Hin.out]
        replace hk3 := hk3.trans k4
        replace hkk := hkk.trans k4
        replace t0 := cell_kept2 k4 t0
        replace t2 := cell_kept2 k4 t2
        replace t4 := cell_kept2 k4 t4
        replace t5 := cell_kept2 k4 t5
        clear t1 t3 Htr Hin
        go_wp2
        exact ⟨⟨i + 1, by have := Hn.out; have := Hlp.out; omega, by push_cast; rfl, Hstep.out, hk3⟩, by simp [intOf]; omega⟩
      · clear hfalse
        go_wp2_with fail
        refine Hon.out.mono ?_
        rintro e w3 ⟨rfl, k3⟩
        have hk3 := hk.trans k3
        have hkk := hkr.trans k3
        clear Hon
        obtain ⟨t0, t1, t2, t3, t4, t5⟩ : w3.cell? ⟨tb, tof + i * 6, none⟩ = some (.int .i64 bid) ∧ w3.cell? ⟨tb, tof + i * 6 + 1, none⟩ = some (.int .i64 bq) ∧ w3.cell? ⟨tb, tof + i * 6 + 2, none⟩ = some (.int .i64 ask) ∧ w3.cell? ⟨tb, tof + i * 6 + 3, none⟩ = some (.int .i64 aq) ∧ w3.cell? ⟨tb, tof + i * 6 + 4, none⟩ = some (.bool true) ∧ w3.cell? ⟨tb, tof + i * 6 + 5, none⟩ = some (.bool false) := by
          obtain ⟨u0, u1, u2, u3, u4, u5⟩ := Htr.out
          exact ⟨cell_kept2 k3 u0, cell_kept2 k3 u1, cell_kept2 k3 u2, cell_kept2 k3 u3, cell_kept2 k3 u4, cell_kept2 k3 u5⟩
        go_wp2_with fail
        refine (inside_refb bid bq ask aq true false p w3).mono ?_
        rintro e w4 ⟨rfl, k4⟩
        rw [Hin.out]
        replace hk3 := hk3.trans k4
        replace hkk := hkk.trans k4
        replace t0 := cell_kept2 k4 t0
        replace t2 := cell_kept2 k4 t2
        replace t4 := cell_kept2 k4 t4
        replace t5 := cell_kept2 k4 t5
        clear t1 t3 Htr Hin
        go_wp2
        exact ⟨⟨i + 1, by have := Hn.out; have := Hlp.out; omega, by push_cast; rfl, Hstep.out, hk3⟩, by simp [intOf]; omega⟩
      · have hE := Lib.hid (hfalse.out rfl)
        clear hfalse
        go_wp2_with fail
        refine Hon.out.mono ?_
        rintro e w3 ⟨rfl, k3⟩
        have hk3 := hk.trans k3
        have hkk := hkr.trans k3
        clear Hon
        obtain ⟨t0, t1, t2, t3, t4, t5⟩ : w3.cell? ⟨tb, tof + i * 6, none⟩ = some (.int .i64 bid) ∧ w3.cell? ⟨tb, tof + i * 6 + 1, none⟩ = some (.int .i64 bq) ∧ w3.cell? ⟨tb, tof + i * 6 + 2, none⟩ = some (.int .i64 ask) ∧ w3.cell? ⟨tb, tof + i * 6 + 3, none⟩ = some (.int .i64 aq) ∧ w3.cell? ⟨tb, tof + i * 6 + 4, none⟩ = some (.bool true) ∧ w3.cell? ⟨tb, tof + i * 6 + 5, none⟩ = some (.bool false) := by
          obtain ⟨u0, u1, u2, u3, u4, u5⟩ := Htr.out
          exact ⟨cell_kept2 k3 u0, cell_kept2 k3 u1, cell_kept2 k3 u2, cell_kept2 k3 u3, cell_kept2 k3 u4, cell_kept2 k3 u5⟩
        go_wp2_with fail
        refine (inside_refb bid bq ask aq true false p w3).mono ?_
        rintro e w4 ⟨rfl, k4⟩
        rw [Hin.out]
        replace hk3 := hk3.trans k4
        replace hkk := hkk.trans k4
        replace t0 := cell_kept2 k4 t0
        replace t2 := cell_kept2 k4 t2
        replace t4 := cell_kept2 k4 t4
        replace t5 := cell_kept2 k4 t5
        clear t1 t3 Htr Hin
        go_wp2
        go_ret
        rw [hE.out]
        exact ⟨rfl, hkk⟩
      · clear hfalse
        go_wp2_with fail
        refine Hon.out.mono ?_
        rintro e w3 ⟨rfl, k3⟩
        have hk3 := hk.trans k3
        have hkk := hkr.trans k3
        clear Hon
        obtain ⟨t0, t1, t2, t3, t4, t5⟩ : w3.cell? ⟨tb, tof + i * 6, none⟩ = some (.int .i64 bid) ∧ w3.cell? ⟨tb, tof + i * 6 + 1, none⟩ = some (.int .i64 bq) ∧ w3.cell? ⟨tb, tof + i * 6 + 2, none⟩ = some (.int .i64 ask) ∧ w3.cell? ⟨tb, tof + i * 6 + 3, none⟩ = some (.int .i64 aq) ∧ w3.cell? ⟨tb, tof + i * 6 + 4, none⟩ = some (.bool false) ∧ w3.cell? ⟨tb, tof + i * 6 + 5, none⟩ = some (.bool true) := by
          obtain ⟨u0, u1, u2, u3, u4, u5⟩ := Htr.out
          exact ⟨cell_kept2 k3 u0, cell_kept2 k3 u1, cell_kept2 k3 u2, cell_kept2 k3 u3, cell_kept2 k3 u4, cell_kept2 k3 u5⟩
        go_wp2_with fail
        refine (inside_refb bid bq ask aq false true p w3).mono ?_
        rintro e w4 ⟨rfl, k4⟩
        rw [Hin.out]
        replace hk3 := hk3.trans k4
        replace hkk := hkk.trans k4
        replace t0 := cell_kept2 k4 t0
        replace t2 := cell_kept2 k4 t2
        replace t4 := cell_kept2 k4 t4
        replace t5 := cell_kept2 k4 t5
        clear t1 t3 Htr Hin
        go_wp2
        exact ⟨⟨i + 1, by have := Hn.out; have := Hlp.out; omega, by push_cast; rfl, Hstep.out, hk3⟩, by simp [intOf]; omega⟩
      · clear hfalse
        go_wp2_with fail
        refine Hon.out.mono ?_
        rintro e w3 ⟨rfl, k3⟩
        have hk3 := hk.trans k3
        have hkk := hkr.trans k3
        clear Hon
        obtain ⟨t0, t1, t2, t3, t4, t5⟩ : w3.cell? ⟨tb, tof + i * 6, none⟩ = some (.int .i64 bid) ∧ w3.cell? ⟨tb, tof + i * 6 + 1, none⟩ = some (.int .i64 bq) ∧ w3.cell? ⟨tb, tof + i * 6 + 2, none⟩ = some (.int .i64 ask) ∧ w3.cell? ⟨tb, tof + i * 6 + 3, none⟩ = some (.int .i64 aq) ∧ w3.cell? ⟨tb, tof + i * 6 + 4, none⟩ = some (.bool true) ∧ w3.cell? ⟨tb, tof + i * 6 + 5, none⟩ = some (.bool true) := by
          obtain ⟨u0, u1, u2, u3, u4, u5⟩ := Htr.out
          exact ⟨cell_kept2 k3 u0, cell_kept2 k3 u1, cell_kept2 k3 u2, cell_kept2 k3 u3, cell_kept2 k3 u4, cell_kept2 k3 u5⟩
        go_wp2_with fail
        refine (inside_refb bid bq ask aq true true p w3).mono ?_
        rintro e w4 ⟨rfl, k4⟩
        rw [Hin.out]
        replace hk3 := hk3.trans k4
        replace hkk := hkk.trans k4
        replace t0 := cell_kept2 k4 t0
        replace t2 := cell_kept2 k4 t2
        replace t4 := cell_kept2 k4 t4
        replace t5 := cell_kept2 k4 t5
        clear t1 t3 Htr Hin
        go_wp2
        exact ⟨⟨i + 1, by have := Hn.out; have := Hlp.out; omega, by push_cast; rfl, Hstep.out, hk3⟩, by simp [intOf]; omega⟩
      · have hE := Lib.hid (hfalse.out rfl)
        clear hfalse
        go_wp2_with fail
        refine Hon.out.mono ?_
        rintro e w3 ⟨rfl, k3⟩
        have hk3 := hk.trans k3
        have hkk := hkr.trans k3
        clear Hon
        obtain ⟨t0, t1, t2, t3, t4, t5⟩ : w3.cell? ⟨tb, tof + i * 6, none⟩ = some (.int .i64 bid) ∧ w3.cell? ⟨tb, tof + i * 6 + 1, none⟩ = some (.int .i64 bq) ∧ w3.cell? ⟨tb, tof + i * 6 + 2, none⟩ = some (.int .i64 ask) ∧ w3.cell? ⟨tb, tof + i * 6 + 3, none⟩ = some (.int .i64 aq) ∧ w3.cell? ⟨tb, tof + i * 6 + 4, none⟩ = some (.bool true) ∧ w3.cell? ⟨tb, tof + i * 6 + 5, none⟩ = some (.bool true) := by
          obtain ⟨u0, u1, u2, u3, u4, u5⟩ := Htr.out
          exact ⟨cell_kept2 k3 u0, cell_kept2 k3 u1, cell_kept2 k3 u2, cell_kept2 k3 u3, cell_kept2 k3 u4, cell_kept2 k3 u5⟩
        go_wp2_with fail
        refine (inside_refb bid bq ask aq true true p w3).mono ?_
        rintro e w4 ⟨rfl, k4⟩
        rw [Hin.out]
        replace hk3 := hk3.trans k4
        replace hkk := hkk.trans k4
        replace t0 := cell_kept2 k4 t0
        replace t2 := cell_kept2 k4 t2
        replace t4 := cell_kept2 k4 t4
        replace t5 := cell_kept2 k4 t5
        clear t1 t3 Htr Hin
        go_wp2
        go_ret
        rw [hE.out]
        exact ⟨rfl, hkk⟩
      · have hE := Lib.hid (hfalse.out rfl)
        clear hfalse
        go_wp2_with fail
        refine Hon.out.mono ?_
        rintro e w3 ⟨rfl, k3⟩
        have hk3 := hk.trans k3
        have hkk := hkr.trans k3
        clear Hon
        obtain ⟨t0, t1, t2, t3, t4, t5⟩ : w3.cell? ⟨tb, tof + i * 6, none⟩ = some (.int .i64 bid) ∧ w3.cell? ⟨tb, tof + i * 6 + 1, none⟩ = some (.int .i64 bq) ∧ w3.cell? ⟨tb, tof + i * 6 + 2, none⟩ = some (.int .i64 ask) ∧ w3.cell? ⟨tb, tof + i * 6 + 3, none⟩ = some (.int .i64 aq) ∧ w3.cell? ⟨tb, tof + i * 6 + 4, none⟩ = some (.bool bc) ∧ w3.cell? ⟨tb, tof + i * 6 + 5, none⟩ = some (.bool true) := by
          obtain ⟨u0, u1, u2, u3, u4, u5⟩ := Htr.out
          exact ⟨cell_kept2 k3 u0, cell_kept2 k3 u1, cell_kept2 k3 u2, cell_kept2 k3 u3, cell_kept2 k3 u4, cell_kept2 k3 u5⟩
        go_wp2_with fail
        refine (inside_refb bid bq ask aq bc true p w3).mono ?_
        rintro e w4 ⟨rfl, k4⟩
        rw [Hin.out]
        replace hk3 := hk3.trans k4
        replace hkk := hkk.trans k4
        replace t0 := cell_kept2 k4 t0
        replace t2 := cell_kept2 k4 t2
        replace t4 := cell_kept2 k4 t4
        replace t5 := cell_kept2 k4 t5
        clear t1 t3 Htr Hin
        go_wp2
        go_ret
        rw [hE.out]
        exact ⟨rfl, hkk⟩
    · obtain rfl : i = n := by omega
      have hpr := mayU_good Hgg.out (n := i) (by have := Hn.out; have := Hlg.out; omega) Hup.out
      have hnet := rnet_good (cap := lc) (pcap := pc) Hck.out Hlp.out (fun j hj => by have := hpr j (by have := Hn.out; have := Hlp.out; omega); omega) (Hs.out.kept hkr) (Hp.out.kept hkr)
      rw [Hn.out] at hnet
      have Hnet := Lib.hid hnet
      have hE : Hid (rightB ls ts gs net ps = (netF ls ps i == net)) := by
        show _ = _
        unfold rightB
        rw [Hck.out, Hn.out, Hup.out, Hlt.out, Hlg.out, Hlp.out, Hn.out]; simp
      clear hnet hpr
      generalize netF ls ps i = z at Hnet hE
      go_wp2_with fail
      refine Hnet.out.mono ?_
      rintro e w1 ⟨rfl, k1⟩
      have hk1 := hkr.trans k1
      go_wp2
      go_ret
      exact ⟨ret_bool hE.out.symm, hk1⟩
end Go.Proofs.Ytgbdnodkbdkaeaa
