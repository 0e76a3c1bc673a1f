/- Alloc: whether a strategy may be had at prices: Right 15. -/
import Derived.Test.YtgbdnodkbdkaeaaAr
namespace Go.Proofs.Ytgbdnodkbdkaeaa
open Go Go.RowKit

def tpAt (ts : List Tp) (j : Nat) : Tp := ts.getD j ⟨0, 0, 0, 0, false, false⟩
def TpAt (w : World) (b off : Nat) (ts : List Tp) : Prop := ∀ j, j < ts.length → w.cell? ⟨b, off + j * 6, none⟩ = some (.int .i64 (tpAt ts j).bid) ∧ w.cell? ⟨b, off + j * 6 + 1, none⟩ = some (.int .i64 (tpAt ts j).bq) ∧ w.cell? ⟨b, off + j * 6 + 2, none⟩ = some (.int .i64 (tpAt ts j).ask) ∧ w.cell? ⟨b, off + j * 6 + 3, none⟩ = some (.int .i64 (tpAt ts j).aq) ∧ w.cell? ⟨b, off + j * 6 + 4, none⟩ = some (.bool (tpAt ts j).bc) ∧ w.cell? ⟨b, off + j * 6 + 5, none⟩ = some (.bool (tpAt ts j).ac)
theorem TpAt.kept {A B : World} {b off : Nat} {ts : List Tp} (h : Kept (fun _ => False) A B) (hs : TpAt A b off ts) : TpAt B b off ts := fun j hj => by
  obtain ⟨c0, c1, c2, c3, c4, c5⟩ := hs j hj
  exact ⟨cell_kept2 h c0, cell_kept2 h c1, cell_kept2 h c2, cell_kept2 h c3, cell_kept2 h c4, cell_kept2 h c5⟩
def TpS (w : World) (a : Option Addr) (ts : List Tp) : Prop := ts = [] ∨ ∃ b off, a = some ⟨b, off, none⟩ ∧ TpAt w b off ts
theorem TpS.kept {A B : World} {a : Option Addr} {ts : List Tp} (h : Kept (fun _ => False) A B) (hs : TpS A a ts) : TpS B a ts := by
  rcases hs with h1 | ⟨b, off, h1, h2⟩
  · exact .inl h1
  · exact .inr ⟨b, off, h1, h2.kept h⟩
abbrev Tb := List (Int × Int)
def tbAt (gs : List Tb) (j : Nat) : Tb := gs.getD j []
/-- Tables, in a slice: each lies somewhere, each may be. -/
def TbAt (w : World) (b off : Nat) (gs : List Tb) : Prop := ∀ j, j < gs.length → ∃ b1 o1 c1, w.cell? ⟨b, off + j, none⟩ = some (.slice (some ⟨b1, o1, none⟩) (tbAt gs j).length c1) ∧ b1 < w.heap.size ∧ StAt w b1 o1 (tbAt gs j)
def GoodG (gs : List Tb) : Prop := ∀ j, j < gs.length → GoodT (tbAt gs j)
theorem TbAt.kept {A B : World} {b off : Nat} {gs : List Tb} (h : Kept (fun _ => False) A B) (hs : TbAt A b off gs) : TbAt B b off gs := fun j hj => by
  obtain ⟨b1, o1, c1, h1, h2, h3⟩ := hs j hj
  exact ⟨b1, o1, c1, cell_kept2 h h1, Nat.lt_of_lt_of_le h2 h.size, h3.kept h2 h⟩
def TbS (w : World) (a : Option Addr) (gs : List Tb) : Prop := gs = [] ∨ ∃ b off, a = some ⟨b, off, none⟩ ∧ TbAt w b off gs
theorem TbS.kept {A B : World} {a : Option Addr} {gs : List Tb} (h : Kept (fun _ => False) A B) (hs : TbS A a gs) : TbS B a gs := by
  rcases hs with h1 | ⟨b, off, h1, h2⟩
  · exact .inl h1
  · exact .inr ⟨b, off, h1, h2.kept h⟩
def mayU (ts : List Tp) (gs : List Tb) (ps : List Int) : Nat → Bool
  | 0 => true
  | i + 1 => mayU ts gs ps i && mayB (tpAt ts i) (tbAt gs i) (psAt ps i)
def rightB (ls : List Lg) (ts : List Tp) (gs : List Tb) (net : Int) (ps : List Int) : Bool :=
  (decide (ts.length = ls.length) && decide (gs.length = ls.length) && decide (ps.length = ls.length)) && (mayU ts gs ps ls.length && (checkB ls && (netF ls ps ls.length == net)))
theorem mayU_false {ts : List Tp} {gs : List Tb} {ps : List Int} {i : Nat} (h : mayU ts gs ps i = false) : ∀ n, i ≤ n → mayU ts gs ps n = false
  | 0, hn => by obtain rfl : i = 0 := by omega
                exact h
  | n + 1, hn => by
    by_cases e : i = n + 1
    · subst e; exact h
    · show (mayU ts gs ps n && _) = false
      rw [mayU_false h n (by omega)]; rfl
theorem mayU_good {ts : List Tp} {gs : List Tb} {ps : List Int} (hg : GoodG gs) : ∀ {n : Nat}, n ≤ gs.length → mayU ts gs ps n = true → ∀ j, j < n → 1 ≤ psAt ps j ∧ psAt ps j ≤ 1000000
  | 0, _, _, j, hj => by omega
  | n + 1, hn, h, j, hj => by
    have h' : (mayU ts gs ps n && mayB (tpAt ts n) (tbAt gs n) (psAt ps n)) = true := h
    simp only [Bool.and_eq_true] at h'
    by_cases e : j = n
    · subst e
      have h2 := h'.2
      unfold mayB at h2
      simp only [Bool.and_eq_true] at h2
      exact onT_range (hg j (by omega)) h2.1.1.1
    · exact mayU_good hg (by omega) h'.1 j (by omega)
def RgRel (ts : List Tp) (gs : List Tb) (ps : List Int) (w0 : World) (iv : Value) (wr : World) : Prop := ∃ i : Nat, i ≤ ps.length ∧ iv = .int .i64 i ∧ mayU ts gs ps i = true ∧ Kept (fun _ => False) w0 wr
theorem may_kw {w : World} {b off cap : Nat} {xs : List (Int × Int)} (bid bq ask aq : Int) (bc ac : Bool) (p : Int) (hg : GoodT xs) (hb : b < w.heap.size) (hs : StAt w b off xs) (x : KW w) :
    Calls Try.prog 30 #[.agg #[.int .i64 bid, .int .i64 bq, .int .i64 ask, .int .i64 aq, .bool bc, .bool ac], .slice (some ⟨b, off, none⟩) xs.length cap, .int .i64 p] x.w fun e w'' => e = .returned (.bool (mayB ⟨bid, bq, ask, aq, bc, ac⟩ xs p)) ∧ ∃ y : KW w, w'' = y.w := by
  have h := may_any (cap := cap) (Tp.mk bid bq ask aq bc ac) p hg (Nat.lt_of_lt_of_le hb x.kept.size) (hs.kept hb x.kept)
  exact Calls.kw h
set_option maxRecDepth 100000 in
set_option maxHeartbeats 1000000 in
theorem right_len {w : World} {la ta ga pa : Option Addr} {ll lc tl tc gl gc pl pc : Nat} (net : Int) (hl : ll ≤ maxLen) (ht : tl ≤ maxLen) (hg : gl ≤ maxLen) (hp : pl ≤ maxLen) (h : tl ≠ ll ∨ gl ≠ ll ∨ pl ≠ ll) :
    Calls Try.prog 15 #[.slice la ll lc, .slice ta tl tc, .slice ga gl gc, .int .i64 net, .slice pa pl pc] w (BlPost false w) := by
  unfold maxLen at hl ht hg hp
  have hc : ((tl : Int) != (ll : Int)) = true ∨ (((tl : Int) != (ll : Int)) = false ∧ ((gl : Int) != (ll : Int)) = true) ∨ (((tl : Int) != (ll : Int)) = false ∧ ((gl : Int) != (ll : Int)) = false ∧ ((pl : Int) != (ll : Int)) = true) := by
    by_cases e1 : tl = ll
    · by_cases e2 : gl = ll
      · exact .inr (.inr ⟨by simp [e1], by simp [e2], by simp; omega⟩)
      · exact .inr (.inl ⟨by simp [e1], by simp; omega⟩)
    · exact .inl (by simp; omega)
  clear h
  rcases hc with h1 | ⟨h1, h2⟩ | ⟨h1, h2, h3⟩
  all_goals
    go_enter Try.func15, Try.ntmps15
    go_wp2
    go_ret
    exact ⟨rfl, Kept.refl _ _⟩
set_option maxRecDepth 100000 in
set_option maxHeartbeats 1000000 in
theorem right_zero {w : World} {la ta ga pa : Option Addr} {lc tc gc pc : Nat} (net : Int) :
    Calls Try.prog 15 #[.slice la 0 lc, .slice ta 0 tc, .slice ga 0 gc, .int .i64 net, .slice pa 0 pc] w (BlPost false w) := by
  have hn := Lib.hid (net_bad (w := w) (a := la) (pa := pa) (cap := lc) (pcap := pc) (plen := 0) (ls := []) (by decide) (Nat.zero_le _) (.inl rfl) (.inl rfl) (by decide))
  go_enter Try.func15, Try.ntmps15
  go_wp2_with fail
  go_loopw [36] (fun iv wr => iv = .int .i64 0 ∧ wr = w) (fun _ _ => 0)
  case atStart => exact ⟨rfl, rfl⟩
  case round =>
    obtain ⟨rfl, rfl⟩ := hrel
    go_wp2_with fail
    refine hn.out.mono ?_
    rintro e w1 ⟨rfl, k1⟩
    go_wp2
    go_ret
    exact ⟨rfl, k1⟩
set_option maxRecDepth 100000 in
set_option maxHeartbeats 2000000 in
theorem right_any {w : World} {lb lo lc tb tof tc gb go' gc pb po pc : Nat} {ls : List Lg} {ts : List Tp} {gs : List Tb} {ps : List Int} (net : Int) (h1 : 1 ≤ ls.length) (hlm : ls.length ≤ 1000) (hlt : ts.length = ls.length) (hlg : gs.length = ls.length) (hlp : ps.length = ls.length) (hcap : ls.length ≤ lc)
    (hgg : GoodG gs) (hs : LgAt w lb lo ls) (ht : TpAt w tb tof ts) (hg : TbAt w gb go' gs) (hp : PsAt w pb po ps) :
    Calls Try.prog 15 #[.slice (some ⟨lb, lo, none⟩) ls.length lc, .slice (some ⟨tb, tof, none⟩) ls.length tc, .slice (some ⟨gb, go', none⟩) ls.length gc, .int .i64 net, .slice (some ⟨pb, po, none⟩) ls.length pc] w (BlPost (rightB ls ts gs net ps) w) := by
  have Hs := Lib.hid hs
  have Ht := Lib.hid ht
  have Hg := Lib.hid hg
  have Hp := Lib.hid hp
  have Hgg := Lib.hid hgg
  have Hlt := Lib.hid hlt
  have Hlg := Lib.hid hlg
  have Hlp := Lib.hid hlp
  have Hcap := Lib.hid hcap
  obtain ⟨n, hn⟩ : ∃ n, ls.length = n := ⟨_, rfl⟩
  have Hn := Lib.hid hn
  rw [hn] at h1 hlm ⊢
  clear hs ht hg hp hn hgg hlt hlg hlp hcap
  go_enter Try.func15, Try.ntmps15
  go_wp2_with fail
  go_loopw [36] (fun iv wr => RgRel ts gs ps w iv wr) (fun iv _ => n - (intOf iv).toNat)
  case atStart => exact ⟨0, Nat.zero_le _, rfl, rfl, Kept.refl _ _⟩
  case round =>
    obtain ⟨i, hi, rfl, hup, hk⟩ := hrel
    have hin : i ≤ n := by have := Hn.out; have := Hlp.out; omega
    have Hup := Lib.hid hup
    clear hi hup
    by_cases hlt : i < n
    · have hb2 : (0 : Int) ≤ (i : Int) := by omega
      have hb3 : (i : Int) < (n : Int) := by omega
      have cp := (Hp.out.kept hk) i (by have := Hn.out; have := Hlp.out; omega)
      obtain ⟨c0, c1, c2, c3, c4, c5⟩ := (Ht.out.kept hk) i (by have := Hn.out; have := Hlt.out; omega)
      obtain ⟨b1, o1, cc1, cg, hb1, hst⟩ := (Hg.out.kept hk) i (by have := Hn.out; have := Hlg.out; omega)
      have hgt := Hgg.out i (by have := Hn.out; have := Hlg.out; omega)
      have hstep : mayU ts gs ps (i + 1) = mayB (tpAt ts i) (tbAt gs i) (psAt ps i) := by
        show (mayU ts gs ps i && _) = _
        rw [Hup.out, Bool.true_and]
      obtain ⟨p, hpp⟩ : ∃ p, psAt ps i = p := ⟨_, rfl⟩
      obtain ⟨t, htt⟩ : ∃ t, tpAt ts i = t := ⟨_, rfl⟩
      obtain ⟨g, hgn⟩ : ∃ g, tbAt gs i = g := ⟨_, rfl⟩
      rw [hpp] at cp
      rw [htt] at c0 c1 c2 c3 c4 c5
      rw [hgn] at cg hst hgt
      rw [hpp, htt, hgn] at hstep
      clear hpp htt hgn
      obtain ⟨bid, bq, ask, aq, bc, ac⟩ := t
      simp only at c0 c1 c2 c3 c4 c5
      have Hst := Lib.hid hst
      have Hgt := Lib.hid hgt
      obtain ⟨m, hm⟩ : ∃ m, mayB ⟨bid, bq, ask, aq, bc, ac⟩ g p = m := ⟨_, rfl⟩
      rw [hm] at hstep
      have Hstep := Lib.hid hstep
      have hmy : Hid (∀ x : KW wr, Calls Try.prog 30 #[.agg #[.int .i64 bid, .int .i64 bq, .int .i64 ask, .int .i64 aq, .bool bc, .bool ac], .slice (some ⟨b1, o1, none⟩) g.length cc1, .int .i64 p] x.w fun e w'' => e = .returned (.bool m) ∧ ∃ y : KW wr, w'' = y.w) := fun x => by
        have h := may_kw (cap := cc1) bid bq ask aq bc ac p Hgt.out hb1 Hst.out x
        rw [hm] at h; exact h
      clear hm hstep hst hgt Hst Hgt hb1
      go_upto_region 6 with fail
      have x0 := fun y : KW wr => KW.cell c0 y
      have x1 := fun y : KW wr => KW.cell c1 y
      have x2 := fun y : KW wr => KW.cell c2 y
      have x3 := fun y : KW wr => KW.cell c3 y
      have x4 := fun y : KW wr => KW.cell c4 y
      have x5 := fun y : KW wr => KW.cell c5 y
      have xg := fun y : KW wr => KW.cell cg y
      clear c0 c1 c2 c3 c4 c5 cg cp
      refine wp_region_kept (by kernel_rfl) (by kernel_rfl) ?_
      repeat (go_big_quiet_step (with_reducible exact hmy.out _))
      refine wpQuiet_nil ?_
      intro _ hw'
      obtain ⟨y, rfl⟩ := hw'
      have hky := hk.trans y.kept
      generalize y.w = wy at hky ⊢
      clear x0 x1 x2 x3 x4 x5 xg hmy hk
      cases m with
      | false =>
        have hE : Hid (rightB ls ts gs net ps = false) := by
          show _ = _
          unfold rightB
          rw [mayU_false Hstep.out ls.length (by have := Hn.out; omega)]
          simp
        go_wp2
        go_ret
        exact ⟨ret_bool hE.out.symm, hky⟩
      | true =>
        go_wp2
        exact ⟨⟨i + 1, by have := Hn.out; have := Hlp.out; omega, by push_cast; rfl, Hstep.out, hky⟩, by simp [intOf]; omega⟩
    · obtain rfl : i = n := by omega
      cases hck : checkB ls with
      | false =>
        have hE : Hid (rightB ls ts gs net ps = false) := by
          show _ = _
          unfold rightB
          rw [hck]; simp
        have hnet := net_bad (w := wr) (a := some ⟨lb, lo, none⟩) (pa := some ⟨pb, po, none⟩) (cap := lc) (pcap := pc) (plen := i) (ls := ls) (by have := Hn.out; unfold maxLen; omega) Hcap.out (.inr ⟨lb, lo, rfl, Hs.out.kept hk⟩) (.inl hck) (by unfold maxLen; omega)
        rw [Hn.out] at hnet
        have Hnet := Lib.hid hnet
        clear hnet hck
        go_wp2_with fail
        refine Hnet.out.mono ?_
        rintro e w1 ⟨rfl, k1⟩
        have hk1 := hk.trans k1
        go_wp2
        go_ret
        exact ⟨ret_bool hE.out.symm, hk1⟩
      | true =>
        have hpr := mayU_good Hgg.out (n := i) (by have := Hn.out; have := Hlg.out; omega) Hup.out
        have hnet := net_good (cap := lc) (pcap := pc) hck Hlp.out (fun j hj => by have := hpr j (by have := Hn.out; have := Hlp.out; omega); omega) Hcap.out (Hs.out.kept hk) (Hp.out.kept hk)
        rw [Hn.out] at hnet
        have Hnet := Lib.hid hnet
        have hE : Hid (rightB ls ts gs net ps = (netF ls ps i == net)) := by
          show _ = _
          unfold rightB
          rw [hck, Hn.out, Hup.out, Hlt.out, Hlg.out, Hlp.out, Hn.out]; simp
        clear hnet hck hpr
        generalize netF ls ps i = z at Hnet hE
        go_wp2_with fail
        refine Hnet.out.mono ?_
        rintro e w1 ⟨rfl, k1⟩
        have hk1 := hk.trans k1
        go_wp2
        go_ret
        exact ⟨ret_bool hE.out.symm, hk1⟩
end Go.Proofs.Ytgbdnodkbdkaeaa
