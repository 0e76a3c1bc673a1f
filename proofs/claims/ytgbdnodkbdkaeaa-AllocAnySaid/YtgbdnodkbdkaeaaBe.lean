/- Alloc: what legs can be had for: tops.Price 33, Prices 17. -/
import Derived.Test.YtgbdnodkbdkaeaaBd
namespace Go.Proofs.Ytgbdnodkbdkaeaa
open Go Go.RowKit

def priceT (t : Tp) (s : Int) : Option Int := if s = 1 then (if 0 < t.ask then some t.ask else none) else (if 0 < t.bid then some t.bid else none)
def qtyT (t : Tp) (s : Int) : Int := if s = 1 then (if 0 < t.ask then t.aq else 0) else (if 0 < t.bid then t.bq else 0)
def PcPost (p q : Int) (b : Bool) (w : World) (e : Ending) (w' : World) : Prop := e = .returned (.tuple #[.int .i64 p, .int .i64 q, .bool b]) ∧ Kept (fun _ => False) w w'
set_option maxRecDepth 100000 in
set_option maxHeartbeats 1000000 in
theorem price_any (bid bq ask aq : Int) (bc ac : Bool) (s : Int) (hs : s = 1 ∨ s = -1) (w : World) :
    Calls Try.prog 33 #[.agg #[.int .i64 bid, .int .i64 bq, .int .i64 ask, .int .i64 aq, .bool bc, .bool ac], .int .i64 s] w (PcPost ((priceT ⟨bid, bq, ask, aq, bc, ac⟩ s).getD 0) (qtyT ⟨bid, bq, ask, aq, bc, ac⟩ s) (priceT ⟨bid, bq, ask, aq, bc, ac⟩ s).isSome w) := by
  have hq : (w.alloc (.cells #[.int .i64 bid, .int .i64 bq, .int .i64 ask, .int .i64 aq, .bool bc, .bool ac] 45)).heap[w.heap.size]? = some (.cells #[.int .i64 bid, .int .i64 bq, .int .i64 ask, .int .i64 aq, .bool bc, .bool ac] 45 (0, 0)) := block_new3 _ _
  have hk : Kept (fun _ => False) w (w.alloc (.cells #[.int .i64 bid, .int .i64 bq, .int .i64 ask, .int .i64 aq, .bool bc, .bool ac] 45)) := (Kept.refl _ _).alloc _
  have hcs : (s = 1 ∧ 0 < ask) ∨ (s = 1 ∧ ask ≤ 0) ∨ (s = -1 ∧ 0 < bid) ∨ (s = -1 ∧ bid ≤ 0) := by omega
  have hE : Hid (((s = 1 ∧ 0 < ask) → priceT ⟨bid, bq, ask, aq, bc, ac⟩ s = some ask ∧ qtyT ⟨bid, bq, ask, aq, bc, ac⟩ s = aq) ∧ ((s = 1 ∧ ask ≤ 0) → priceT ⟨bid, bq, ask, aq, bc, ac⟩ s = none ∧ qtyT ⟨bid, bq, ask, aq, bc, ac⟩ s = 0) ∧
      ((s = -1 ∧ 0 < bid) → priceT ⟨bid, bq, ask, aq, bc, ac⟩ s = some bid ∧ qtyT ⟨bid, bq, ask, aq, bc, ac⟩ s = bq) ∧ ((s = -1 ∧ bid ≤ 0) → priceT ⟨bid, bq, ask, aq, bc, ac⟩ s = none ∧ qtyT ⟨bid, bq, ask, aq, bc, ac⟩ s = 0)) := by
    refine ⟨fun h => ?_, fun h => ?_, fun h => ?_, fun h => ?_⟩ <;> (obtain ⟨rfl, h⟩ := h; unfold priceT qtyT; simp; omega)
  go_enter Try.func33, Try.ntmps33
  go_upto_region 1 with fail
  generalize w.heap.size = q at hq ⊢
  generalize w.alloc (.cells #[.int .i64 bid, .int .i64 bq, .int .i64 ask, .int .i64 aq, .bool bc, .bool ac] 45) = w0 at hq hk ⊢
  have x0 : w0.cell? ⟨q, 0, none⟩ = some (.int .i64 bid) := by rw [cell_of_block hq]; rfl
  have x1 : w0.cell? ⟨q, 1, none⟩ = some (.int .i64 bq) := by rw [cell_of_block hq]; rfl
  have x2 : w0.cell? ⟨q, 2, none⟩ = some (.int .i64 ask) := by rw [cell_of_block hq]; rfl
  have x3 : w0.cell? ⟨q, 3, none⟩ = some (.int .i64 aq) := by rw [cell_of_block hq]; rfl
  clear hq hs
  rcases hcs with ⟨rfl, h1⟩ | ⟨rfl, h1⟩ | ⟨rfl, h1⟩ | ⟨rfl, h1⟩
  · obtain ⟨e1, e2⟩ := hE.out.1 ⟨rfl, h1⟩
    have E1 := Lib.hid e1
    have E2 := Lib.hid e2
    clear hE e1 e2
    go_quiet (fail)
    go_wp2_with fail
    go_quiet (fail)
    go_wp2
    go_ret3
    rw [E1.out, E2.out]
    exact ⟨rfl, hk.drewN _⟩
  · obtain ⟨e1, e2⟩ := hE.out.2.1 ⟨rfl, h1⟩
    have E1 := Lib.hid e1
    have E2 := Lib.hid e2
    clear hE e1 e2
    go_quiet (fail)
    go_wp2_with fail
    go_quiet (fail)
    go_wp2
    go_ret3
    rw [E1.out, E2.out]
    exact ⟨rfl, hk.drewN _⟩
  · obtain ⟨e1, e2⟩ := hE.out.2.2.1 ⟨rfl, h1⟩
    have E1 := Lib.hid e1
    have E2 := Lib.hid e2
    clear hE e1 e2
    go_quiet (fail)
    go_wp2
    go_ret3
    rw [E1.out, E2.out]
    exact ⟨rfl, hk.drewN _⟩
  · obtain ⟨e1, e2⟩ := hE.out.2.2.2 ⟨rfl, h1⟩
    have E1 := Lib.hid e1
    have E2 := Lib.hid e2
    clear hE e1 e2
    go_quiet (fail)
    go_wp2
    go_ret3
    rw [E1.out, E2.out]
    exact ⟨rfl, hk.drewN _⟩
def topP (ls : List Lg) (ts : List Tp) (side : Int) (j : Nat) : Option Int := priceT (tpAt ts j) (ofS (lgAt ls j).sgn side)
def topU (ls : List Lg) (ts : List Tp) (side : Int) : Nat → Bool
  | 0 => true
  | i + 1 => topU ls ts side i && (topP ls ts side i).isSome
theorem topU_false {ls : List Lg} {ts : List Tp} {side : Int} {i : Nat} (h : topU ls ts side i = false) : ∀ n, i ≤ n → topU ls ts side n = false
  | 0, hn => by obtain rfl : i = 0 := by omega
                exact h
  | n + 1, hn => by
    by_cases e : i = n + 1
    · subst e; exact h
    · show (topU ls ts side n && _) = false
      rw [topU_false h n (by omega)]; rfl
def topsP (ls : List Lg) (ts : List Tp) (side : Int) : Option (List Int) :=
  if (checkB ls && (decide (ts.length = ls.length) && topU ls ts side ls.length)) = true then some ((List.range ls.length).map fun j => (topP ls ts side j).getD 0) else none
set_option maxRecDepth 100000 in
set_option maxHeartbeats 1000000 in
theorem tops_bad {w : World} {la ta : Option Addr} {lc tl tc : Nat} {ls : List Lg} (side : Int) (hl : ls.length ≤ maxLen) (ht : tl ≤ maxLen) (hcap : ls.length ≤ lc) (hs : LgS w la ls) (h : checkB ls = false ∨ (checkB ls = true ∧ tl ≠ ls.length)) :
    Calls Try.prog 17 #[.slice la ls.length lc, .slice ta tl tc, .int .i64 side] w (PrPost none w) := by
  have hck := check_all (cap := lc) hl hcap hs
  unfold maxLen at hl ht
  rcases h with h | ⟨h, h1⟩
  · rw [h] at hck
    have Hck := Lib.hid hck
    clear hck h hs hcap
    generalize ls.length = ll at Hck hl ⊢
    go_enter Try.func17, Try.ntmps17
    go_wp2_with fail
    refine Hck.out.mono ?_
    rintro e w1 ⟨k1, ⟨h, _⟩ | ⟨_, fa, rfl⟩⟩
    · cases h
    go_wp2
    go_ret2
    exact ⟨k1, .inl ⟨rfl, rfl⟩⟩
  · rw [h] at hck
    have Hck := Lib.hid hck
    clear hck h hs hcap
    generalize ls.length = ll at Hck hl h1 ⊢
    have hb : ((tl : Int) != (ll : Int)) = true := by simp; omega
    clear h1
    go_enter Try.func17, Try.ntmps17
    go_wp2_with fail
    refine Hck.out.mono ?_
    rintro e w1 ⟨k1, ⟨_, rfl⟩ | ⟨h, _⟩⟩
    rotate_left
    · cases h
    go_wp2
    go_ret2
    exact ⟨k1, .inl ⟨rfl, rfl⟩⟩
def TqRel (ls : List Lg) (ts : List Tp) (side : Int) (ob n : Nat) (W1 : World) (iv : Value) (wr : World) : Prop :=
  ∃ i : Nat, i ≤ n ∧ iv = .int .i64 i ∧ topU ls ts side i = true ∧ FlatAt wr ob 2 n (fun j => if j < i then intC ((topP ls ts side j).getD 0) else intC 0) ∧ Kept (fun b => b = ob) W1 wr
theorem flat_sl {w : World} {ob n : Nat} {g : Nat → Int} (h : FlatAt w ob 2 n (fun j => intC (g j))) : SlAt w 2 1 (some ⟨ob, 0, none⟩) n n (((List.range n).map g).map intC) := by
  obtain ⟨arr, h1, h2, h3⟩ := h
  refine ⟨by simp, Nat.le_refl _, .inr ⟨ob, 0, arr, rfl, h1, by omega, fun j hj => ?_⟩⟩
  rw [Nat.zero_add, h3 j (by omega)]
  simp [show j < n by omega]
set_option maxRecDepth 100000 in
set_option maxHeartbeats 2000000 in
theorem tops_good {w : World} {lb lo lc tb tof tc : Nat} {ls : List Lg} {ts : List Tp} (side : Int) (hck : checkB ls = true) (hlt : ts.length = ls.length) (hcap : ls.length ≤ lc) (hs : LgAt w lb lo ls) (ht : TpAt w tb tof ts) :
    Calls Try.prog 17 #[.slice (some ⟨lb, lo, none⟩) ls.length lc, .slice (some ⟨tb, tof, none⟩) ls.length tc, .int .i64 side] w (PrPost (topsP ls ts side) w) := by
  obtain ⟨i0, hi0, hz0, hz1, hz2⟩ := info_parts Try.info2'
  obtain ⟨⟨hl2, hl4⟩, hgd⟩ := check_good hck
  have hcr := check_any hl2 hl4 hcap hs
  rw [hck] at hcr
  have Hcr := Lib.hid hcr
  have Hs := Lib.hid hs
  have Ht := Lib.hid ht
  have Hgd := Lib.hid hgd
  have Hlt := Lib.hid hlt
  have Hck := Lib.hid hck
  obtain ⟨n, hn⟩ : ∃ n, ls.length = n := ⟨_, rfl⟩
  have Hn := Lib.hid hn
  rw [hn] at hl2 hl4 Hcr ⊢
  clear hs ht hn hlt hck hcr hgd hcap
  have hmk : ∀ W : World, (Instr.makeSlice 30 (.int .i64 n) (.int .i64 n)).run Try.prog W = .ok (.slice (some ⟨W.heap.size, 0, none⟩) n n) (W.alloc (.cells (madeCells #[.int .i64 0] n) 2)) := fun W => by
    have := run_make (P := Try.prog) W 30 2 i0 _ Try.underlying30 hi0 hz0 .i64 .i64 n n (by omega) (by omega) (by rw [hz2]; omega) (by omega)
    rw [hz1] at this
    simpa [Value.cells] using this
  go_enter Try.func17, Try.ntmps17
  go_wp2_with fail
  refine Hcr.out.mono ?_
  rintro e w1 ⟨k1, ⟨_, rfl⟩ | ⟨h, _⟩⟩
  rotate_left
  · cases h
  go_upto_region 4 with fail
  have hfl : FlatAt (w1.alloc (.cells (madeCells #[.int .i64 0] n) 2)) w1.heap.size 2 n (fun j => if j < 0 then intC ((topP ls ts side j).getD 0) else intC 0) :=
    ⟨_, block_new3 _ _, by simp [madeCells], fun j hj => by simp [madeCells, hj, intC, Nat.mod_one]⟩
  have hkx : Kept (fun _ => False) w (w1.alloc (.cells (madeCells #[.int .i64 0] n) 2)) := k1.alloc _
  have hob := k1.size
  have hlw : w1.heap.size < (w1.alloc (.cells (madeCells #[.int .i64 0] n) 2)).heap.size := by simp
  generalize w1.heap.size = ob at hfl hob hlw ⊢
  generalize w1.alloc (.cells (madeCells #[.int .i64 0] n) 2) = W1 at hfl hkx hlw ⊢
  have Hkx := Lib.hid hkx
  have Hob := Lib.hid hob
  have Hst : Hid (TqRel ls ts side ob n W1 (.int .i64 0) W1) := ⟨0, Nat.zero_le _, rfl, rfl, hfl, Kept.refl _ _⟩
  clear k1 Hcr hkx hfl hob hmk hlw
  go_wp2_with fail
  go_loopw [29] (fun iv wr => TqRel ls ts side ob n W1 iv wr) (fun iv _ => n - (intOf iv).toNat)
  case atStart => exact Hst.out
  case round =>
    obtain ⟨i, hin, rfl, hup, hfl, hk⟩ := hrel
    clear Hst
    have Hup := Lib.hid hup
    clear hup
    by_cases hlt : i < n
    · have hb2 : (0 : Int) ≤ (i : Int) := by omega
      have hb3 : (i : Int) < (n : Int) := by omega
      have hlw : ∀ b, b < w.heap.size → b ≠ ob ∧ b < W1.heap.size := fun b hb => by have h1 := Hob.out; have h2 := Hkx.out.size; omega
      obtain ⟨c0, c1, c2⟩ := Hs.out i (by have := Hn.out; omega)
      have hlb := hlw lb (World.block_lt_of_cell? _ _ c0)
      obtain ⟨u0, _⟩ := Ht.out i (by have := Hn.out; have := Hlt.out; omega)
      have htb := hlw tb (World.block_lt_of_cell? _ _ u0)
      obtain ⟨d0, d1, d2⟩ := ((Hs.out.kept Hkx.out).other hlb.1 hlb.2 hk) i (by have := Hn.out; omega)
      obtain ⟨t0, t1, t2, t3, t4, t5⟩ := ((Ht.out.kept Hkx.out).other htb.1 htb.2 hk) i (by have := Hn.out; have := Hlt.out; omega)
      have hgi := Hgd.out i (by have := Hn.out; omega)
      have hstep : topU ls ts side (i + 1) = (topP ls ts side i).isSome := by
        show (topU ls ts side i && _) = _
        rw [Hup.out, Bool.true_and]
      have htp : topP ls ts side i = priceT (tpAt ts i) (ofS (lgAt ls i).sgn side) := rfl
      obtain ⟨⟨ser, sgn, rat⟩, hy⟩ : ∃ y, lgAt ls i = y := ⟨_, rfl⟩
      obtain ⟨⟨bid, bq, ask, aq, bc, ac⟩, htt⟩ : ∃ t, tpAt ts i = t := ⟨_, rfl⟩
      rw [hy] at d0 d1 d2 hgi
      rw [htt] at t0 t1 t2 t3 t4 t5
      rw [hy, htt] at htp
      simp only at d0 d1 d2 t0 t1 t2 t3 t4 t5 htp
      obtain ⟨_, g2, _, _⟩ := goodL_is hgi
      simp only at g2
      have hos : ofS sgn side = 1 ∨ ofS sgn side = -1 := by unfold ofS; split <;> omega
      obtain ⟨r, hr⟩ : ∃ r, topP ls ts side i = r := ⟨_, rfl⟩
      rw [hr] at hstep
      have hpc : Hid (∀ W, Calls Try.prog 33 #[.agg #[.int .i64 bid, .int .i64 bq, .int .i64 ask, .int .i64 aq, .bool bc, .bool ac], .int .i64 (ofS sgn side)] W (PcPost (r.getD 0) (qtyT ⟨bid, bq, ask, aq, bc, ac⟩ (ofS sgn side)) r.isSome W)) := fun W => by
        rw [← hr, htp]; exact price_any bid bq ask aq bc ac _ hos W
      have hof : Hid (∀ W, Calls Try.prog 34 #[.int .i64 sgn, .int .i64 side] W fun e w' => e = .returned (.int .i64 (ofS sgn side)) ∧ w' = W) := fun W => of_any sgn side (by unfold I64; omega) (by omega) W
      have Hstep := Lib.hid hstep
      have Hr := Lib.hid hr
      have Hfl := Lib.hid hfl
      have Hk := Lib.hid hk
      generalize qtyT ⟨bid, bq, ask, aq, bc, ac⟩ (ofS sgn side) = qt at hpc
      generalize ofS sgn side = os at hpc hof
      clear c0 c1 c2 u0 hlw hlb htb hy htt htp hstep hr hgi g2 hos hfl hk
      go_upto_region 7 with fail
      have hbx := block_new3 wr (.cells #[.int .i64 ser, .int .i64 sgn, .int .i64 rat] 43)
      have hkx : Kept (fun _ => False) wr (wr.alloc (.cells #[.int .i64 ser, .int .i64 sgn, .int .i64 rat] 43)) := (Kept.refl _ _).alloc _
      replace t0 := cell_kept2 hkx t0
      replace t1 := cell_kept2 hkx t1
      replace t2 := cell_kept2 hkx t2
      replace t3 := cell_kept2 hkx t3
      replace t4 := cell_kept2 hkx t4
      replace t5 := cell_kept2 hkx t5
      generalize wr.heap.size = xb at hbx ⊢
      generalize wr.alloc (.cells #[.int .i64 ser, .int .i64 sgn, .int .i64 rat] 43) = w2 at hbx hkx t0 t1 t2 t3 t4 t5 ⊢
      have x1 := fun y : KW w2 => KW.cell (show w2.cell? ⟨xb, 1, none⟩ = some (.int .i64 sgn) by rw [cell_of_block hbx]; rfl) y
      have y0 := fun y : KW w2 => KW.cell t0 y
      have y1 := fun y : KW w2 => KW.cell t1 y
      have y2 := fun y : KW w2 => KW.cell t2 y
      have y3 := fun y : KW w2 => KW.cell t3 y
      have y4 := fun y : KW w2 => KW.cell t4 y
      have y5 := fun y : KW w2 => KW.cell t5 y
      have hpk : Hid (∀ x : KW w2, Calls Try.prog 33 #[.agg #[.int .i64 bid, .int .i64 bq, .int .i64 ask, .int .i64 aq, .bool bc, .bool ac], .int .i64 os] x.w fun e w'' => e = .returned (.tuple #[.int .i64 (r.getD 0), .int .i64 qt, .bool r.isSome]) ∧ ∃ y : KW w2, w'' = y.w) := fun x => Calls.kw (hpc.out x.w)
      have hok : Hid (∀ x : KW w2, Calls Try.prog 34 #[.int .i64 sgn, .int .i64 side] x.w fun e w'' => e = .returned (.int .i64 os) ∧ ∃ y : KW w2, w'' = y.w) := fun x => Calls.kw_same ((hof.out x.w).mono fun _ _ h => ⟨h.2.symm, h.1⟩)
      have Hkx2 := Lib.hid hkx
      clear t0 t1 t2 t3 t4 t5 d0 d1 d2 hbx hkx hpc hof
      refine wp_region_kept (by kernel_rfl) (by kernel_rfl) ?_
      repeat (go_big_quiet_step (first | with_reducible exact hpk.out _ | with_reducible exact hok.out _))
      refine wpQuiet_nil ?_
      intro _ hw'
      obtain ⟨y, rfl⟩ := hw'
      have hky := Hkx2.out.trans y.kept
      generalize y.w = wy at hky ⊢
      clear x1 y0 y1 y2 y3 y4 y5 hpk hok Hkx2
      have hfy := Hfl.out.kept (hky.block ob Hfl.out.lt (fun h => h))
      have hkk : Kept (fun b => b = ob) W1 wy := Hk.out.trans (hky.mono fun _ _ h => h.elim)
      cases r with
      | none =>
        have hE : Hid (topsP ls ts side = none) := by
          show _ = _
          unfold topsP
          rw [topU_false Hstep.out ls.length (by have := Hn.out; omega)]
          simp
        have hkw : Kept (fun _ => False) w wy := Hkx.out.trans' (G := fun b => b = ob) hkk (fun j hj e => by have := Hob.out; omega)
        simp only [Option.isSome_none]
        clear hfy hkk hky
        go_wp2
        go_ret2
        exact ⟨hkw, .inl ⟨hE.out, rfl⟩⟩
      | some p =>
        have o1 : wy.cell? ⟨ob, i, none⟩ = some (intC 0) := by rw [hfy.cell hlt]; simp
        have o1' : wy.cell? ⟨ob, i, none⟩ = some (.int .i64 0) := o1
        have ofz := hfy.free
        have Hfy := Lib.hid hfy
        have Hkk := Lib.hid hkk
        simp only [Option.isSome_some, Option.getD_some]
        clear hfy hkk hky o1
        go_wp2
        refine ⟨⟨i + 1, by omega, by push_cast; rfl, Hstep.out, ?_, ?_⟩, by simp [intOf]; omega⟩
        · refine (Hfy.out.put hlt (.int .i64 p)).congr fun j hj => ?_
          by_cases e : j = i
          · subst e; rw [upd_same, if_pos (by omega), Hr.out]; rfl
          · rw [upd_other _ _ e]
            by_cases e2 : j < i
            · rw [if_pos e2, if_pos (by omega)]
            · rw [if_neg e2, if_neg (by omega)]
        · exact Hkk.out.setCell (p := ⟨ob, i, none⟩) (fun _ => rfl) _
    · obtain rfl : i = n := by omega
      have hE : Hid (topsP ls ts side = some ((List.range i).map fun j => (topP ls ts side j).getD 0)) := by
        show _ = _
        unfold topsP
        rw [Hck.out, Hn.out, Hup.out, Hlt.out, Hn.out]; simp
      have hkw : Kept (fun _ => False) w wr := Hkx.out.trans' (G := fun b => b = ob) hk (fun j hj e => by have := Hob.out; omega)
      have hsl := flat_sl (g := fun j => (topP ls ts side j).getD 0) (hfl.congr fun j hj => by rw [if_pos hj])
      have Hsl := Lib.hid hsl
      clear hsl hfl hk
      go_wp2
      go_ret2
      exact ⟨hkw, .inr ⟨_, some ⟨ob, 0, none⟩, hE.out, by rw [List.length_map, List.length_range]; rfl, by rw [List.length_map, List.length_range]; exact Hsl.out⟩⟩
theorem tops_all {w : World} {la ta : Option Addr} {lc tc : Nat} {ls : List Lg} {ts : List Tp} (side : Int) (hl : ls.length ≤ maxLen) (htl : ts.length ≤ maxLen) (hcap : ls.length ≤ lc) (hs : LgS w la ls) (ht : TpS w ta ts) :
    Calls Try.prog 17 #[.slice la ls.length lc, .slice ta ts.length tc, .int .i64 side] w (PrPost (topsP ls ts side) w) := by
  by_cases hck : checkB ls = true
  · by_cases h1 : ts.length = ls.length
    · rw [h1]
      have h2 := (check_good hck).1.1
      rcases hs with rfl | ⟨lb, lo, rfl, hs⟩
      · simp at h2
      rcases ht with rfl | ⟨tb, tof, rfl, ht⟩
      · simp at h1; omega
      exact tops_good side hck h1 hcap hs ht
    · have hE : topsP ls ts side = none := by unfold topsP; rw [if_neg (by simp [h1])]
      rw [hE]
      exact tops_bad side hl htl hcap hs (.inr ⟨hck, h1⟩)
  · have hck' : checkB ls = false := by simpa using hck
    have hE : topsP ls ts side = none := by unfold topsP; rw [if_neg (by simp [hck'])]
    rw [hE]
    exact tops_bad side hl htl hcap hs (.inl hck')
end Go.Proofs.Ytgbdnodkbdkaeaa
