/- Alloc: the document's Alloc, ref.Alloc 12. -/
import Derived.Test.YtgbdnodkbdkaeaaBq
import Derived.Test.YtgbdnodkbdkaeaaBr
namespace Go.Proofs.Ytgbdnodkbdkaeaa
open Go Go.RowKit

/-- What the document's Alloc tells, run. -/
def ArPost (r : Option (List Int)) (w : World) (e : Ending) (w' : World) : Prop :=
  Kept (fun _ => False) w w' ∧ ((r = none ∧ e = .returned (.tuple #[.slice none 0 0, .bool false])) ∨ ∃ l a c, r = some l ∧ e = .returned (.tuple #[.slice a l.length c, .bool true]) ∧ SlAt w' 2 1 a l.length c (l.map intC))
theorem RrS.next {W w wa w6 : World} {ls : List Lg} {ts : List Tp} {gs : List Tb} {i oc c6 cap m : Nat} {op p p6 : Option Addr} {A : Nat → Option Addr} {C : Nat → Nat} {L : List Int} (h : RrS W (rowsR ls ts gs i) op oc A C w) (ka : Kept (fun _ => False) w wa)
    (hL : rowR (lgAt ls i).sgn (tpAt ts i) (tbAt gs i) = L) (hm : L.length = m) (hp : SlAt wa 2 1 p m cap (L.map intC))
    (hsl6 : SlAt w6 30 1 p6 (i + 1) c6 (rowsV A C (rowsR ls ts gs i) ++ [.slice p m cap])) (hg6 : wa.grownBy w6 (op.map (·.block))) (hb6 : ∀ t, p6 = some t → op.map (·.block) = some t.block ∨ wa.heap.size ≤ t.block) :
    RrS W (rowsR ls ts gs (i + 1)) p6 c6 (upd A i p) (upd C i cap) w6 := by
  subst hm
  rw [rowsR_succ, hL]
  have := h.app ka hp (by rw [rowsR_length]; exact hsl6) hg6 hb6
  rwa [rowsR_length] at this
theorem first_cell {w : World} {p : Option Addr} {m cap : Nat} {L l : List Int} {s : Int} (h : SlAt w 2 1 p m cap (L.map intC)) (hm : 1 ≤ m) (hL : L = s :: l) : ∃ pb po, p = some ⟨pb, po, none⟩ ∧ w.cell? ⟨pb, po, none⟩ = some (.int .i64 s) := by
  rcases h.2.2 with ⟨_, h2⟩ | ⟨t, o, arr, h1, _⟩
  · have := h.2.1; omega
  · subst h1
    refine ⟨t, o, rfl, ?_⟩
    have := h.cell (j := 0) (by omega)
    subst hL
    exact this
theorem topsB_false {ts : List Tp} {i : Nat} (h : topsB ts i = false) : ∀ n, i ≤ n → topsB ts n = false
  | 0, hn => by obtain rfl : i = 0 := by omega
                exact h
  | n + 1, hn => by
    by_cases e : i = n + 1
    · subst e; exact h
    · show (topsB ts n && _) = false
      rw [topsB_false h n (by omega)]; rfl
theorem allocR_good {ls : List Lg} {ts : List Tp} {gs : List Tb} {net : Int} (hck : checkB ls = true) (hlt : ts.length = ls.length) (hlg : gs.length = ls.length) (hn1 : -16000000 ≤ net) (hn2 : net ≤ 16000000) :
    allocR ls ts gs net = if topsB ts ls.length = true then restF ls ts (rowsR ls ts gs ls.length) ls.length ls.length net else none := by
  unfold allocR
  by_cases h : topsB ts ls.length = true
  · rw [if_pos (by simp [hck, hlt, hlg, hn1, hn2, h]), if_pos h]
  · rw [if_neg (by simp [hck, hlt, hlg, hn1, hn2, h]), if_neg h]
set_option maxRecDepth 100000 in
set_option maxHeartbeats 1000000 in
theorem ralloc_bad {w : World} {la ta ga : Option Addr} {lc tl tc gl gc : Nat} {ls : List Lg} (net : Int) (hl : ls.length ≤ maxLen) (ht : tl ≤ maxLen) (hg : gl ≤ maxLen) (hs : LgS w la ls)
    (h : checkB ls = false ∨ (checkB ls = true ∧ (tl ≠ ls.length ∨ gl ≠ ls.length ∨ net < -16000000 ∨ 16000000 < net))) :
    Calls Try.prog 12 #[.slice la ls.length lc, .slice ta tl tc, .slice ga gl gc, .int .i64 net] w (ArPost none w) := by
  have hck := rcheck_all (cap := lc) hl hs
  unfold maxLen at hl ht hg
  rcases h with h | ⟨h, h1⟩
  · rw [h] at hck
    have Hck := Lib.hid hck
    clear hck h hs
    generalize ls.length = ll at Hck hl ⊢
    go_enter Try.func12, Try.ntmps12
    go_wp2_with fail
    refine Hck.out.mono ?_
    rintro e w1 ⟨v, n, rfl, k1, ⟨h, _⟩ | ⟨_, ⟨fa, rfl⟩, hn⟩⟩
    · cases h
    have hb : (n != 0) = true := by rcases hn with rfl | rfl <;> rfl
    clear hn
    go_wp2
    go_ret2
    exact ⟨k1.alloc _, .inl ⟨rfl, rfl⟩⟩
  · rw [h] at hck
    have Hck := Lib.hid hck
    clear hck h hs
    generalize ls.length = ll at Hck hl h1 ⊢
    have hc : ((tl : Int) != (ll : Int)) = true ∨ (((tl : Int) != (ll : Int)) = false ∧ ((gl : Int) != (ll : Int)) = true) ∨ (((tl : Int) != (ll : Int)) = false ∧ ((gl : Int) != (ll : Int)) = false ∧ net < -16000000) ∨ (((tl : Int) != (ll : Int)) = false ∧ ((gl : Int) != (ll : Int)) = false ∧ -16000000 ≤ net ∧ 16000000 < net) := by
      by_cases e1 : tl = ll
      · by_cases e2 : gl = ll
        · by_cases e3 : net < -16000000
          · exact .inr (.inr (.inl ⟨by simp [e1], by simp [e2], e3⟩))
          · exact .inr (.inr (.inr ⟨by simp [e1], by simp [e2], by omega, by omega⟩))
        · exact .inr (.inl ⟨by simp [e1], by simp; omega⟩)
      · exact .inl (by simp; omega)
    clear h1
    rcases hc with h1 | ⟨h1, h2⟩ | ⟨h1, h2, h3⟩ | ⟨h1, h2, h3, h4⟩
    all_goals
      go_enter Try.func12, Try.ntmps12
      go_wp2_with fail
      refine Hck.out.mono ?_
      rintro e w1 ⟨v, n, rfl, k1, ⟨_, rfl, rfl⟩ | ⟨h, _⟩⟩
      rotate_left
      · cases h
      go_wp2
      go_ret2
      exact ⟨k1.alloc _, .inl ⟨rfl, rfl⟩⟩
def ArRel (ls : List Lg) (ts : List Tp) (gs : List Tb) (W : World) (ov iv : Value) (wr : World) : Prop :=
  ∃ (i : Nat) (op : Option Addr) (oc : Nat) (A : Nat → Option Addr) (C : Nat → Nat), i ≤ ls.length ∧ iv = .int .i64 i ∧ ov = .slice op i oc ∧ RrS W (rowsR ls ts gs i) op oc A C wr ∧ topsB ts i = true
theorem NetB0 {net : Int} (h1 : -16000000 ≤ net) (h2 : net ≤ 16000000) : NetB 0 net := by unfold NetB; omega
set_option maxRecDepth 100000 in
set_option maxHeartbeats 4000000 in
theorem ralloc_any {w : World} {lb lo lc tb tof tc gb go' gc : Nat} {ls : List Lg} {ts : List Tp} {gs : List Tb} (net : Int) (hck : checkB ls = true) (hlt : ts.length = ls.length) (hlg : gs.length = ls.length) (hn1 : -16000000 ≤ net) (hn2 : net ≤ 16000000) (hf : fewB ts = true)
    (hgg : GoodG gs) (hs : LgAt w lb lo ls) (ht : TpAt w tb tof ts) (hg : TbAt w gb go' gs) :
    Calls Try.prog 12 #[.slice (some ⟨lb, lo, none⟩) ls.length lc, .slice (some ⟨tb, tof, none⟩) ls.length tc, .slice (some ⟨gb, go', none⟩) ls.length gc, .int .i64 net] w (ArPost (allocR ls ts gs net) w) := by
  obtain ⟨i0, hi0, hz0, hz1, hz2⟩ := info_parts Try.info30'
  obtain ⟨⟨hl2, hl4⟩, hgd⟩ := check_good hck
  have hcr := rcheck_any (cap := lc) hl2 hl4 hs
  rw [hck] at hcr
  have hfb := (few_is hf).2
  have Hcr := Lib.hid hcr
  have Hs := Lib.hid hs
  have Ht := Lib.hid ht
  have Hg := Lib.hid hg
  have Hgg := Lib.hid hgg
  have Hgd := Lib.hid hgd
  have Hfb := Lib.hid hfb
  have Hlt := Lib.hid hlt
  have Hlg := Lib.hid hlg
  have HE := Lib.hid (allocR_good (gs := gs) hck hlt hlg hn1 hn2)
  obtain ⟨n, hn⟩ : ∃ n, ls.length = n := ⟨_, rfl⟩
  have Hn := Lib.hid hn
  have Hn4 : Hid (n ≤ 4) := by rw [← hn]; exact hl4
  have Hnet := Lib.hid (NetB0 hn1 hn2)
  rw [hn] at hl2 hl4 Hcr ⊢
  clear hs ht hg hn hgg hlt hlg hck hcr hgd hf hfb
  go_enter Try.func12, Try.ntmps12
  go_wp2_with fail
  refine Hcr.out.mono ?_
  rintro e w1 ⟨v, m, rfl, k1, ⟨_, rfl, rfl⟩ | ⟨h, _⟩⟩
  rotate_left
  · cases h
  go_upto_region 2 with fail
  have hk1 : Kept (fun _ => False) w (w1.alloc (.cells #[.slice none 0 0, .int .i64 0] 64)) := k1.alloc _
  have hbx := block_w0 w1
  generalize w1.heap.size = xb at hbx ⊢
  generalize w1.alloc (.cells #[.slice none 0 0, .int .i64 0] 64) = w2 at hbx hk1 ⊢
  have x1 : w2.cell? ⟨xb, 1, none⟩ = some (.int .i64 0) := by rw [cell_of_block hbx]; rfl
  have Hk1 := Lib.hid hk1
  clear k1 Hcr hbx hk1
  go_wp2_with fail
  clear x1
  go_loopw [11, 12] (fun ov iv wr => ArRel ls ts gs w2 ov iv wr) (fun _ iv _ => n - (intOf iv).toNat)
  case atStart => exact ⟨0, none, 0, _, _, Nat.zero_le _, rfl, rfl, RrS.nil _, rfl⟩
  case round =>
    obtain ⟨i, op, oc, A, C, hi, rfl, rfl, hG, hup⟩ := hrel
    have hin : i ≤ n := by have := Hn.out; omega
    have Hup := Lib.hid hup
    have hkr := Hk1.out.trans hG.fr.k
    clear hi hup hn1 hn2
    by_cases hlt : i < n
    · have hb2 : (0 : Int) ≤ (i : Int) := by omega
      have hb3 : (i : Int) < (n : Int) := by omega
      obtain ⟨c0, c1, c2⟩ := (Hs.out.kept hkr) i (by have := Hn.out; omega)
      obtain ⟨t0, t1, t2, t3, t4, t5⟩ := (Ht.out.kept hkr) i (by have := Hn.out; have := Hlt.out; omega)
      obtain ⟨gb1, go1, gc1, cg, hgb1, hst⟩ := (Hg.out.kept hkr) i (by have := Hn.out; have := Hlg.out; omega)
      have hgt := Hgg.out i (by have := Hn.out; have := Hlg.out; omega)
      have hsg := (goodL_is (Hgd.out i (by have := Hn.out; omega))).2.1
      obtain ⟨⟨fb1, fb2⟩, fa1, fa2⟩ := Hfb.out i (by have := Hn.out; have := Hlt.out; omega)
      have hrc := rowR_cases (lgAt ls i).sgn (tpAt ts i) (tbAt gs i)
      have htop : topsB ts (i + 1) = (decide (1 ≤ (tpAt ts i).bid) && decide (1 ≤ (tpAt ts i).ask)) := by
        show (topsB ts i && _) = _
        rw [Hup.out, Bool.true_and]
      obtain ⟨⟨ser, sgn, rat⟩, hy⟩ : ∃ y, lgAt ls i = y := ⟨_, rfl⟩
      obtain ⟨⟨bid, bq, ask, aq, bc, ac⟩, htt⟩ : ∃ t, tpAt ts i = t := ⟨_, rfl⟩
      obtain ⟨g, hgn⟩ : ∃ g, tbAt gs i = g := ⟨_, rfl⟩
      obtain ⟨Rw, hRw⟩ : ∃ R, rowR (lgAt ls i).sgn (tpAt ts i) (tbAt gs i) = R := ⟨_, rfl⟩
      rw [hRw] at hrc
      rw [hy] at c0 c1 c2 hsg
      rw [htt] at t0 t1 t2 t3 t4 t5 fb1 fb2 fa1 fa2 htop
      rw [hgn] at cg hst hgt
      rw [hy, htt, hgn] at hrc
      simp only at c0 c1 c2 t0 t1 t2 t3 t4 t5 fb1 fb2 fa1 fa2 htop hsg hrc
      obtain ⟨L, hL⟩ : ∃ L, movedP sgn ⟨bid, bq, ask, aq, bc, ac⟩ g = L := ⟨_, rfl⟩
      rw [hL] at hrc
      have Hmv : Hid (∀ W, Kept (fun _ => False) wr W → Calls Try.prog 26 #[.agg #[.int .i64 ser, .int .i64 sgn, .int .i64 rat], .agg #[.int .i64 bid, .int .i64 bq, .int .i64 ask, .int .i64 aq, .bool bc, .bool ac], .slice (some ⟨gb1, go1, none⟩) g.length gc1] W (SlPost L W)) := fun W k => by
        have h := moved_any (cap := gc1) (Lg.mk ser sgn rat) hsg (Tp.mk bid bq ask aq bc ac) hgt (Nat.lt_of_lt_of_le hgb1 k.size) (hst.kept hgb1 k)
        rw [← hL]; exact h
      have Hong : Hid (∀ (s : Int) (W : World), Kept (fun _ => False) wr W → Calls Try.prog 27 #[.slice (some ⟨gb1, go1, none⟩) g.length gc1, .int .i64 s] W (BlPost (onT g s) W)) := fun s W k =>
        on_ref (cap := gc1) s hgt (Nat.lt_of_lt_of_le hgb1 k.size) (hst.kept hgb1 k)
      have Hrc := Lib.hid hrc
      have HRw := Lib.hid hRw
      have HGr := Lib.hid hG
      have hG2 : Fr 30 1 (rowsV A C (rowsR ls ts gs i)) w2 op i oc wr := by have := hG.fr; rwa [rowsR_length] at this
      have HG := Lib.hid hG2
      have Hi4 : Hid (i < 4) := by have := Hn4.out; show i < 4; omega
      clear hst hgt hgb1 hsg hrc hL hy htt hgn hRw hG hG2
      by_cases h1 : bid < 1 ∨ ask < 1
      · have hE : Hid (allocR ls ts gs net = none) := by
          show _ = _
          rw [HE.out, if_neg]
          rw [topsB_false (i := i + 1) (by rw [htop]; simp; omega) ls.length (by have := Hn.out; omega)]; simp
        have hk9 := hkr
        have Hk9 := Lib.hid hk9
        clear htop Hong Hmv hk9
        have h2 : bid < 1 ∨ (1 ≤ bid ∧ ask < 1) := by omega
        clear h1
        rcases h2 with h1 | ⟨h1, h2⟩
        all_goals
          go_wp2
          go_ret2
          exact ⟨Hk9.out, .inl ⟨hE.out, rfl⟩⟩
      · have hb1 : 1 ≤ bid := by omega
        have ha1 : 1 ≤ ask := by omega
        have Htop : Hid (topsB ts (i + 1) = true) := by
          show _ = _
          rw [htop]; simp; omega
        clear h1 htop
        go_upto_region 10 with fail
        refine wp_region_vals (by kernel_rfl) (by kernel_rfl) (by kernel_rfl) (by kernel_rfl) (Kept (fun _ => False) wr) killNo
          (fun jx => (([.val (Value.slice (some ⟨lb, lo, none⟩) n lc), .val (Value.int .i64 (i : Int)), .val (Value.pointer (some ⟨lb, lo + i * 3, none⟩)), .val (Value.agg #[.int .i64 ser, .int .i64 sgn, .int .i64 rat]), .val (Value.slice (some ⟨tb, tof, none⟩) n tc), .val (Value.int .i64 (i : Int)), .val (Value.pointer (some ⟨tb, tof + i * 6, none⟩)), .val (Value.agg #[.int .i64 bid, .int .i64 bq, .int .i64 ask, .int .i64 aq, .bool bc, .bool ac]), .val (Value.slice (some ⟨gb, go', none⟩) n gc), .val (Value.int .i64 (i : Int)), .val (Value.pointer (some ⟨gb, go' + i, none⟩)), .val (Value.slice (some ⟨gb1, go1, none⟩) g.length gc1), .fr 2 1 L.length (L.map intC), .fr 2 1 L.length (L.map intC)] : List Kd).getD jx .any).is wr)
          (fun _ _ => True) ((Kept.refl _ wr).drew) (fun _ => trivial) ?_ ?_
        · refine ⟨?_, ?_, ?_, ?_, ?_, ?_, ?_, ?_, ?_, ?_, ?_, ?_, ?_, ?_, trivial⟩
          all_goals (intro act w' hC hS hV hF)
          · refine ⟨rfl, fun K hK => ?_⟩
            have e1 : _ = Value.slice (some ⟨lb, lo, none⟩) n lc := slotE (hF 0 (by kernel_rfl))
            clear hV hF hS
            go_simp
            exact hK _ _ rfl hC (fun _ _ _ _ _ h => h) (fun _ _ _ h => h)
          · refine ⟨rfl, fun K hK => ?_⟩
            have e1 : _ = Value.int .i64 (i : Int) := slotE (hF 12 (by kernel_rfl))
            clear hV hF hS
            go_simp
            exact hK _ _ rfl hC (fun _ _ _ _ _ h => h) (fun _ _ _ h => h)
          · refine ⟨rfl, fun K hK => ?_⟩
            obtain ⟨_, rfl, e0⟩ := hV 0 (by kernel_rfl) (by kernel_rfl)
            have e0 := slotE (e0 _ rfl)
            obtain ⟨_, rfl, e1⟩ := hV 1 (by kernel_rfl) (by kernel_rfl)
            have e1 := slotE (e1 _ rfl)
            clear hV hF hS
            go_simp
            exact hK _ _ rfl hC (fun _ _ _ _ _ h => h) (fun _ _ _ h => h)
          · refine ⟨rfl, fun K hK => ?_⟩
            obtain ⟨_, rfl, e0⟩ := hV 2 (by kernel_rfl) (by kernel_rfl)
            have e0 := slotE (e0 _ rfl)
            have q0 := cell_kept2 hC c0
            have q1 := cell_kept2 hC c1
            have q2 := cell_kept2 hC c2
            clear hV hF hS
            go_simp
            exact hK _ _ rfl hC (fun _ _ _ _ _ h => h) (fun _ _ _ h => h)
          · refine ⟨rfl, fun K hK => ?_⟩
            have e1 : _ = Value.slice (some ⟨tb, tof, none⟩) n tc := slotE (hF 1 (by kernel_rfl))
            clear hV hF hS
            go_simp
            exact hK _ _ rfl hC (fun _ _ _ _ _ h => h) (fun _ _ _ h => h)
          · refine ⟨rfl, fun K hK => ?_⟩
            have e1 : _ = Value.int .i64 (i : Int) := slotE (hF 12 (by kernel_rfl))
            clear hV hF hS
            go_simp
            exact hK _ _ rfl hC (fun _ _ _ _ _ h => h) (fun _ _ _ h => h)
          · refine ⟨rfl, fun K hK => ?_⟩
            obtain ⟨_, rfl, e0⟩ := hV 4 (by kernel_rfl) (by kernel_rfl)
            have e0 := slotE (e0 _ rfl)
            obtain ⟨_, rfl, e1⟩ := hV 5 (by kernel_rfl) (by kernel_rfl)
            have e1 := slotE (e1 _ rfl)
            clear hV hF hS
            go_simp
            exact hK _ _ rfl hC (fun _ _ _ _ _ h => h) (fun _ _ _ h => h)
          · refine ⟨rfl, fun K hK => ?_⟩
            obtain ⟨_, rfl, e0⟩ := hV 6 (by kernel_rfl) (by kernel_rfl)
            have e0 := slotE (e0 _ rfl)
            have q0 := cell_kept2 hC t0
            have q1 := cell_kept2 hC t1
            have q2 := cell_kept2 hC t2
            have q3 := cell_kept2 hC t3
            have q4 := cell_kept2 hC t4
            have q5 := cell_kept2 hC t5
            clear hV hF hS
            go_simp
            exact hK _ _ rfl hC (fun _ _ _ _ _ h => h) (fun _ _ _ h => h)
          · refine ⟨rfl, fun K hK => ?_⟩
            have e1 : _ = Value.slice (some ⟨gb, go', none⟩) n gc := slotE (hF 2 (by kernel_rfl))
            clear hV hF hS
            go_simp
            exact hK _ _ rfl hC (fun _ _ _ _ _ h => h) (fun _ _ _ h => h)
          · refine ⟨rfl, fun K hK => ?_⟩
            have e1 : _ = Value.int .i64 (i : Int) := slotE (hF 12 (by kernel_rfl))
            clear hV hF hS
            go_simp
            exact hK _ _ rfl hC (fun _ _ _ _ _ h => h) (fun _ _ _ h => h)
          · refine ⟨rfl, fun K hK => ?_⟩
            obtain ⟨_, rfl, e0⟩ := hV 8 (by kernel_rfl) (by kernel_rfl)
            have e0 := slotE (e0 _ rfl)
            obtain ⟨_, rfl, e1⟩ := hV 9 (by kernel_rfl) (by kernel_rfl)
            have e1 := slotE (e1 _ rfl)
            clear hV hF hS
            go_simp
            exact hK _ _ rfl hC (fun _ _ _ _ _ h => h) (fun _ _ _ h => h)
          · refine ⟨rfl, fun K hK => ?_⟩
            obtain ⟨_, rfl, e0⟩ := hV 10 (by kernel_rfl) (by kernel_rfl)
            have e0 := slotE (e0 _ rfl)
            have q0 := cell_kept2 hC cg
            clear hV hF hS
            go_simp
            exact hK _ _ rfl hC (fun _ _ _ _ _ h => h) (fun _ _ _ h => h)
          · refine ⟨rfl, fun K hK => ?_⟩
            obtain ⟨_, rfl, e0⟩ := hV 3 (by kernel_rfl) (by kernel_rfl)
            have e0 := slotE (e0 _ rfl)
            obtain ⟨_, rfl, e1⟩ := hV 7 (by kernel_rfl) (by kernel_rfl)
            have e1 := slotE (e1 _ rfl)
            obtain ⟨_, rfl, e2⟩ := hV 11 (by kernel_rfl) (by kernel_rfl)
            have e2 := slotE (e2 _ rfl)
            clear hV hF hS
            go_simp
            refine (Hmv.out _ hC).mono ?_
            rintro e w5 ⟨p, cap, rfl, hF⟩
            exact hK _ _ ⟨p, cap, rfl, hF.from hC⟩ (hC.trans hF.k) (fun j u hj hk hr h => Kd.mono hF.k (Kd.rest (kills := killNo) rfl (by kernel_rfl) hj hk hr) h) (fun _ _ _ h => h)
          · refine ⟨rfl, fun K hK => ?_⟩
            obtain ⟨u0, h0, e0⟩ := hV 12 (by kernel_rfl) (by kernel_rfl)
            have e0 := slotE (e0 _ rfl)
            clear hV hF hS
            go_simp
            exact hK _ _ h0 hC (fun _ _ _ _ _ h => h) (fun _ _ _ h => h)
        · intro vs wx hl hC hV
          replace hl : vs.length = 14 := hl
          obtain ⟨v0, vs, rfl, hl0⟩ := cons_of hl
          obtain ⟨v1, vs, rfl, hl1⟩ := cons_of hl0
          obtain ⟨v2, vs, rfl, hl2⟩ := cons_of hl1
          obtain ⟨v3, vs, rfl, hl3⟩ := cons_of hl2
          obtain ⟨v4, vs, rfl, hl4⟩ := cons_of hl3
          obtain ⟨v5, vs, rfl, hl5⟩ := cons_of hl4
          obtain ⟨v6, vs, rfl, hl6⟩ := cons_of hl5
          obtain ⟨v7, vs, rfl, hl7⟩ := cons_of hl6
          obtain ⟨v8, vs, rfl, hl8⟩ := cons_of hl7
          obtain ⟨v9, vs, rfl, hl9⟩ := cons_of hl8
          obtain ⟨v10, vs, rfl, hl10⟩ := cons_of hl9
          obtain ⟨v11, vs, rfl, hl11⟩ := cons_of hl10
          obtain ⟨v12, vs, rfl, hl12⟩ := cons_of hl11
          obtain ⟨v13, vs, rfl, hl13⟩ := cons_of hl12
          obtain rfl := nil_of hl13
          have h13 : ∃ p cap, v13 = .slice p L.length cap ∧ Fr 2 1 (L.map intC) wr p L.length cap wx := hV 13 (by decide) (by decide)
          obtain ⟨p, cap, rfl, hF⟩ := h13
          have HF := Lib.hid hF
          clear hV hF hC Hmv
          simp only [dstsOf, List.map_cons, List.map_nil, puts, Act.put, List.setIfInBounds_toArray, List.set_cons_succ, List.set_cons_zero, Exit.then]
          obtain ⟨m, hm⟩ : ∃ m, L.length = m := ⟨_, rfl⟩
          rw [hm] at HF ⊢
          rcases Hrc.out with ⟨hL, hR⟩ | ⟨l, hL, hR⟩
          · subst hL
            subst hR
            obtain rfl : 0 = m := hm
            replace HF : Hid (Fr 2 1 [] wr p 0 cap wx) := HF
            clear Hrc Hong
            go_upto_region 11 with fail
            go_quiet (fail)
            have HFq : Hid (Fr 2 1 [] wr p 0 cap (wx.drewN nq)) := HF.out.drewN nq
            clear HF
            generalize wx.drewN nq = wy at HFq ⊢
            have HKa : Hid (∀ o, Kept (fun _ => False) wr (wy.alloc o)) := fun o => (HFq.out.k).alloc o
            have HGa : Hid (∀ o, SlAt (wy.alloc o) 30 1 op i oc (rowsV A C (rowsR ls ts gs i))) := fun o => HG.out.sl.kept fun t ht => (HKa.out o).block _ (HG.out.sl.lt t ht) (fun h => h)
            have Hpa : Hid (∀ o, SlAt (wy.alloc o) 2 1 p 0 cap (([] : List Int).map intC)) := fun o => HFq.out.sl.kept fun t ht => (show Kept (fun _ => False) wy (wy.alloc o) from (Kept.refl _ _).alloc o).block _ (HFq.out.sl.lt t ht) (fun h => h)
            go_wp2_with (at_builtin; refine wpList_append_any rfl (.tmp 105) (.tmp 107) 67 rfl 30 i0 _ 1 24 Try.underlying67 hi0 hz0 hz1 hz2 rfl (by decide) op i oc (rowsV A C (rowsR ls ts gs i)) rfl (HGa.out _) (some ⟨wy.heap.size, 0, none⟩) 1 1 [.slice p 0 cap] rfl (SlAt.one (block_new3 wy _) rfl) (by intro u hu; simp at hu; subst hu; rfl) (by have := Hi4.out; unfold maxLen; omega) (by have := Hi4.out; omega) ?_; intro p6 c6 w6 hsl6 hg6 hb6; have HN := Lib.hid (HGr.out.next (HKa.out _) HRw.out rfl (Hpa.out _) hsl6 hg6 hb6); clear hsl6 hg6 hb6)
            exact ⟨⟨i + 1, p6, c6, _, _, by have := Hn.out; omega, by push_cast; rfl, rfl, HN.out, Htop.out⟩, by simp [intOf]; omega⟩
          · have hm1 : 1 ≤ m := by rw [← hm, hL]; simp
            obtain ⟨s0, hs0⟩ : ∃ s0, startP sgn ⟨bid, bq, ask, aq, bc, ac⟩ = s0 := ⟨_, rfl⟩
            obtain ⟨pb, po, hpe, cp⟩ := first_cell HF.out.sl hm1 hL
            subst hpe
            rw [hs0] at cp
            obtain ⟨q, hq⟩ : ∃ q, onT g s0 = q := ⟨_, rfl⟩
            have Hon : Hid (∀ W, Kept (fun _ => False) wx W → Calls Try.prog 27 #[.slice (some ⟨gb1, go1, none⟩) g.length gc1, .int .i64 s0] W (BlPost q W)) := fun W kw => by
              rw [← hq]; exact Hong.out s0 W (HF.out.k.trans kw)
            have hsl := HF.out.sl
            have Hsl := Lib.hid hsl
            have cgx := cell_kept2 HF.out.k cg
            rw [hs0, hq] at hR
            have HRw : Hid (rowR (lgAt ls i).sgn (tpAt ts i) (tbAt gs i) = if q = true then L else []) := by show _ = _; rw [hL, hs0, HRw.out, hR]
            have Hm := Lib.hid hm
            have hmi : (0 : Int) < (m : Int) := by omega
            have hmd : decide ((0 : Int) < (m : Int)) = true := decide_eq_true hmi
            have hm0 : 0 < m := hm1
            have hmd0 : decide (0 < m) = true := decide_eq_true hm0
            obtain ⟨z, hnz⟩ : ∃ z, (!q) = z := ⟨_, rfl⟩
            clear Hong Hrc hL hR hs0 hq hm hsl cg
            go_upto_region 11 with fail
            refine wp_region_vals (by kernel_rfl) (by kernel_rfl) (by kernel_rfl) (by kernel_rfl) (Kept (fun _ => False) wx) killNo
              (fun jx => (([.val (Value.slice (some ⟨pb, po, none⟩) m cap), .val (Value.int .i64 (m : Int)), .val (Value.bool true), .val (Value.bool true), .val (Value.slice (some ⟨gb, go', none⟩) n gc), .val (Value.int .i64 (i : Int)), .val (Value.pointer (some ⟨gb, go' + i, none⟩)), .val (Value.slice (some ⟨gb1, go1, none⟩) g.length gc1), .val (Value.slice (some ⟨pb, po, none⟩) m cap), .val (Value.pointer (some ⟨pb, po, none⟩)), .val (Value.int .i64 s0), .val (Value.bool q), .val (Value.bool z), .val (Value.bool z)] : List Kd).getD jx .any).is wx)
              (fun _ _ => True) ((Kept.refl _ wx).drew) (fun _ => trivial) ?_ ?_
            · refine ⟨?_, ?_, ?_, ?_, ?_, ?_, ?_, ?_, ?_, ?_, ?_, ?_, ?_, ?_, trivial⟩
              all_goals (intro act w' hC hS hV hF)
              · refine ⟨rfl, fun K hK => ?_⟩
                have e1 : _ = Value.slice (some ⟨pb, po, none⟩) m cap := slotE (hF 13 (by kernel_rfl))
                clear hV hF hS
                go_simp
                exact hK _ _ rfl hC (fun _ _ _ _ _ h => h) (fun _ _ _ h => h)
              · refine ⟨rfl, fun K hK => ?_⟩
                obtain ⟨_, rfl, e0⟩ := hV 0 (by kernel_rfl) (by kernel_rfl)
                have e0 := slotE (e0 _ rfl)
                clear hV hF hS
                go_simp
                exact hK _ _ rfl hC (fun _ _ _ _ _ h => h) (fun _ _ _ h => h)
              · refine ⟨rfl, fun K hK => ?_⟩
                obtain ⟨_, rfl, e0⟩ := hV 1 (by kernel_rfl) (by kernel_rfl)
                have e0 := slotE (e0 _ rfl)
                clear hV hF hS
                go_simp
                exact hK _ _ (by first | rfl | (simp only [hmd, hmd0]; rfl)) hC (fun _ _ _ _ _ h => h) (fun _ _ _ h => h)
              · refine ⟨rfl, fun K hK => ?_⟩
                obtain ⟨_, rfl, e0⟩ := hV 2 (by kernel_rfl) (by kernel_rfl)
                have e0 := slotE (e0 _ rfl)
                clear hV hF hS
                go_simp
                exact hK _ _ rfl hC (fun _ _ _ _ _ h => h) (fun _ _ _ h => h)
              · obtain ⟨_, rfl, eg⟩ := hV 3 (by kernel_rfl) (by kernel_rfl)
                refine ⟨wanted_of rfl rfl (eg _ rfl), fun K hK => ?_⟩
                clear eg
                have e1 : _ = Value.slice (some ⟨gb, go', none⟩) n gc := slotE (hF 2 (by kernel_rfl))
                clear hV hF hS
                go_simp
                exact hK _ _ rfl hC (fun _ _ _ _ _ h => h) (fun _ _ _ h => h)
              · obtain ⟨_, rfl, eg⟩ := hV 3 (by kernel_rfl) (by kernel_rfl)
                refine ⟨wanted_of rfl rfl (eg _ rfl), fun K hK => ?_⟩
                clear eg
                have e1 : _ = Value.int .i64 (i : Int) := slotE (hF 12 (by kernel_rfl))
                clear hV hF hS
                go_simp
                exact hK _ _ rfl hC (fun _ _ _ _ _ h => h) (fun _ _ _ h => h)
              · obtain ⟨_, rfl, eg⟩ := hV 3 (by kernel_rfl) (by kernel_rfl)
                refine ⟨wanted_of rfl rfl (eg _ rfl), fun K hK => ?_⟩
                clear eg
                obtain ⟨_, rfl, e0⟩ := hV 4 (by kernel_rfl) (by kernel_rfl)
                have e0 := slotE (e0 _ rfl)
                obtain ⟨_, rfl, e1⟩ := hV 5 (by kernel_rfl) (by kernel_rfl)
                have e1 := slotE (e1 _ rfl)
                clear hV hF hS
                go_simp
                exact hK _ _ rfl hC (fun _ _ _ _ _ h => h) (fun _ _ _ h => h)
              · obtain ⟨_, rfl, eg⟩ := hV 3 (by kernel_rfl) (by kernel_rfl)
                refine ⟨wanted_of rfl rfl (eg _ rfl), fun K hK => ?_⟩
                clear eg
                obtain ⟨_, rfl, e0⟩ := hV 6 (by kernel_rfl) (by kernel_rfl)
                have e0 := slotE (e0 _ rfl)
                have q0 := cell_kept2 hC cgx
                clear hV hF hS
                go_simp
                exact hK _ _ rfl hC (fun _ _ _ _ _ h => h) (fun _ _ _ h => h)
              · obtain ⟨_, rfl, eg⟩ := hV 3 (by kernel_rfl) (by kernel_rfl)
                refine ⟨wanted_of rfl rfl (eg _ rfl), fun K hK => ?_⟩
                clear eg
                have e1 : _ = Value.slice (some ⟨pb, po, none⟩) m cap := slotE (hF 13 (by kernel_rfl))
                clear hV hF hS
                go_simp
                exact hK _ _ rfl hC (fun _ _ _ _ _ h => h) (fun _ _ _ h => h)
              · obtain ⟨_, rfl, eg⟩ := hV 3 (by kernel_rfl) (by kernel_rfl)
                refine ⟨wanted_of rfl rfl (eg _ rfl), fun K hK => ?_⟩
                clear eg
                obtain ⟨_, rfl, e0⟩ := hV 8 (by kernel_rfl) (by kernel_rfl)
                have e0 := slotE (e0 _ rfl)
                clear hV hF hS
                go_simp
                exact hK _ _ rfl hC (fun _ _ _ _ _ h => h) (fun _ _ _ h => h)
              · obtain ⟨_, rfl, eg⟩ := hV 3 (by kernel_rfl) (by kernel_rfl)
                refine ⟨wanted_of rfl rfl (eg _ rfl), fun K hK => ?_⟩
                clear eg
                obtain ⟨_, rfl, e0⟩ := hV 9 (by kernel_rfl) (by kernel_rfl)
                have e0 := slotE (e0 _ rfl)
                have q0 := cell_kept2 hC cp
                clear hV hF hS
                go_simp
                exact hK _ _ rfl hC (fun _ _ _ _ _ h => h) (fun _ _ _ h => h)
              · obtain ⟨_, rfl, eg⟩ := hV 3 (by kernel_rfl) (by kernel_rfl)
                refine ⟨wanted_of rfl rfl (eg _ rfl), fun K hK => ?_⟩
                clear eg
                obtain ⟨_, rfl, e0⟩ := hV 7 (by kernel_rfl) (by kernel_rfl)
                have e0 := slotE (e0 _ rfl)
                obtain ⟨_, rfl, e1⟩ := hV 10 (by kernel_rfl) (by kernel_rfl)
                have e1 := slotE (e1 _ rfl)
                clear hV hF hS
                go_simp
                refine (Hon.out _ hC).mono ?_
                rintro e w5 ⟨rfl, k5⟩
                exact hK _ _ rfl (hC.trans k5) (fun j u hj hk hr h => Kd.mono k5 (Kd.rest (kills := killNo) rfl (by kernel_rfl) hj hk hr) h) (fun _ _ _ h => h)
              · obtain ⟨_, rfl, eg⟩ := hV 3 (by kernel_rfl) (by kernel_rfl)
                refine ⟨wanted_of rfl rfl (eg _ rfl), fun K hK => ?_⟩
                clear eg
                obtain ⟨_, rfl, e0⟩ := hV 11 (by kernel_rfl) (by kernel_rfl)
                have e0 := slotE (e0 _ rfl)
                clear hV hF hS
                go_simp
                exact hK _ _ (by first | rfl | (simp only [hnz]; rfl)) hC (fun _ _ _ _ _ h => h) (fun _ _ _ h => h)
              · refine ⟨rfl, fun K hK => ?_⟩
                obtain ⟨_, rfl, e0⟩ := hV 3 (by kernel_rfl) (by kernel_rfl)
                have e0 := slotE (e0 _ rfl)
                obtain ⟨_, rfl, e1⟩ := hV 12 (by kernel_rfl) (by kernel_rfl)
                have e1 := slotE (e1 _ rfl)
                clear hV hF hS
                go_simp
                exact hK _ _ rfl hC (fun _ _ _ _ _ h => h) (fun _ _ _ h => h)
            · intro vs wy hl hC hV
              replace hl : vs.length = 14 := hl
              obtain ⟨v0, vs, rfl, hl0⟩ := cons_of hl
              obtain ⟨v1, vs, rfl, hl1⟩ := cons_of hl0
              obtain ⟨v2, vs, rfl, hl2⟩ := cons_of hl1
              obtain ⟨v3, vs, rfl, hl3⟩ := cons_of hl2
              obtain ⟨v4, vs, rfl, hl4⟩ := cons_of hl3
              obtain ⟨v5, vs, rfl, hl5⟩ := cons_of hl4
              obtain ⟨v6, vs, rfl, hl6⟩ := cons_of hl5
              obtain ⟨v7, vs, rfl, hl7⟩ := cons_of hl6
              obtain ⟨v8, vs, rfl, hl8⟩ := cons_of hl7
              obtain ⟨v9, vs, rfl, hl9⟩ := cons_of hl8
              obtain ⟨v10, vs, rfl, hl10⟩ := cons_of hl9
              obtain ⟨v11, vs, rfl, hl11⟩ := cons_of hl10
              obtain ⟨v12, vs, rfl, hl12⟩ := cons_of hl11
              obtain ⟨v13, vs, rfl, hl13⟩ := cons_of hl12
              obtain rfl := nil_of hl13
              have h13 : v13 = .bool z := hV 13 (by decide) (by decide)
              subst h13
              clear hV
              simp only [dstsOf, List.map_cons, List.map_nil, puts, Act.put, List.setIfInBounds_toArray, List.set_cons_succ, List.set_cons_zero, Exit.then]
              have HC := Lib.hid hC
              clear hC Hon cp cgx
              have hcz : (q = false ∧ z = true) ∨ (q = true ∧ z = false) := by subst hnz; cases q <;> simp
              clear hnz
              rcases hcz with ⟨rfl, rfl⟩ | ⟨rfl, rfl⟩
              · replace HRw : Hid (rowR (lgAt ls i).sgn (tpAt ts i) (tbAt gs i) = []) := HRw.out.trans (if_neg (by simp))
                clear Hm Hsl
                have HKa : Hid (∀ o, Kept (fun _ => False) wr (wy.alloc o)) := fun o => (HF.out.k.trans HC.out).alloc o
                have HGa : Hid (∀ o, SlAt (wy.alloc o) 30 1 op i oc (rowsV A C (rowsR ls ts gs i))) := fun o => HG.out.sl.kept fun t ht => (HKa.out o).block _ (HG.out.sl.lt t ht) (fun h => h)
                have Hpa : Hid (∀ o, SlAt (wy.alloc o) 2 1 none 0 0 (([] : List Int).map intC)) := fun o => SlAt.nil _ _ _
                go_wp2_with (at_builtin; refine wpList_append_any rfl (.tmp 105) (.tmp 107) 67 rfl 30 i0 _ 1 24 Try.underlying67 hi0 hz0 hz1 hz2 rfl (by decide) op i oc (rowsV A C (rowsR ls ts gs i)) rfl (HGa.out _) (some ⟨wy.heap.size, 0, none⟩) 1 1 [.slice none 0 0] rfl (SlAt.one (block_new3 wy _) rfl) (by intro u hu; simp at hu; subst hu; rfl) (by have := Hi4.out; unfold maxLen; omega) (by have := Hi4.out; omega) ?_; intro p6 c6 w6 hsl6 hg6 hb6; have HN := Lib.hid (HGr.out.next (HKa.out _) HRw.out rfl (Hpa.out _) hsl6 hg6 hb6); clear hsl6 hg6 hb6)
                exact ⟨⟨i + 1, p6, c6, _, _, by have := Hn.out; omega, by push_cast; rfl, rfl, HN.out, Htop.out⟩, by simp [intOf]; omega⟩
              · replace HRw : Hid (rowR (lgAt ls i).sgn (tpAt ts i) (tbAt gs i) = L) := HRw.out.trans (if_pos rfl)
                have HKa : Hid (∀ o, Kept (fun _ => False) wr (wy.alloc o)) := fun o => (HF.out.k.trans HC.out).alloc o
                have HGa : Hid (∀ o, SlAt (wy.alloc o) 30 1 op i oc (rowsV A C (rowsR ls ts gs i))) := fun o => HG.out.sl.kept fun t ht => (HKa.out o).block _ (HG.out.sl.lt t ht) (fun h => h)
                have Hpa : Hid (∀ o, SlAt (wy.alloc o) 2 1 (some ⟨pb, po, none⟩) m cap (L.map intC)) := fun o => Hsl.out.kept fun t ht => ((show Kept (fun _ => False) wx (wy.alloc o) from HC.out.alloc o).block _ (Hsl.out.lt t ht) (fun h => h))
                go_wp2_with (at_builtin; refine wpList_append_any rfl (.tmp 105) (.tmp 107) 67 rfl 30 i0 _ 1 24 Try.underlying67 hi0 hz0 hz1 hz2 rfl (by decide) op i oc (rowsV A C (rowsR ls ts gs i)) rfl (HGa.out _) (some ⟨wy.heap.size, 0, none⟩) 1 1 [.slice (some ⟨pb, po, none⟩) m cap] rfl (SlAt.one (block_new3 wy _) rfl) (by intro u hu; simp at hu; subst hu; rfl) (by have := Hi4.out; unfold maxLen; omega) (by have := Hi4.out; omega) ?_; intro p6 c6 w6 hsl6 hg6 hb6; have HN := Lib.hid (HGr.out.next (HKa.out _) HRw.out Hm.out (Hpa.out _) hsl6 hg6 hb6); clear hsl6 hg6 hb6)
                exact ⟨⟨i + 1, p6, c6, _, _, by have := Hn.out; omega, by push_cast; rfl, rfl, HN.out, Htop.out⟩, by simp [intOf]; omega⟩
    · obtain rfl : i = n := by omega
      have hE : Hid (allocR ls ts gs net = restF ls ts (rowsR ls ts gs i) i i net) := by
        show _ = _
        rw [HE.out, Hn.out, if_pos Hup.out]
      have hr := hG.rows (by rw [rowsR_length]; omega)
      obtain ⟨rb, ro, rfl, hRA⟩ := hr
      have hcall : Calls Try.prog 28 #[.slice (some ⟨lb, lo, none⟩) i lc, .slice (some ⟨tb, tof, none⟩) i tc, .slice (some ⟨rb, ro, none⟩) i oc, .int .i64 0, .int .i64 net] wr (RsPost (restF ls ts (rowsR ls ts gs i) i i net) wr) :=
        rest_any (n := i) (lc := lc) (tc := tc) (rc := oc) Hn4.out Hn.out (Hlt.out.trans Hn.out) (rowsR_length _ _ _ _) (fun j hj => Hgd.out j (by have := Hn.out; omega)) (fun j hj => by rw [rowsR_at hj]; exact Nat.le_trans (rowR_len _ _ _) (by decide))
          (fun j hj q hq => by
            rw [rowsR_at hj] at hq
            have hi := rowR_in hq
            unfold insideB at hi
            simp only [Bool.and_eq_true, decide_eq_true_eq] at hi
            have := Hfb.out j (by have := Hn.out; have := Hlt.out; omega)
            omega) i 0 net wr (Nat.zero_add _) Hnet.out (Hs.out.kept hkr) (Ht.out.kept hkr) hRA
      have Hcall := Lib.hid hcall
      have Hkr := Lib.hid hkr
      obtain ⟨R, hR⟩ : ∃ R, restF ls ts (rowsR ls ts gs i) i i net = R := ⟨_, rfl⟩
      rw [hR] at Hcall hE
      clear hcall hkr hRA hG hR
      go_wp2_with fail
      refine Hcall.out.mono ?_
      rintro e w5 ⟨k5, ⟨h5, rfl⟩ | ⟨l, t9, o9, c9, h5, rfl, hsl9⟩⟩
      · have hnq : (binOp BinOp.neq 30 (.slice none 0 0) (.slice none 0 0)).run Try.prog w5 = .ok (.bool false) w5 := run_neq30 none 0 0 w5
        have H5 := Lib.hid (hE.out.trans h5)
        have K5 := Lib.hid (Hkr.out.trans k5)
        clear hE h5 k5 Hkr Hcall
        go_wp2
        go_ret2
        exact ⟨K5.out, .inl ⟨H5.out, rfl⟩⟩
      · obtain ⟨a9, h9, ha9, hsa9⟩ : ∃ a9 : Option Addr, some ⟨t9, o9, none⟩ = a9 ∧ a9.isNone = false ∧ SlAt w5 2 1 a9 l.length c9 (l.map intC) := ⟨some ⟨t9, o9, none⟩, rfl, rfl, hsl9⟩
        rw [h9]
        have hnq : (binOp BinOp.neq 30 (.slice a9 l.length c9) (.slice none 0 0)).run Try.prog w5 = .ok (.bool true) w5 := by rw [run_neq30, ha9]; rfl
        have H5 := Lib.hid (hE.out.trans h5)
        have K5 := Lib.hid (Hkr.out.trans k5)
        have Hsa9 := Lib.hid hsa9
        clear hE h5 k5 Hkr Hcall hsl9 h9 hsa9
        go_wp2
        go_ret2
        exact ⟨K5.out, .inr ⟨l, a9, c9, H5.out, rfl, Hsa9.out⟩⟩
end Go.Proofs.Ytgbdnodkbdkaeaa
