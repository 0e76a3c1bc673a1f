/- Alloc: the first prices that a strategy may be had at: Prices 11. -/
import Derived.Test.YtgbdnodkbdkaeaaAw
import Derived.Test.YtgbdnodkbdkaeaaRv
namespace Go.Proofs.Ytgbdnodkbdkaeaa
open Go Go.RowKit

def pricesP (ls : List Lg) (ts : List Tp) (gs : List Tb) (net : Int) : Option (List Int) :=
  if (checkB ls && (decide (ts.length = ls.length) && decide (gs.length = ls.length))) = true then srchF ls (rowsP ls ts gs ls.length) ls.length (ls.length - 1) net else none
def PrPost (r : Option (List Int)) (w : World) (e : Ending) (w' : World) : Prop :=
  Kept (fun _ => False) w w' ∧ ((r = none ∧ e = .returned (.tuple #[.slice none 0 0, .bool false])) ∨ ∃ l a, r = some l ∧ e = .returned (.tuple #[.slice a l.length l.length, .bool true]) ∧ SlAt w' 2 1 a l.length l.length (l.map intC))
set_option maxRecDepth 100000 in
set_option maxHeartbeats 1000000 in
theorem prices_bad {w : World} {la ta ga : Option Addr} {lc tl tc gl gc : Nat} {ls : List Lg} (net : Int) (hl : ls.length ≤ maxLen) (ht : tl ≤ maxLen) (hg : gl ≤ maxLen) (hcap : ls.length ≤ lc) (hs : LgS w la ls)
    (h : checkB ls = false ∨ (checkB ls = true ∧ (tl ≠ ls.length ∨ gl ≠ ls.length))) :
    Calls Try.prog 11 #[.slice la ls.length lc, .slice ta tl tc, .slice ga gl gc, .int .i64 net] w (PrPost none w) := by
  have hck := check_all (cap := lc) hl hcap hs
  unfold maxLen at hl ht hg
  rcases h with h | ⟨h, h1⟩
  · rw [h] at hck
    have Hck := Lib.hid hck
    clear hck h hs hcap
    generalize ls.length = ll at Hck hl ⊢
    go_enter Try.func11, Try.ntmps11
    go_wp2_with fail
    refine Hck.out.mono ?_
    rintro e w1 ⟨k1, ⟨h, _⟩ | ⟨_, fa, rfl⟩⟩
    · cases h
    go_wp2
    go_ret2
    exact ⟨k1, .inl ⟨rfl, rfl⟩⟩
  · rw [h] at hck
    have Hck := Lib.hid hck
    clear hck h hs hcap
    generalize ls.length = ll at Hck hl h1 ⊢
    have hc : ((tl : Int) != (ll : Int)) = true ∨ (((tl : Int) != (ll : Int)) = false ∧ ((gl : Int) != (ll : Int)) = true) := by
      by_cases e1 : tl = ll
      · exact .inr ⟨by simp [e1], by simp; omega⟩
      · exact .inl (by simp; omega)
    clear h1
    rcases hc with h1 | ⟨h1, h2⟩
    all_goals
      go_enter Try.func11, Try.ntmps11
      go_wp2_with fail
      refine Hck.out.mono ?_
      rintro e w1 ⟨k1, ⟨_, rfl⟩ | ⟨h, _⟩⟩
      rotate_left
      · cases h
      go_wp2
      go_ret2
      exact ⟨k1, .inl ⟨rfl, rfl⟩⟩
def PaRel (W1 : World) (sb lb lo lc n : Nat) (ls : List Lg) (ts : List Tp) (gs : List Tb) (iv : Value) (wr : World) : Prop :=
  ∃ (j : Nat) (A : Nat → Option Addr) (C : Nat → Nat) (rp : Option Addr) (rc : Nat), j ≤ n ∧ iv = .int .i64 j ∧ PrS W1 sb lb lo lc n (rowsP ls ts gs j) A C rp rc wr
/-- What lay there before the search's block was made. -/
theorem LgAt.other {W1 w : World} {sb lb lo : Nat} {ls : List Lg} (hne : lb ≠ sb) (hlb : lb < W1.heap.size) (hs : LgAt W1 lb lo ls) (k : Kept (fun b => b = sb) W1 w) : LgAt w lb lo ls := fun j hj => by
  obtain ⟨c0, c1, c2⟩ := hs j hj
  have hb := k.block lb hlb hne
  exact ⟨by rw [World.cell?_of_block (a := ⟨lb, _, none⟩) (w := W1) hb]; exact c0, by rw [World.cell?_of_block (a := ⟨lb, _, none⟩) (w := W1) hb]; exact c1, by rw [World.cell?_of_block (a := ⟨lb, _, none⟩) (w := W1) hb]; exact c2⟩
theorem TpAt.other {W1 w : World} {sb lb lo : Nat} {ls : List Tp} (hne : lb ≠ sb) (hlb : lb < W1.heap.size) (hs : TpAt W1 lb lo ls) (k : Kept (fun b => b = sb) W1 w) : TpAt w lb lo ls := fun j hj => by
  obtain ⟨c0, c1, c2, c3, c4, c5⟩ := hs j hj
  have hb := k.block lb hlb hne
  exact ⟨by rw [World.cell?_of_block (a := ⟨lb, _, none⟩) (w := W1) hb]; exact c0, by rw [World.cell?_of_block (a := ⟨lb, _, none⟩) (w := W1) hb]; exact c1, by rw [World.cell?_of_block (a := ⟨lb, _, none⟩) (w := W1) hb]; exact c2,
    by rw [World.cell?_of_block (a := ⟨lb, _, none⟩) (w := W1) hb]; exact c3, by rw [World.cell?_of_block (a := ⟨lb, _, none⟩) (w := W1) hb]; exact c4, by rw [World.cell?_of_block (a := ⟨lb, _, none⟩) (w := W1) hb]; exact c5⟩
theorem StAt.other {W1 w : World} {sb lb lo : Nat} {xs : List (Int × Int)} (hne : lb ≠ sb) (hlb : lb < W1.heap.size) (hs : StAt W1 lb lo xs) (k : Kept (fun b => b = sb) W1 w) : StAt w lb lo xs := fun j hj => by
  obtain ⟨c0, c1⟩ := hs j hj
  have hb := k.block lb hlb hne
  exact ⟨by rw [World.cell?_of_block (a := ⟨lb, _, none⟩) (w := W1) hb]; exact c0, by rw [World.cell?_of_block (a := ⟨lb, _, none⟩) (w := W1) hb]; exact c1⟩
theorem PsS.other {W1 w : World} {sb : Nat} {a : Option Addr} {ps : List Int} (hne : ∀ t, a = some t → t.block ≠ sb ∧ t.block < W1.heap.size) (hs : PsS W1 a ps) (k : Kept (fun b => b = sb) W1 w) : PsS w a ps := by
  rcases hs with h | ⟨b, off, rfl, h⟩
  · exact .inl h
  · obtain ⟨h1, h2⟩ := hne _ rfl
    exact .inr ⟨b, off, rfl, fun j hj => by rw [World.cell?_of_block (a := ⟨b, _, none⟩) (w := W1) (k.block b h2 h1)]; exact h j hj⟩
theorem PrS.ne {W1 wr : World} {sb lb lo lc n : Nat} {rows : List (List Int)} {A : Nat → Option Addr} {C : Nat → Nat} {rp : Option Addr} {rc : Nat} (h : PrS W1 sb lb lo lc n rows A C rp rc wr) : rp.map (·.block) ≠ some sb := by
  intro e
  have hold := h.old
  cases hop : rp with
  | none => rw [hop] at e; cases e
  | some t => rw [hop] at e; have h2 := h.newr t hop; have h3 : t.block = sb := by simpa using e
              omega
def killPr (k j : Nat) : Bool := (k == 16 && (j == 14 || j == 15)) || (k == 19 && (j == 14 || j == 15 || j == 16))
set_option maxRecDepth 100000 in
set_option maxHeartbeats 2000000 in
theorem prices_good {w : World} {lb lo lc tb tof tc gb go' gc : Nat} {ls : List Lg} {ts : List Tp} {gs : List Tb} (net : Int) (hne : I64 net) (hck : checkB ls = true) (hlt : ts.length = ls.length) (hlg : gs.length = ls.length) (hcap : ls.length ≤ lc)
    (hgg : GoodG gs) (hs : LgAt w lb lo ls) (ht : TpAt w tb tof ts) (hg : TbAt w gb go' gs) :
    Calls Try.prog 11 #[.slice (some ⟨lb, lo, none⟩) ls.length lc, .slice (some ⟨tb, tof, none⟩) ls.length tc, .slice (some ⟨gb, go', none⟩) ls.length gc, .int .i64 net] w (PrPost (srchF ls (rowsP ls ts gs ls.length) ls.length (ls.length - 1) net) w) := by
  obtain ⟨i0, hi0, hz0, hz1, hz2⟩ := info_parts Try.info30'
  obtain ⟨⟨hl2, hl4⟩, hgd⟩ := check_good hck
  have hcr := check_any hl2 hl4 hcap hs
  rw [hck] at hcr
  have Hcr := Lib.hid hcr
  have Hs := Lib.hid hs
  have Ht := Lib.hid ht
  have Hg := Lib.hid hg
  have Hgg := Lib.hid hgg
  have Hgd := Lib.hid hgd
  have Hlt := Lib.hid hlt
  have Hlg := Lib.hid hlg
  have Hne := Lib.hid hne
  obtain ⟨n, hn⟩ : ∃ n, ls.length = n := ⟨_, rfl⟩
  have Hn := Lib.hid hn
  rw [hn] at hl2 hl4 Hcr ⊢
  clear hs ht hg hn hgg hlt hlg hck hcr hgd hne hcap
  go_enter Try.func11, Try.ntmps11
  go_wp2_with fail
  refine Hcr.out.mono ?_
  rintro e w1 ⟨k1, ⟨_, rfl⟩ | ⟨h, _⟩⟩
  rotate_left
  · cases h
  go_upto_region 4 with fail
  have hbx := block_new3 w1 (.cells #[.slice (some ⟨lb, lo, none⟩) n lc, .slice none 0 0, .slice none 0 0] 69)
  have hkx : Kept (fun _ => False) w (w1.alloc (.cells #[.slice (some ⟨lb, lo, none⟩) n lc, .slice none 0 0, .slice none 0 0] 69)) := k1.alloc _
  have hsb : w1.heap.size < (w1.alloc (.cells #[.slice (some ⟨lb, lo, none⟩) n lc, .slice none 0 0, .slice none 0 0] 69)).heap.size := by simp
  have hsw := k1.size
  generalize w1.heap.size = sb at hbx hsb hsw ⊢
  generalize w1.alloc (.cells #[.slice (some ⟨lb, lo, none⟩) n lc, .slice none 0 0, .slice none 0 0] 69) = W1 at hbx hkx hsb ⊢
  have Hkx := Lib.hid hkx
  have Hsw := Lib.hid hsw
  have Hsb := Lib.hid hsb
  have hst : PaRel W1 sb lb lo lc n ls ts gs (.int .i64 0) W1 := ⟨0, fun _ => none, fun _ => 0, none, 0, Nat.zero_le _, rfl, hbx, SlAt.nil _ _ _, (fun k hk => by simp [rowsP] at hk), (fun t ht => by cases ht), Kept.refl _ _, hsb⟩
  have Hst := Lib.hid hst
  clear k1 Hcr hbx hkx hst hsw hsb
  go_wp2_with fail
  go_loopw [35] (fun iv wr => PaRel W1 sb lb lo lc n ls ts gs iv wr) (fun iv _ => n - (intOf iv).toNat)
  case atStart => exact Hst.out
  case round =>
    obtain ⟨j, A, C, rp, rc, hjn, rfl, hP⟩ := hrel
    clear Hst
    by_cases hlt : j < n
    · have hb2 : (0 : Int) ≤ (j : Int) := by omega
      have hb3 : (j : Int) < (n : Int) := by omega
      have hkr := hP.kept
      have hlw : ∀ b, b < w.heap.size → b ≠ sb ∧ b < W1.heap.size := fun b hb => by have h1 := Hsw.out; have h2 := Hkx.out.size; omega
      obtain ⟨c0, c1, c2⟩ := Hs.out j (by have := Hn.out; omega)
      have hlb := hlw lb (World.block_lt_of_cell? _ _ c0)
      obtain ⟨u0, _⟩ := Ht.out j (by have := Hn.out; have := Hlt.out; omega)
      have htb := hlw tb (World.block_lt_of_cell? _ _ u0)
      obtain ⟨gb1, go1, gc1, v0, hgb1, hgs1⟩ := Hg.out j (by have := Hn.out; have := Hlg.out; omega)
      have hgb := hlw gb (World.block_lt_of_cell? _ _ v0)
      have hgb' := hlw gb1 hgb1
      obtain ⟨d0, d1, d2⟩ := ((Hs.out.kept Hkx.out).other hlb.1 hlb.2 hkr) j (by have := Hn.out; omega)
      obtain ⟨t0, t1, t2, t3, t4, t5⟩ := ((Ht.out.kept Hkx.out).other htb.1 htb.2 hkr) j (by have := Hn.out; have := Hlt.out; omega)
      have cg : wr.cell? ⟨gb, go' + j, none⟩ = some (.slice (some ⟨gb1, go1, none⟩) (tbAt gs j).length gc1) := by
        rw [World.cell?_of_block (a := ⟨gb, _, none⟩) (w := W1) (hkr.block gb hgb.2 hgb.1)]; exact cell_kept2 Hkx.out v0
      have hgs2 : StAt wr gb1 go1 (tbAt gs j) := (hgs1.kept hgb1 Hkx.out).other hgb'.1 hgb'.2 hkr
      have hgw : gb1 < wr.heap.size := Nat.lt_of_lt_of_le hgb'.2 hkr.size
      have hgt := Hgg.out j (by have := Hn.out; have := Hlg.out; omega)
      have hrs := rowsP_succ ls ts gs j
      obtain ⟨⟨ser, sgn, rat⟩, hy⟩ : ∃ y, lgAt ls j = y := ⟨_, rfl⟩
      obtain ⟨⟨bid, bq, ask, aq, bc, ac⟩, htt⟩ : ∃ t, tpAt ts j = t := ⟨_, rfl⟩
      obtain ⟨g, hgn⟩ : ∃ g, tbAt gs j = g := ⟨_, rfl⟩
      rw [hy] at d0 d1 d2
      rw [htt] at t0 t1 t2 t3 t4 t5
      rw [hgn] at cg hgs2 hgt
      rw [hy, htt, hgn] at hrs
      simp only at d0 d1 d2 t0 t1 t2 t3 t4 t5 hrs
      obtain ⟨rows, hrows⟩ : ∃ rows, rowsP ls ts gs j = rows := ⟨_, rfl⟩
      have hrl : rows.length = j := by rw [← hrows]; exact rowsP_length _ _ _ _
      rw [hrows] at hP hrs
      obtain ⟨L, hL⟩ : ∃ L, movesP sgn ⟨bid, bq, ask, aq, bc, ac⟩ g = L := ⟨_, rfl⟩
      rw [hL] at hrs
      have Hmv : Hid (∀ W, Kept (fun _ => False) wr W → Calls Try.prog 22 #[.agg #[.int .i64 ser, .int .i64 sgn, .int .i64 rat], .agg #[.int .i64 bid, .int .i64 bq, .int .i64 ask, .int .i64 aq, .bool bc, .bool ac], .slice (some ⟨gb1, go1, none⟩) g.length gc1] W (SlPost L W)) := fun W k => by
        have h := moves_any (cap := gc1) (Lg.mk ser sgn rat) (Tp.mk bid bq ask aq bc ac) hgt (Nat.lt_of_lt_of_le hgw k.size) (hgs2.kept hgw k)
        rw [← hL]; exact h
      have Hrs := Lib.hid hrs
      have Hrl := Lib.hid hrl
      have HP := Lib.hid hP
      have s1 : wr.cell? ⟨sb, 1, none⟩ = some (.slice rp rows.length rc) := by rw [cell_of_block hP.blk]; rfl
      clear c0 c1 c2 u0 v0 hlw hlb htb hgb hgb' hgb1 hgs1 hgs2 hgt hy htt hgn hrows hL hrs hrl hkr hP hgw
      go_upto_region 7 with fail
      have hbx := block_new3 wr (.cells #[.int .i64 ser, .int .i64 sgn, .int .i64 rat] 43)
      have hkx : Kept (fun _ => False) wr (wr.alloc (.cells #[.int .i64 ser, .int .i64 sgn, .int .i64 rat] 43)) := (Kept.refl _ _).alloc _
      replace s1 := cell_kept2 hkx s1
      replace t0 := cell_kept2 hkx t0
      replace t1 := cell_kept2 hkx t1
      replace t2 := cell_kept2 hkx t2
      replace t3 := cell_kept2 hkx t3
      replace t4 := cell_kept2 hkx t4
      replace t5 := cell_kept2 hkx t5
      replace cg := cell_kept2 hkx cg
      generalize wr.heap.size = xb at hbx ⊢
      generalize wr.alloc (.cells #[.int .i64 ser, .int .i64 sgn, .int .i64 rat] 43) = w2 at hbx hkx s1 t0 t1 t2 t3 t4 t5 cg ⊢
      have x0 : w2.cell? ⟨xb, 0, none⟩ = some (.int .i64 ser) := by rw [cell_of_block hbx]; rfl
      have x1 : w2.cell? ⟨xb, 1, none⟩ = some (.int .i64 sgn) := by rw [cell_of_block hbx]; rfl
      have x2 : w2.cell? ⟨xb, 2, none⟩ = some (.int .i64 rat) := by rw [cell_of_block hbx]; rfl
      have Hkx2 := Lib.hid hkx
      clear hbx d0 d1 d2 hkx
      have Hs1 := Lib.hid s1
      have Hx0 := Lib.hid x0
      have Hx1 := Lib.hid x1
      have Hx2 := Lib.hid x2
      have Ht0 := Lib.hid t0
      have Ht1 := Lib.hid t1
      have Ht2 := Lib.hid t2
      have Ht3 := Lib.hid t3
      have Ht4 := Lib.hid t4
      have Ht5 := Lib.hid t5
      have Hcg := Lib.hid cg
      clear s1 x0 x1 x2 t0 t1 t2 t3 t4 t5 cg
      refine wp_region_vals (by kernel_rfl) (by kernel_rfl) (by kernel_rfl) (by kernel_rfl) (fun _ => True) killPr
        (fun jx => (([.val (.pointer (some ⟨sb, 0, none⟩)), .val (.pointer (some ⟨sb, 0, none⟩)), .val (.pointer (some ⟨sb, 0, none⟩)), .val (.pointer (some ⟨sb, 1, none⟩)), .val (.slice rp rows.length rc), .val (.agg #[.int .i64 ser, .int .i64 sgn, .int .i64 rat]), .val (.slice (some ⟨tb, tof, none⟩) n tc), .val (.int .i64 j), .val (.pointer (some ⟨tb, tof + j * 6, none⟩)), .val (.agg #[.int .i64 bid, .int .i64 bq, .int .i64 ask, .int .i64 aq, .bool bc, .bool ac]), .val (.slice (some ⟨gb, go', none⟩) n gc), .val (.int .i64 j), .val (.pointer (some ⟨gb, go' + j, none⟩)), .val (.slice (some ⟨gb1, go1, none⟩) g.length gc1), .fr 2 1 L.length (L.map intC), .vw (fun v w' => ∃ p cap b, v = .slice (some ⟨b, 0, none⟩) 1 1 ∧ w'.heap[b]? = some (.cells #[.slice p L.length cap] 30 (0, 0)) ∧ Fr 2 1 (L.map intC) w2 p L.length cap w'), .vw (fun v w' => ∃ A' C' p6 c6, v = .slice p6 (rows.length + 1) c6 ∧ PrS W1 sb lb lo lc n (rows ++ [L]) A' C' p6 c6 (w'.setCell ⟨sb, 1, none⟩ v) ∧ w'.heap[sb]? = some (.cells #[.slice (some ⟨lb, lo, none⟩) n lc, .slice rp rows.length rc, .slice none 0 0] 69 (0, 0))), .val (.pointer (some ⟨sb, 0, none⟩)), .val (.pointer (some ⟨sb, 1, none⟩)), .wd (fun w' => ∃ A' C' p6 c6, PrS W1 sb lb lo lc n (rows ++ [L]) A' C' p6 c6 w')] : List Kd).getD jx .any).is w2)
        (fun j w' => j = 16 → Kept (fun _ => False) w2 w') (trivial) (fun j _ => (Kept.refl _ w2).drew) ?_ ?_
      · refine ⟨?_, ?_, ?_, ?_, ?_, ?_, ?_, ?_, ?_, ?_, ?_, ?_, ?_, ?_, ?_, ?_, ?_, ?_, ?_, ?_, trivial⟩
        all_goals (intro act w' hC hS hV hF)
        · refine ⟨rfl, fun K hK => ?_⟩
          have e1 : _ = Value.pointer (some ⟨sb, 0, none⟩) := slotE (hF 10 (by kernel_rfl))
          clear hV hF hS
          go_simp
          exact hK _ _ rfl hC (fun _ _ _ _ _ h => h) (fun _ _ _ h => h)
        · refine ⟨rfl, fun K hK => ?_⟩
          have e1 : _ = Value.pointer (some ⟨sb, 0, none⟩) := slotE (hF 10 (by kernel_rfl))
          clear hV hF hS
          go_simp
          exact hK _ _ rfl hC (fun _ _ _ _ _ h => h) (fun _ _ _ h => h)
        · refine ⟨rfl, fun K hK => ?_⟩
          obtain ⟨_, rfl, e0⟩ := hV 1 (by kernel_rfl) (by kernel_rfl)
          have e0 := slotE (e0 _ rfl)
          clear hV hF hS
          go_simp
          exact hK _ _ rfl hC (fun _ _ _ _ _ h => h) (fun _ _ _ h => h)
        · refine ⟨rfl, fun K hK => ?_⟩
          obtain ⟨_, rfl, e0⟩ := hV 2 (by kernel_rfl) (by kernel_rfl)
          have e0 := slotE (e0 _ rfl)
          clear hV hF hS
          go_simp
          exact hK _ _ rfl hC (fun _ _ _ _ _ h => h) (fun _ _ _ h => h)
        · refine ⟨rfl, fun K hK => ?_⟩
          obtain ⟨_, rfl, e0⟩ := hV 3 (by kernel_rfl) (by kernel_rfl)
          have e0 := slotE (e0 _ rfl)
          have hk2 := hS 16 (by kernel_rfl) rfl
          have q1 := cell_kept2 hk2 Hs1.out
          clear hV hF hS hk2
          go_simp
          exact hK _ _ rfl hC (fun _ _ _ _ _ h => h) (fun _ _ _ h => h)
        · refine ⟨rfl, fun K hK => ?_⟩
          have f0 : _ = Value.pointer (some ⟨xb, 0, none⟩) := slotE (hF 12 (by kernel_rfl))
          have hk2 := hS 16 (by kernel_rfl) rfl
          have q0 := cell_kept2 hk2 Hx0.out
          have q1 := cell_kept2 hk2 Hx1.out
          have q2 := cell_kept2 hk2 Hx2.out
          clear hV hF hS hk2
          go_simp
          exact hK _ _ rfl hC (fun _ _ _ _ _ h => h) (fun _ _ _ h => h)
        · refine ⟨rfl, fun K hK => ?_⟩
          have e1 : _ = Value.slice (some ⟨tb, tof, none⟩) n tc := slotE (hF 1 (by kernel_rfl))
          clear hV hF hS
          go_simp
          exact hK _ _ rfl hC (fun _ _ _ _ _ h => h) (fun _ _ _ h => h)
        · refine ⟨rfl, fun K hK => ?_⟩
          have e1 : _ = Value.int .i64 j := slotE (hF 11 (by kernel_rfl))
          clear hV hF hS
          go_simp
          exact hK _ _ rfl hC (fun _ _ _ _ _ h => h) (fun _ _ _ h => h)
        · refine ⟨rfl, fun K hK => ?_⟩
          obtain ⟨_, rfl, e0⟩ := hV 6 (by kernel_rfl) (by kernel_rfl)
          have e0 := slotE (e0 _ rfl)
          obtain ⟨_, rfl, e1⟩ := hV 7 (by kernel_rfl) (by kernel_rfl)
          have e1 := slotE (e1 _ rfl)
          clear hV hF hS
          go_simp
          exact hK _ _ rfl hC (fun _ _ _ _ _ h => h) (fun _ _ _ h => h)
        · refine ⟨rfl, fun K hK => ?_⟩
          obtain ⟨_, rfl, e0⟩ := hV 8 (by kernel_rfl) (by kernel_rfl)
          have e0 := slotE (e0 _ rfl)
          have hk2 := hS 16 (by kernel_rfl) rfl
          have q0 := cell_kept2 hk2 Ht0.out
          have q1 := cell_kept2 hk2 Ht1.out
          have q2 := cell_kept2 hk2 Ht2.out
          have q3 := cell_kept2 hk2 Ht3.out
          have q4 := cell_kept2 hk2 Ht4.out
          have q5 := cell_kept2 hk2 Ht5.out
          clear hV hF hS hk2
          go_simp
          exact hK _ _ rfl hC (fun _ _ _ _ _ h => h) (fun _ _ _ h => h)
        · refine ⟨rfl, fun K hK => ?_⟩
          have e1 : _ = Value.slice (some ⟨gb, go', none⟩) n gc := slotE (hF 2 (by kernel_rfl))
          clear hV hF hS
          go_simp
          exact hK _ _ rfl hC (fun _ _ _ _ _ h => h) (fun _ _ _ h => h)
        · refine ⟨rfl, fun K hK => ?_⟩
          have e1 : _ = Value.int .i64 j := slotE (hF 11 (by kernel_rfl))
          clear hV hF hS
          go_simp
          exact hK _ _ rfl hC (fun _ _ _ _ _ h => h) (fun _ _ _ h => h)
        · refine ⟨rfl, fun K hK => ?_⟩
          obtain ⟨_, rfl, e0⟩ := hV 10 (by kernel_rfl) (by kernel_rfl)
          have e0 := slotE (e0 _ rfl)
          obtain ⟨_, rfl, e1⟩ := hV 11 (by kernel_rfl) (by kernel_rfl)
          have e1 := slotE (e1 _ rfl)
          clear hV hF hS
          go_simp
          exact hK _ _ rfl hC (fun _ _ _ _ _ h => h) (fun _ _ _ h => h)
        · refine ⟨rfl, fun K hK => ?_⟩
          obtain ⟨_, rfl, e0⟩ := hV 12 (by kernel_rfl) (by kernel_rfl)
          have e0 := slotE (e0 _ rfl)
          have hk2 := hS 16 (by kernel_rfl) rfl
          have q0 := cell_kept2 hk2 Hcg.out
          clear hV hF hS hk2
          go_simp
          exact hK _ _ rfl hC (fun _ _ _ _ _ h => h) (fun _ _ _ h => h)
        · refine ⟨rfl, fun K hK => ?_⟩
          obtain ⟨_, rfl, e0⟩ := hV 5 (by kernel_rfl) (by kernel_rfl)
          have e0 := slotE (e0 _ rfl)
          obtain ⟨_, rfl, e1⟩ := hV 9 (by kernel_rfl) (by kernel_rfl)
          have e1 := slotE (e1 _ rfl)
          obtain ⟨_, rfl, e2⟩ := hV 13 (by kernel_rfl) (by kernel_rfl)
          have e2 := slotE (e2 _ rfl)
          have hk2 := hS 16 (by kernel_rfl) rfl
          clear hV hF hS
          go_simp
          refine (Hmv.out _ (Hkx2.out.trans hk2)).mono ?_
          rintro e w5 ⟨p, cap, rfl, hF⟩
          exact hK _ _ ⟨p, cap, rfl, hF.from hk2⟩ trivial (fun j u hj hk hr h => Kd.mono hF.k (Kd.rest (kills := killPr) rfl (by kernel_rfl) hj hk hr) h) (fun j hj hr h e => (h e).trans hF.k)
        · refine ⟨rfl, fun K hK => ?_⟩
          obtain ⟨_, ⟨p, cap, rfl, hF5⟩, e0⟩ := hV 14 (by kernel_rfl) (by kernel_rfl)
          have e0 := slotE (e0 _ rfl)
          have HF5 := Lib.hid hF5
          clear hV hF hS hF5
          go_simp
          exact hK _ _ ⟨p, cap, _, rfl, block_alloc_new _ _, HF5.out.alloc _⟩ trivial (fun j u hj hk hr h => Kd.mono ((Kept.refl _ _).alloc _) (Kd.rest (kills := killPr) rfl (by kernel_rfl) hj hk hr) h) (fun j hj hr h e => (h e).alloc _)
        · refine ⟨rfl, fun K hK => ?_⟩
          obtain ⟨_, rfl, e0⟩ := hV 4 (by kernel_rfl) (by kernel_rfl)
          obtain ⟨_, ⟨p, cap, b, rfl, hb, hF5⟩, e1⟩ := hV 15 (by kernel_rfl) (by kernel_rfl)
          have hk2 := hS 16 (by kernel_rfl) rfl
          refine wp_append_any (.tmp 44) (.tmp 55) 67 rfl 30 i0 _ 1 24 Try.underlying67 hi0 hz0 hz1 hz2 rfl (by decide) rp rows.length rc (rowsV A C rows) (e0 _ rfl) (HP.out.sl.kept fun t ht => ((Hkx2.out.trans hk2).block _ (HP.out.sl.lt t ht) (fun h => h))) (some ⟨b, 0, none⟩) 1 1 [.slice p L.length cap] (e1 _ rfl) (SlAt.one hb rfl) (by intro u hu; simp at hu; subst hu; rfl) (by have := Hrl.out; unfold maxLen; omega) (by have := Hrl.out; omega) ?_
          intro p6 c6 w6 hsl6 hg6 hb6
          have hN := PrS.app HP.out (Hkx2.out.trans hk2) hF5.sl (fun t ht => Nat.le_trans Hkx2.out.size (hF5.nw t ht)) (Kept.refl _ _) hsl6 hg6 hb6
          have hq6 := block_grown hg6 (((Hkx2.out.trans hk2).block sb (lt_of_block HP.out.blk) (fun h => h)).trans HP.out.blk) HP.out.ne
          exact hK _ _ ⟨_, _, p6, c6, rfl, hN, hq6⟩ trivial (fun j u hj hk hr h => Kd.stay (Kd.rest (kills := killPr) rfl (by kernel_rfl) hj hk hr) h) (fun j hj hr h e => absurd e hj)
        · refine ⟨rfl, fun K hK => ?_⟩
          obtain ⟨_, rfl, e0⟩ := hV 0 (by kernel_rfl) (by kernel_rfl)
          have e0 := slotE (e0 _ rfl)
          clear hV hF hS
          go_simp
          exact hK _ _ rfl hC (fun _ _ _ _ _ h => h) (fun _ _ _ h => h)
        · refine ⟨rfl, fun K hK => ?_⟩
          obtain ⟨_, rfl, e0⟩ := hV 17 (by kernel_rfl) (by kernel_rfl)
          have e0 := slotE (e0 _ rfl)
          clear hV hF hS
          go_simp
          exact hK _ _ rfl hC (fun _ _ _ _ _ h => h) (fun _ _ _ h => h)
        · refine ⟨rfl, fun K hK => ?_⟩
          obtain ⟨_, ⟨A', C', p6, c6, rfl, hN, hq6⟩, e0⟩ := hV 16 (by kernel_rfl) (by kernel_rfl)
          have e0 := slotE (e0 _ rfl)
          obtain ⟨_, rfl, e1⟩ := hV 18 (by kernel_rfl) (by kernel_rfl)
          have e1 := slotE (e1 _ rfl)
          have q6 : w'.cell? ⟨sb, 1, none⟩ = some (.slice rp rows.length rc) := by rw [cell_of_block hq6]; rfl
          have f6 := free_of_block hq6
          have HN := Lib.hid hN
          clear hV hF hS hN hq6
          go_simp
          exact hK undef _ ⟨A', C', p6, c6, HN.out⟩ trivial (fun j u hj hk hr h => Kd.stay (Kd.rest (kills := killPr) rfl (by kernel_rfl) hj hk hr) h) (fun j hj hr h e => by subst e; exact tf_absurd hr (by kernel_rfl))
      · intro vs wx hl hC hV
        replace hl : vs.length = 20 := hl
        obtain ⟨v0, vs, rfl, hl0⟩ := cons_of hl
        obtain ⟨v1, vs, rfl, hl1⟩ := cons_of hl0
        obtain ⟨v2, vs, rfl, hl2⟩ := cons_of hl1
        obtain ⟨v3, vs, rfl, hl3⟩ := cons_of hl2
        obtain ⟨v4, vs, rfl, hl4⟩ := cons_of hl3
        obtain ⟨v5, vs, rfl, hl5⟩ := cons_of hl4
        obtain ⟨v6, vs, rfl, hl6⟩ := cons_of hl5
        obtain ⟨v7, vs, rfl, hl7⟩ := cons_of hl6
        obtain ⟨v8, vs, rfl, hl8⟩ := cons_of hl7
        obtain ⟨v9, vs, rfl, hl9⟩ := cons_of hl8
        obtain ⟨v10, vs, rfl, hl10⟩ := cons_of hl9
        obtain ⟨v11, vs, rfl, hl11⟩ := cons_of hl10
        obtain ⟨v12, vs, rfl, hl12⟩ := cons_of hl11
        obtain ⟨v13, vs, rfl, hl13⟩ := cons_of hl12
        obtain ⟨v14, vs, rfl, hl14⟩ := cons_of hl13
        obtain ⟨v15, vs, rfl, hl15⟩ := cons_of hl14
        obtain ⟨v16, vs, rfl, hl16⟩ := cons_of hl15
        obtain ⟨v17, vs, rfl, hl17⟩ := cons_of hl16
        obtain ⟨v18, vs, rfl, hl18⟩ := cons_of hl17
        obtain ⟨v19, vs, rfl, hl19⟩ := cons_of hl18
        obtain rfl := nil_of hl19
        obtain ⟨A', C', p6, c6, hN⟩ := hV 19 (by decide) (by decide)
        clear hV
        simp only [dstsOf, List.map_cons, List.map_nil, puts, Act.put, List.setIfInBounds_toArray, List.set_cons_succ, List.set_cons_zero, Exit.then]
        have HN := Lib.hid hN
        clear hN
        go_wp2
        exact ⟨⟨j + 1, A', C', p6, c6, hlt, by push_cast; rfl, by rw [Hrs.out]; exact HN.out⟩, by simp [intOf]; omega⟩
    · obtain rfl : j = n := by omega
      have hrl := rowsP_length ls ts gs j
      have hrowat : ∀ k, k < j → rowAt (rowsP ls ts gs j) k = movesP (lgAt ls k).sgn (tpAt ts k) (tbAt gs k) := fun k hk => rowsP_at hk
      have hrow : ∀ k, k < j → (rowAt (rowsP ls ts gs j) k).length ≤ 1000 := fun k hk => by rw [hrowat k hk]; exact Nat.le_trans (moves_len _ _ _ 13 _) (by omega)
      have hpr : ∀ k, k < j → GoodP (rowAt (rowsP ls ts gs j) k) := fun k hk => rowsP_goodP hk (Hgg.out k (by have := Hn.out; have := Hlg.out; omega))
      obtain ⟨rows, hrows⟩ : ∃ rows, rowsP ls ts gs j = rows := ⟨_, rfl⟩
      rw [hrows] at hP hrl hrow hpr
      have Hrows := Lib.hid hrows
      clear hrows
      clear hrowat
      have hsl := hP.sl
      rw [hrl] at hsl
      have hsbW := hP.old
      obtain ⟨rb, ro, hrp⟩ : ∃ rb ro, rp = some ⟨rb, ro, none⟩ := by
        rcases hsl.2.2 with ⟨_, h⟩ | ⟨t, o, _, h, _⟩
        · have := hsl.2.1; omega
        · exact ⟨t, o, h⟩
      subst hrp
      have hrbn := hP.newr _ rfl
      have hlw : ∀ b, b < w.heap.size → b ≠ sb ∧ b < W1.heap.size := fun b hb => by have h1 := Hsw.out; have h2 := Hkx.out.size; omega
      have hWr := hP.kept.size
      have hL : ∀ w', Kept (fun b => b = sb) wr w' → LgAt w' lb lo ls := fun w' k => by
        obtain ⟨c0, _⟩ := Hs.out 0 (by have := Hn.out; omega)
        obtain ⟨g1, g2⟩ := hlw lb (World.block_lt_of_cell? _ _ c0)
        exact ((Hs.out.kept Hkx.out).other g1 g2 hP.kept).other g1 (by omega) k
      have hR : ∀ w', Kept (fun b => b = sb) wr w' → RwA A C w' rb ro rows := fun w' k i hi => by
        rw [hrl] at hi
        obtain ⟨h1, h2⟩ := hP.row i (by omega)
        refine ⟨h1.2.1, ?_, ?_⟩
        · rw [World.cell?_of_block (a := ⟨rb, _, none⟩) (w := wr) (k.block rb (hsl.lt _ rfl) (by have : W1.heap.size ≤ rb := hrbn; omega)), hsl.cell (j := i) (by omega)]
          simp [rowsV, hrl, hi]
        · refine h1.ps.other (fun t ht => ⟨?_, h1.lt t ht⟩) k
          have := h2 t ht; omega
      have hS : Sst wr sb lb lo lc rb ro rc j [] wr := ⟨⟨none, 0, by have h := hP.blk; rw [hrl] at h; exact h, SlAt.nil _ _ _, fun t ht => by cases ht⟩, Kept.refl _ _, by omega⟩
      have hle := leg_any (by omega) hl4 Hn.out hrl Hgd.out hrow hpr hL hR (j - 1) 0 [] net wr (by omega) rfl Hne.out hS
      rw [show ((0 : Nat) : Int) = 0 from rfl] at hle
      have Hle := Lib.hid hle
      have hkw : ∀ w', Kept (fun b => b = sb) wr w' → Kept (fun _ => False) w w' := fun w' k =>
        Hkx.out.trans' (G := fun b => b = sb) (hP.kept.trans k) (fun i hi e => by have := Hsw.out; omega)
      have Hkw := Lib.hid hkw
      clear hle hkw hS hL hR hsl hrow hpr hlw hP hrbn hsbW hWr hrl
      obtain ⟨r, hr⟩ : ∃ r, srchF ls rows j (j - 1) net = r := ⟨_, rfl⟩
      rw [hr] at Hle
      have Hr := Lib.hid hr
      clear hr
      go_wp2_with fail
      refine Hle.out.mono ?_
      rintro e w2 ⟨rfl, xs', hS2, _, _, _, hx⟩
      have Hx := Lib.hid hx
      have Hk2 := Lib.hid (Hkw.out w2 hS2.kept)
      cases r with
      | none =>
        simp only [Option.isSome_none]
        clear hx hS2
        go_wp2
        go_ret2
        exact ⟨Hk2.out, .inl ⟨by rw [Hrows.out]; exact Hr.out, rfl⟩⟩
      | some l =>
        simp only [Option.isSome_some]
        obtain rfl : xs' = l := hx l rfl
        obtain ⟨⟨op, oc, hb2, hsl2, _⟩, _, _⟩ := hS2
        have q2 : w2.cell? ⟨sb, 2, none⟩ = some (.slice op xs'.length oc) := by rw [cell_of_block hb2]; rfl
        have Hsl2 := Lib.hid hsl2
        clear hb2 hsl2 hx
        go_wp2_with fail
        refine (clip_any w2 Hsl2.out.2.1 Hsl2.out.plain).mono ?_
        rintro e w3 ⟨rfl, rfl⟩
        go_wp2
        go_ret2
        refine ⟨Hk2.out, .inr ⟨xs', op, by rw [Hrows.out]; exact Hr.out, rfl, ?_⟩⟩
        obtain ⟨h1, h2, h3⟩ := Hsl2.out
        refine ⟨h1, Nat.le_refl _, ?_⟩
        rcases h3 with ⟨h4, h5⟩ | ⟨t, o, arr, h4, h5, h6, h7⟩
        · exact .inl ⟨h4, by omega⟩
        · exact .inr ⟨t, o, arr, h4, h5, by omega, h7⟩
theorem prices_all {w : World} {la ta ga : Option Addr} {lc tc gc : Nat} {ls : List Lg} {ts : List Tp} {gs : List Tb} (net : Int) (hne : I64 net) (hl : ls.length ≤ maxLen) (htl : ts.length ≤ maxLen) (hgl : gs.length ≤ maxLen) (hcap : ls.length ≤ lc)
    (hgg : GoodG gs) (hs : LgS w la ls) (ht : TpS w ta ts) (hg : TbS w ga gs) :
    Calls Try.prog 11 #[.slice la ls.length lc, .slice ta ts.length tc, .slice ga gs.length gc, .int .i64 net] w (PrPost (pricesP ls ts gs net) w) := by
  by_cases hck : checkB ls = true
  · by_cases h1 : ts.length = ls.length ∧ gs.length = ls.length
    · have hE : pricesP ls ts gs net = srchF ls (rowsP ls ts gs ls.length) ls.length (ls.length - 1) net := by unfold pricesP; rw [if_pos (by simp [hck, h1.1, h1.2])]
      rw [hE, h1.1, h1.2]
      have h2 := (check_good hck).1.1
      rcases hs with rfl | ⟨lb, lo, rfl, hs⟩
      · simp at h2
      rcases ht with rfl | ⟨tb, tof, rfl, ht⟩
      · have := h1.1; simp at this; omega
      rcases hg with rfl | ⟨gb, go', rfl, hg⟩
      · have := h1.2; simp at this; omega
      exact prices_good net hne hck h1.1 h1.2 hcap hgg hs ht hg
    · have hE : pricesP ls ts gs net = none := by unfold pricesP; rw [if_neg (by simp [hck]; omega)]
      rw [hE]
      exact prices_bad net hl htl hgl hcap hs (.inr ⟨hck, by omega⟩)
  · have hck' : checkB ls = false := by simpa using hck
    have hE : pricesP ls ts gs net = none := by unfold pricesP; rw [if_neg (by simp [hck'])]
    rw [hE]
    exact prices_bad net hl htl hgl hcap hs (.inl hck')
end Go.Proofs.Ytgbdnodkbdkaeaa
