/- Alloc: AllocBetween's walk 7. -/
import Derived.Test.YtgbdnodkbdkaeaaBg
namespace Go.Proofs.Ytgbdnodkbdkaeaa
open Go Go.RowKit

theorem Try.info49' : (Try.prog.info? 49).map (fun i => (i.zero, i.size, i.bytes)) = some (some (.slice none 0 0), 1, 24) := by kernel_rfl
def gV (A : Nat → Nat) (n : Nat) : List Value := (List.range n).map fun k => .slice (some ⟨A k, 0, none⟩) 1 1
/-- Tables of one step each, made by the law. -/
structure OnS (W : World) (n : Nat) (gp : Option Addr) (gc : Nat) (A : Nat → Nat) (w : World) : Prop where
  fr : Fr 49 1 (gV A n) W gp n gc w
  blk : ∀ k, k < n → w.heap[A k]? = some (.cells #[.int .i64 1, .int .i64 1] 47 (0, 0))
theorem OnS.nil (W : World) : OnS W 0 none 0 (fun _ => 0) W := ⟨Fr.nil _ _ _, fun k hk => by omega⟩
theorem gV_succ (A : Nat → Nat) (n b : Nat) : gV (upd A n b) (n + 1) = gV A n ++ [.slice (some ⟨b, 0, none⟩) 1 1] := by
  unfold gV
  rw [List.range_succ, List.map_append, List.map_singleton, upd_same]
  congr 1
  refine List.map_congr_left fun k hk => ?_
  rw [upd_other _ _ (by have := List.mem_range.1 hk; omega)]
theorem OnS.app {W w wa w6 : World} {n gc c6 b : Nat} {gp p6 : Option Addr} {A : Nat → Nat} (h : OnS W n gp gc A w) (ka : Kept (fun _ => False) w wa) (hb : wa.heap[b]? = some (.cells #[.int .i64 1, .int .i64 1] 47 (0, 0)))
    (hsl6 : SlAt w6 49 1 p6 (n + 1) c6 (gV A n ++ [.slice (some ⟨b, 0, none⟩) 1 1])) (hg6 : wa.grownBy w6 (gp.map (·.block))) (hb6 : ∀ t, p6 = some t → gp.map (·.block) = some t.block ∨ wa.heap.size ≤ t.block) :
    OnS W (n + 1) p6 c6 (upd A n b) w6 := by
  have hkeep : ∀ a : Nat, wa.heap[a]? = some (Obj.cells #[.int .i64 1, .int .i64 1] 47 (0, 0)) → w6.heap[a]? = some (Obj.cells #[.int .i64 1, .int .i64 1] 47 (0, 0)) := fun a ha => by
    rw [hg6.block a (lt_of_block ha) fun e => ?_]
    · exact ha
    · cases hop : gp with
      | none => rw [hop] at e; cases e
      | some u =>
        rw [hop] at e
        obtain ⟨arr2, hu⟩ := h.fr.sl.blk hop
        have hu2 := (ka.block _ (lt_of_block hu) (fun h => h)).trans hu
        have h3 : a = u.block := by simpa using e
        rw [← h3, ha] at hu2
        cases hu2
  refine ⟨by rw [gV_succ]; exact (h.fr.mono ka).app hsl6 hg6 hb6, fun k hk => ?_⟩
  by_cases e : k = n
  · subst e; rw [upd_same]; exact hkeep _ hb
  · rw [upd_other _ _ e]
    have h1 := h.blk k (by omega)
    exact hkeep _ ((ka.block _ (lt_of_block h1) (fun h => h)).trans h1)
theorem OnS.tabs {W w : World} {n gc : Nat} {gp : Option Addr} {A : Nat → Nat} (h : OnS W n gp gc A w) : TbS w gp (ones n) := by
  rcases Nat.eq_zero_or_pos n with rfl | hn
  · exact .inl rfl
  · rcases h.fr.sl.2.2 with ⟨_, h2⟩ | ⟨t, o, arr, h1, _⟩
    · have := h.fr.sl.2.1; omega
    · subst h1
      refine .inr ⟨t, o, rfl, fun j hj => ?_⟩
      rw [ones_len] at hj
      have h1 := h.blk j hj
      refine ⟨A j, 0, 1, ?_, lt_of_block h1, ?_⟩
      · rw [h.fr.sl.cell (j := j) (by omega), ones_get n j hj]
        simp [gV, hj]
      · rw [ones_get n j hj]; exact one_at h1
def BtRel (n : Nat) (W : World) (gv iv : Value) (wr : World) : Prop := ∃ (i : Nat) (gp : Option Addr) (gc : Nat) (A : Nat → Nat), i ≤ n ∧ iv = .int .i64 i ∧ gv = .slice gp i gc ∧ OnS W i gp gc A wr
def KtRel (n : Nat) (W : World) (iv : Value) (wr : World) : Prop := ∃ i : Nat, i ≤ n ∧ iv = .int .i64 i ∧ Kept (fun _ => False) W wr
set_option maxRecDepth 100000 in
set_option maxHeartbeats 4000000 in
theorem between_any {w : World} {la ta : Option Addr} {lc tc : Nat} {ls : List Lg} {ts : List Tp} (net : Int) (hne : I64 net) (hl : ls.length ≤ maxLen) (htl : ts.length ≤ maxLen) (hcap : ls.length ≤ lc) (hs : LgS w la ls) (ht : TpS w ta ts) :
    Calls Try.prog 7 #[.slice la ls.length lc, .slice ta ts.length tc, .int .i64 net] w (BlPost true w) := by
  obtain ⟨i0, hi0, hz0, hz1, hz2⟩ := info_parts Try.info49'
  have Hs := Lib.hid hs
  have Ht := Lib.hid ht
  have Hne := Lib.hid hne
  have hlm := hl
  have htm := htl
  unfold maxLen at hlm htm
  have Hl := Lib.hid hl
  have Htl := Lib.hid htl
  have Hcap := Lib.hid hcap
  obtain ⟨n, hn⟩ : ∃ n, ls.length = n := ⟨_, rfl⟩
  obtain ⟨m, hm⟩ : ∃ m, ts.length = m := ⟨_, rfl⟩
  have Hn := Lib.hid hn
  have Hm := Lib.hid hm
  rw [hn] at hlm ⊢
  rw [hm] at htm ⊢
  clear hs ht hne hl htl hcap hn hm
  go_enter Try.func7, Try.ntmps7
  go_wp2_with fail
  refine (known_any w).mono ?_
  rintro e w1 ⟨rfl, k1⟩
  by_cases h4 : 4 < n
  · go_wp2
    go_ret
    exact ⟨rfl, k1⟩
  have hfew := few_any (w := w1) (tc := tc) Htl.out (Ht.out.kept k1)
  have hck := fun (W : World) (k : Kept (fun _ => False) w W) => check_all (cap := lc) Hl.out Hcap.out (Hs.out.kept k)
  rw [Hm.out] at hfew
  rw [Hn.out] at hck
  have Hck := Lib.hid hck
  obtain ⟨f, hf⟩ : ∃ f, fewB ts = f := ⟨_, rfl⟩
  rw [hf] at hfew
  have Hfew := Lib.hid hfew
  have Hf := Lib.hid hf
  clear hfew hck hf
  have h4' : n ≤ 4 := by omega
  clear h4
  go_wp2_with fail
  refine Hfew.out.mono ?_
  rintro e w2 ⟨rfl, k2⟩
  have hk2 := k1.trans k2
  clear Hfew
  cases f with
  | false =>
    go_wp2
    go_ret
    exact ⟨rfl, hk2⟩
  | true =>
    obtain ⟨g, hg⟩ : ∃ g, checkB ls = g := ⟨_, rfl⟩
    have hck2 := Lib.hid (Hck.out w2 hk2)
    rw [hg] at hck2
    have Hg := Lib.hid hg
    clear hg
    go_wp2_with fail
    refine hck2.out.mono ?_
    rintro e w3 ⟨k3, ⟨rfl, rfl⟩ | ⟨rfl, fa, rfl⟩⟩
    rotate_left
    · have hk3 := hk2.trans k3
      go_wp2
      go_ret
      exact ⟨rfl, hk3⟩
    have hk3 := hk2.trans k3
    have hmf : m ≤ 10 := by have := (few_is Hf.out).1; have := Hm.out; omega
    clear hck2 k3 Hck k1 k2 hk2
    have Hk3 := Lib.hid hk3
    clear hk3
    go_wp2_with fail
    go_loopw [7, 8] (fun gv iv wr => BtRel m w3 gv iv wr) (fun _ iv _ => m - (intOf iv).toNat)
    case atStart => exact ⟨0, none, 0, fun _ => 0, Nat.zero_le _, rfl, rfl, OnS.nil _⟩
    case round =>
      obtain ⟨i, gp, gc, A, hi, rfl, rfl, hO⟩ := hrel
      by_cases hlt : i < m
      · have HO := Lib.hid hO
        clear hO
        go_wp2_with (at_builtin; refine wpList_append_any rfl (.tmp 43) (.tmp 46) 24 rfl 49 i0 _ 1 24 Try.underlying24 hi0 hz0 hz1 hz2 rfl (by decide) gp i gc (gV A i) rfl ((HO.out.fr.alloc _).alloc _).sl (some ⟨wr.heap.size + 1, 0, none⟩) 1 1 [.slice (some ⟨wr.heap.size, 0, none⟩) 1 1] rfl (SlAt.one (by have := block_new3 (wr.alloc (.cells #[.int .i64 1, .int .i64 1] 47)) (.cells #[.slice (some ⟨wr.heap.size, 0, none⟩) 1 1] 49); rwa [show (wr.alloc (.cells #[.int .i64 1, .int .i64 1] 47)).heap.size = wr.heap.size + 1 by simp] at this) rfl) (by intro u hu; simp at hu; subst hu; rfl) (by unfold maxLen; omega) (by omega) ?_; intro p6 c6 w6 hsl6 hg6 hb6; have HN := Lib.hid (HO.out.app (((Kept.refl _ wr).alloc _).alloc _) (block_alloc (block_new3 wr _)) hsl6 hg6 hb6); clear hsl6 hg6 hb6)
        exact ⟨⟨i + 1, p6, c6, _, hlt, by push_cast; rfl, rfl, HN.out⟩, by simp [intOf]; omega⟩
      · obtain rfl : i = m := by omega
        have hkr := Hk3.out.trans hO.fr.k
        have hpr := prices_all (w := wr) (la := la) (ta := ta) (ga := gp) (lc := lc) (tc := tc) (gc := gc) (ls := ls) (ts := ts) (gs := ones i) net Hne.out Hl.out Htl.out (by rw [ones_len]; unfold maxLen; omega) Hcap.out (good_ones i) (Hs.out.kept hkr) (Ht.out.kept hkr) hO.tabs
        rw [Hn.out, Hm.out, ones_len] at hpr
        obtain ⟨r, hr⟩ : ∃ r, pricesP ls ts (ones i) net = r := ⟨_, rfl⟩
        rw [hr] at hpr
        have Hpr := Lib.hid hpr
        have Hr := Lib.hid hr
        have Hkr := Lib.hid hkr
        clear hpr hr hkr hO
        go_wp2_with fail
        refine Hpr.out.mono ?_
        rintro e w4 ⟨k4, ⟨rfl, rfl⟩ | ⟨l, pa, rfl, rfl, hsl⟩⟩
        · have hk4 := Hkr.out.trans k4
          go_wp2
          go_ret
          exact ⟨rfl, hk4⟩
        obtain ⟨c1, c2, c3, c4, c5, c6⟩ := prices_sound (good_ones i) Hne.out Hr.out
        have hin : ∀ j, j < ls.length → insideB (tpAt ts j) (psAt l j) = true := fun j hj => (may_on (c6 j hj)).2
        obtain ⟨p1, hp1⟩ := tops_there c1 c2 hin 1
        obtain ⟨p2, hp2⟩ := tops_there c1 c2 hin 2
        obtain ⟨b1, b2⟩ := between hin c4 hp1 hp2
        rw [c5] at b1 b2
        have l1 := (tops_sound hp1).2.2.1
        have l2 := (tops_sound hp2).2.2.1
        have n2 := (check_good c1).1.1
        obtain ⟨pb, po, rfl, hps⟩ := hsl.ps.at (by omega)
        have hk4 := Hkr.out.trans k4
        obtain rfl : n = i := by rw [← Hn.out, ← Hm.out]; exact c2.symm
        have hll : l.length = n := by rw [c4]; exact Hn.out
        have hpg : GoodP l := fun j hj => by
          have h3 := c6 j (by omega)
          have h2 : onT (tbAt (ones n) j) (psAt l j) = true := (may_on h3).1
          rw [ones_get n j (by omega), on1] at h2
          simp only [Bool.and_eq_true, decide_eq_true_eq] at h2
          omega
        have hlg : LgS w la ls := Hs.out
        have htp : TpS w ta ts := Ht.out
        rcases hlg with h0 | ⟨lb, lo, rfl, hlg⟩
        · rw [h0] at n2; simp at n2
        rcases htp with h0 | ⟨tb, tof, rfl, htp⟩
        · rw [h0] at c2; simp at c2; omega
        have hT : Hid (∀ (side : Int) (p : List Int) (W : World), topsP ls ts side = some p → Kept (fun _ => False) w W → Calls Try.prog 17 #[.slice (some ⟨lb, lo, none⟩) n lc, .slice (some ⟨tb, tof, none⟩) n tc, .int .i64 side] W (PrPost (some p) W)) := fun side p W hp k => by
          have := tops_all (w := W) (la := some ⟨lb, lo, none⟩) (ta := some ⟨tb, tof, none⟩) (lc := lc) (tc := tc) side Hl.out Htl.out Hcap.out (.inr ⟨lb, lo, rfl, hlg.kept k⟩) (.inr ⟨tb, tof, rfl, htp.kept k⟩)
          rw [hp, Hn.out, Hm.out] at this; exact this
        have hN : Hid (∀ (p : List Int) (b o c : Nat) (W : World), GoodP p → p.length = n → PsAt W b o p → Kept (fun _ => False) w W → Calls Try.prog 18 #[.slice (some ⟨lb, lo, none⟩) n lc, .slice (some ⟨b, o, none⟩) n c] W (NtPost (netF ls p ls.length) 0 W)) := fun p b o c W hgp hpl hps k => by
          have := net_good (cap := lc) (pcap := c) c1 (by rw [Hn.out]; exact hpl) hgp Hcap.out (hlg.kept k) hps
          rw [Hn.out] at this ⊢; exact this
        have Hps := Lib.hid hps
        have Hpg := Lib.hid hpg
        have Hp1 := Lib.hid hp1
        have Hp2 := Lib.hid hp2
        have Hg1 := Lib.hid (tops_goodP Hf.out hp1)
        have Hg2 := Lib.hid (tops_goodP Hf.out hp2)
        have C5 := Lib.hid c5
        have C6 := Lib.hid c6
        have Htp := Lib.hid htp
        have L1 : Hid (p1.length = n) := by show _ = _; rw [l1]; exact Hn.out
        have L2 : Hid (p2.length = n) := by show _ = _; rw [l2]; exact Hn.out
        have Hll := Lib.hid hll
        have hn2 : 2 ≤ n := by rw [← Hn.out]; exact n2
        rw [hll]
        clear c1 c2 c3 c4 c5 c6 hin hp1 hp2 l1 l2 n2 hsl hps k4 hll hpg hlg htp Hs Ht Hpr Hr Hkr
        go_wp2_with fail
        refine (hT.out 1 p1 w4 Hp1.out hk4).mono ?_
        rintro e w5 ⟨k5, ⟨h, _⟩ | ⟨q, a1, h, rfl, hs1⟩⟩
        · cases h
        obtain rfl : p1 = q := by simpa using h
        obtain ⟨pb1, po1, rfl, hps1⟩ := hs1.ps.at (by have := L1.out; omega)
        have hk5 := hk4.trans k5
        have Hps1 := Lib.hid hps1
        have Hps5 := Lib.hid (Hps.out.kept k5)
        rw [L1.out]
        clear h hs1 hps1 Hps k5 hk4
        go_wp2_with fail
        refine (hT.out 2 p2 w5 Hp2.out hk5).mono ?_
        rintro e w6 ⟨k6, ⟨h, _⟩ | ⟨q, a2, h, rfl, hs2⟩⟩
        · cases h
        obtain rfl : p2 = q := by simpa using h
        obtain ⟨pb2, po2, rfl, hps2⟩ := hs2.ps.at (by have := L2.out; omega)
        have hk6 := hk5.trans k6
        have Hps2 := Lib.hid hps2
        have Hps6 := Lib.hid (Hps5.out.kept k6)
        have Hps16 := Lib.hid (Hps1.out.kept k6)
        rw [L2.out]
        clear h hs2 hps2 Hps5 Hps1 k6 hk5 hT
        go_wp2_with fail
        refine (hN.out p1 pb1 po1 n w6 Hg1.out L1.out Hps16.out hk6).mono ?_
        rintro e w7 ⟨rfl, k7⟩
        have hk7 := hk6.trans k7
        have Hps7 := Lib.hid (Hps6.out.kept k7)
        have Hps27 := Lib.hid (Hps2.out.kept k7)
        clear k7 hk6 Hps6 Hps2 Hps16
        generalize netF ls p1 ls.length = z1 at b1 ⊢
        go_wp2_with fail
        refine (hN.out p2 pb2 po2 n w7 Hg2.out L2.out Hps27.out hk7).mono ?_
        rintro e w8 ⟨rfl, k8⟩
        have hk8 := hk7.trans k8
        have Hps8 := Lib.hid (Hps7.out.kept k8)
        clear k8 hk7 Hps7 Hps27
        generalize netF ls p2 ls.length = z2 at b2 ⊢
        go_wp2_with fail
        refine (hN.out l pb po n w8 Hpg.out Hll.out Hps8.out hk8).mono ?_
        rintro e w9 ⟨rfl, k9⟩
        have hk9 := hk8.trans k9
        have Hps9 := Lib.hid (Hps8.out.kept k9)
        rw [C5.out]
        have Hk9 := Lib.hid hk9
        clear k9 hk8 Hps8 hN hk9
        go_wp2_with fail
        go_loopw [21] (fun iv wr => KtRel n w9 iv wr) (fun iv _ => n - (intOf iv).toNat)
        case atStart => exact ⟨0, Nat.zero_le _, rfl, Kept.refl _ _⟩
        case round =>
          obtain ⟨k, hkn, rfl, hkk⟩ := hrel
          by_cases hlk : k < n
          · have q1 : (0 : Int) ≤ (k : Int) := by omega
            have q2 : (k : Int) < (n : Int) := by omega
            have cp := (Hps9.out.kept hkk) k (by have := Hll.out; omega)
            obtain ⟨t0, t1, t2, t3, t4, t5⟩ := (Htp.out.kept (Hk9.out.trans hkk)) k (by have := Hm.out; omega)
            have hmy := C6.out k (by have := Hn.out; omega)
            obtain ⟨⟨bid, bq, ask, aq, bc, ac⟩, htt⟩ : ∃ t, tpAt ts k = t := ⟨_, rfl⟩
            obtain ⟨p, hp⟩ : ∃ p, psAt l k = p := ⟨_, rfl⟩
            rw [htt] at t0 t1 t2 t3 t4 t5 hmy
            rw [hp] at cp hmy
            simp only at t0 t2 t4 t5
            unfold mayB at hmy
            simp only [Bool.and_eq_true] at hmy
            obtain ⟨⟨_, m1⟩, m2⟩ := hmy
            have hcs : (ac = false ∧ bc = false) ∨ (ac = false ∧ bc = true ∧ bid < p) ∨ (ac = true ∧ p < ask ∧ bc = false) ∨ (ac = true ∧ p < ask ∧ bc = true ∧ bid < p) := by
              cases ac <;> cases bc <;> simp at m1 m2 ⊢ <;> omega
            clear m1 m2 htt hp t1 t3
            rcases hcs with ⟨rfl, rfl⟩ | ⟨rfl, rfl, e1⟩ | ⟨rfl, e1, rfl⟩ | ⟨rfl, e1, rfl, e2⟩
            all_goals
              try have d1 : decide (ask ≤ p) = false := decide_eq_false (by omega)
              try have d2 : decide (p ≤ bid) = false := decide_eq_false (by omega)
              go_wp2_with fail
              go_quiet (fail)
              go_wp2
              exact ⟨⟨k + 1, hlk, by push_cast; rfl, hkk.drewN _⟩, by simp [intOf]; omega⟩
          · obtain rfl : k = n := by omega
            have hk10 := Hk9.out.trans hkk
            go_wp2
            go_ret
            exact ⟨rfl, hk10⟩
end Go.Proofs.Ytgbdnodkbdkaeaa
