/- Alloc: AllocAny's walk 3. -/
import Derived.Test.YtgbdnodkbdkaeaaBs
import Derived.Test.YtgbdnodkbdkaeaaBo
namespace Go.Proofs.Ytgbdnodkbdkaeaa
open Go Go.RowKit

theorem ralloc_all {w : World} {la ta ga : Option Addr} {lc tc gc : Nat} {ls : List Lg} {ts : List Tp} {gs : List Tb} (net : Int) (hl : ls.length ≤ 10) (htl : ts.length ≤ maxLen) (hgl : gs.length ≤ maxLen) (hf : fewB ts = true)
    (hgg : GoodG gs) (hs : LgS w la ls) (ht : TpS w ta ts) (hg : TbS w ga gs) :
    Calls Try.prog 12 #[.slice la ls.length lc, .slice ta ts.length tc, .slice ga gs.length gc, .int .i64 net] w (ArPost (allocR ls ts gs net) w) := by
  have hlm : ls.length ≤ maxLen := by unfold maxLen; omega
  by_cases hck : checkB ls = true
  · by_cases h : ts.length = ls.length ∧ gs.length = ls.length ∧ -16000000 ≤ net ∧ net ≤ 16000000
    · obtain ⟨h1, h2, h3, h4⟩ := h
      have h0 := (check_good hck).1.1
      rw [h1, h2]
      rcases hs with rfl | ⟨lb, lo, rfl, hs⟩
      · simp at h0
      rcases ht with rfl | ⟨tb, tof, rfl, ht⟩
      · simp at h1; omega
      rcases hg with rfl | ⟨gb, go', rfl, hg⟩
      · simp at h2; omega
      exact ralloc_any net hck h1 h2 h3 h4 hf hgg hs ht hg
    · have hE : allocR ls ts gs net = none := by
        unfold allocR
        rw [if_neg]
        intro h5
        simp only [Bool.and_eq_true, decide_eq_true_eq] at h5
        exact h ⟨h5.1.2.1, h5.1.2.2, h5.2.1.1, h5.2.1.2⟩
      rw [hE]
      exact ralloc_bad net hlm htl hgl hs (.inr ⟨hck, by omega⟩)
  · have hE : allocR ls ts gs net = none := by
      unfold allocR
      rw [if_neg]
      intro h5
      simp only [Bool.and_eq_true] at h5
      exact hck h5.1.1
    rw [hE]
    exact ralloc_bad net hlm htl hgl hs (.inl (by simpa using hck))
theorem mayU_all {ts : List Tp} {gs : List Tb} {ps : List Int} : ∀ (n : Nat), (∀ j, j < n → mayB (tpAt ts j) (tbAt gs j) (psAt ps j) = true) → mayU ts gs ps n = true
  | 0, _ => rfl
  | n + 1, h => by
    show (mayU ts gs ps n && _) = true
    rw [mayU_all n fun j hj => h j (by omega), h n (by omega)]; rfl
theorem right_of {ls : List Lg} {ts : List Tp} {gs : List Tb} {net : Int} {l : List Int} (hg : GoodG gs) (hn : I64 net) (h : pricesP ls ts gs net = some l) : rightB ls ts gs net l = true := by
  obtain ⟨h1, h2, h3, h4, h5, h6⟩ := prices_sound hg hn h
  unfold rightB
  rw [mayU_all _ h6, h1, h2, h3, h4, h5]
  simp
def CmRel (N : Nat) (W : World) (iv : Value) (wr : World) : Prop := ∃ i : Nat, i ≤ N ∧ iv = .int .i64 i ∧ Kept (fun _ => False) W wr
set_option maxRecDepth 100000 in
set_option maxHeartbeats 4000000 in
theorem law_any {w : World} {la ta ga : Option Addr} {lc tc gc : Nat} {ls : List Lg} {ts : List Tp} {gs : List Tb} (net : Int) (hne : I64 net) (hl : ls.length ≤ maxLen) (htl : ts.length ≤ maxLen) (hgl : gs.length ≤ maxLen) (hg24 : gs.length * 24 ≤ reachBytes) (hcap : ls.length ≤ lc)
    (hs : LgS w la ls) (ht : TpS w ta ts) (hg : TaS w ga gs) :
    Calls Try.prog 3 #[.slice la ls.length lc, .slice ta ts.length tc, .slice ga gs.length gc, .int .i64 net] w (BlPost true w) := by
  have Hs := Lib.hid hs
  have Ht := Lib.hid ht
  have Hg := Lib.hid hg
  have Hne := Lib.hid hne
  have hlm := hl
  have htm := htl
  have hgm := hgl
  unfold maxLen at hlm htm hgm
  have Hl := Lib.hid hl
  have Htl := Lib.hid htl
  have Hgl := Lib.hid hgl
  have Hcap := Lib.hid hcap
  have Hg24 := Lib.hid hg24
  obtain ⟨n, hn⟩ : ∃ n, ls.length = n := ⟨_, rfl⟩
  obtain ⟨m, hm⟩ : ∃ m, ts.length = m := ⟨_, rfl⟩
  obtain ⟨G, hG⟩ : ∃ G, gs.length = G := ⟨_, rfl⟩
  have Hn := Lib.hid hn
  have Hm := Lib.hid hm
  have HG := Lib.hid hG
  rw [hn] at hlm ⊢
  rw [hm] at htm ⊢
  rw [hG] at hgm ⊢
  clear hs ht hg hl htl hgl hcap hg24 hn hm hG hne
  go_enter Try.func3, Try.ntmps3
  go_wp2_with fail
  refine (known_any w).mono ?_
  rintro e w1 ⟨rfl, k1⟩
  have hgr := grids_any (c := gc) Hg24.out (Hg.out.kept k1)
  have hfew := fun (W : World) (k : Kept (fun _ => False) w W) => few_any (tc := tc) Htl.out (Ht.out.kept k)
  rw [HG.out] at hgr
  rw [Hm.out] at hfew
  have Hgr := Lib.hid hgr
  have Hfew := Lib.hid hfew
  have K1 := Lib.hid k1
  clear hgr hfew k1
  go_wp2_with fail
  refine Hgr.out.mono ?_
  rintro e w2 ⟨k2, hcs⟩
  have K2 := Lib.hid (K1.out.trans k2)
  have K12 := Lib.hid k2
  clear Hgr k2
  obtain ⟨f, hf⟩ : ∃ f, fewB ts = f := ⟨_, rfl⟩
  have hfw := Lib.hid (Hfew.out w2 K2.out)
  rw [hf] at hfw
  have Hf := Lib.hid hf
  clear hf Hfew
  rcases hcs with ⟨_, rfl⟩ | ⟨hck, op, oc, A, C, rfl, hGd⟩
  · by_cases h10 : 10 < n
    · go_wp2
      go_ret
      exact ⟨rfl, K2.out⟩
    · have h10' : n ≤ 10 := by omega
      clear h10
      go_wp2_with fail
      refine hfw.out.mono ?_
      rintro e w3 ⟨rfl, k3⟩
      have K3 := Lib.hid (K2.out.trans k3)
      clear k3
      cases f
      all_goals
        go_wp2
        go_ret
        exact ⟨rfl, K3.out⟩
  have Hck := Lib.hid hck
  have HGd := Lib.hid hGd
  rw [HG.out]
  clear hck hGd
  by_cases h10 : 10 < n
  · go_wp2
    go_ret
    exact ⟨rfl, K2.out⟩
  have h10' : n ≤ 10 := by omega
  clear h10
  go_wp2_with fail
  refine hfw.out.mono ?_
  rintro e w3 ⟨rfl, k3⟩
  have K3 := Lib.hid (K2.out.trans k3)
  have K23 := Lib.hid k3
  clear k3
  cases f with
  | false =>
    go_wp2
    go_ret
    exact ⟨rfl, K3.out⟩
  | true =>
    by_cases hG10 : 10 < G
    · have d1 : decide ((G : Int) ≤ 10) = false := decide_eq_false (by omega)
      go_wp2
      go_ret
      exact ⟨rfl, K3.out⟩
    have d1 : decide ((G : Int) ≤ 10) = true := decide_eq_true (by omega)
    have hmf : m ≤ 10 := by have := (few_is Hf.out).1; have := Hm.out; omega
    have hgood := chkG_good (gs := gs) Hck.out
    have hP := prices_all (w := w3) (la := la) (ta := ta) (ga := ga) (lc := lc) (tc := tc) (gc := gc) (ls := ls) (ts := ts) (gs := gs) net Hne.out Hl.out Htl.out Hgl.out Hcap.out hgood (Hs.out.kept K3.out) (Ht.out.kept K3.out) ((Hg.out.kept K3.out).tabs hgood)
    obtain ⟨r, hr⟩ : ∃ r, pricesP ls ts gs net = r := ⟨_, rfl⟩
    have hsame : allocR ls ts gs net = r := (alloc_same Hne.out Hf.out Hck.out).trans hr
    rw [hr, Hn.out, Hm.out, HG.out] at hP
    have HP := Lib.hid hP
    have Hr := Lib.hid hr
    have Hsame := Lib.hid hsame
    have Hgood := Lib.hid hgood
    clear hP hr hgood hG10 hsame
    go_wp2_with fail
    refine HP.out.mono ?_
    rintro e w4 ⟨k4, hc4⟩
    obtain ⟨pa, k, b, rfl, hcs⟩ : ∃ (pa : Option Addr) (k : Nat) (b : Bool), e = .returned (.tuple #[.slice pa k k, .bool b]) ∧ ((r = none ∧ pa = none ∧ k = 0 ∧ b = false) ∨ ∃ l, r = some l ∧ k = l.length ∧ b = true ∧ SlAt w4 2 1 pa l.length l.length (l.map intC)) := by
      rcases hc4 with ⟨h1, rfl⟩ | ⟨l, a, h1, rfl, h2⟩
      · exact ⟨none, 0, false, rfl, .inl ⟨h1, rfl, rfl, rfl⟩⟩
      · exact ⟨a, l.length, true, rfl, .inr ⟨l, h1, rfl, rfl, h2⟩⟩
    have Hcs := Lib.hid hcs
    have K4 := Lib.hid (K3.out.trans k4)
    have K24 := Lib.hid (K23.out.trans k4)
    have hO := of13_any (w := w4) (a := la) (c := lc) (xs := ls) (by rw [Hn.out]; exact h10') (Hs.out.kept K4.out)
    rw [Hn.out] at hO
    have HO := Lib.hid hO
    clear hO k4 HP hc4 hcs
    go_wp2_with fail
    refine HO.out.mono ?_
    rintro e w5 ⟨p1, q1, rfl, hF1⟩
    have K5 := Lib.hid (K4.out.trans hF1.k)
    have K25 := Lib.hid (K24.out.trans hF1.k)
    have K45 := Lib.hid hF1.k
    have HF1 := Lib.hid hF1
    have hO2 := of14_any (w := w5) (a := ta) (c := tc) (xs := ts) (by rw [Hm.out]; exact hmf) (Ht.out.kept K5.out)
    rw [Hm.out] at hO2
    have HO2 := Lib.hid hO2
    clear hO2 hF1 HO
    go_wp2_with fail
    refine HO2.out.mono ?_
    rintro e w6 ⟨p2, q2, rfl, hF2⟩
    have K6 := Lib.hid (K5.out.trans hF2.k)
    have K26 := Lib.hid (K25.out.trans hF2.k)
    have K46 := Lib.hid (K45.out.trans hF2.k)
    have hl6 : LgS w6 p1 ls := (SlAt.legs (xs := ls) (by rw [Hn.out]; exact HF1.out.sl)).kept hF2.k
    have ht6 : TpS w6 p2 ts := SlAt.tops (xs := ts) (by rw [Hm.out]; exact hF2.sl)
    have hg6 : TbS w6 op gs := (HGd.out.tabs Hgood.out).kept K26.out
    have hA := ralloc_all (w := w6) (la := p1) (ta := p2) (ga := op) (lc := q1) (tc := q2) (gc := oc) (ls := ls) (ts := ts) (gs := gs) net (by rw [Hn.out]; exact h10') Htl.out Hgl.out Hf.out Hgood.out hl6 ht6 hg6
    rw [Hsame.out, Hn.out, Hm.out, HG.out] at hA
    have HA := Lib.hid hA
    clear hA hl6 ht6 hg6 hF2 HO2 HF1 Hsame
    go_wp2_with fail
    refine HA.out.mono ?_
    rintro e w7 ⟨k7, hc7⟩
    have K7 := Lib.hid (K6.out.trans k7)
    have K27 := Lib.hid (K26.out.trans k7)
    have K47 := Lib.hid (K46.out.trans k7)
    clear k7 HA
    rcases Hcs.out with ⟨rfl, rfl, rfl, rfl⟩ | ⟨l, rfl, rfl, rfl, hsl⟩
    · rcases hc7 with ⟨_, rfl⟩ | ⟨_, _, _, h7, _⟩
      rotate_left
      · cases h7
      clear Hcs
      go_wp2_with fail
      go_loopw [15] (fun iv wr => iv = .int .i64 0 ∧ wr = w7) (fun _ _ => 0)
      case atStart => exact ⟨rfl, rfl⟩
      case round =>
        obtain ⟨rfl, rfl⟩ := hrel
        go_wp2
        go_ret
        exact ⟨rfl, K7.out⟩
    · rcases hc7 with ⟨h7, _⟩ | ⟨l', qa, qc, h7, rfl, hsq⟩
      · cases h7
      obtain rfl : l = l' := by simpa using h7
      have hright := right_of Hgood.out Hne.out Hr.out
      have hsd := prices_sound Hgood.out Hne.out Hr.out
      have hln : l.length = n := hsd.2.2.2.1.trans Hn.out
      have hn2 : 2 ≤ n := by have := (check_good hsd.1).1.1; have := Hn.out; omega
      obtain ⟨pb, po, rfl, hps⟩ := (hsl.ps.kept K47.out).at (by omega)
      obtain ⟨qb, qo, rfl, hqs⟩ := hsq.ps.at (by omega)
      have Hps := Lib.hid hps
      have Hqs := Lib.hid hqs
      have Hright := Lib.hid hright
      have Hln := Lib.hid hln
      rw [hln]
      clear Hcs hsl hsq h7 hright hsd hps hqs hln
      go_wp2_with fail
      go_loopw [15] (fun iv wr => CmRel n w7 iv wr) (fun iv _ => n - (intOf iv).toNat)
      case atStart => exact ⟨0, Nat.zero_le _, rfl, Kept.refl _ _⟩
      case round =>
        obtain ⟨i, hi, rfl, hk⟩ := hrel
        by_cases hlt : i < n
        · have hb2 : (0 : Int) ≤ (i : Int) := by omega
          have hb3 : (i : Int) < (n : Int) := by omega
          have c1 := (Hps.out.kept hk) i (by have := Hln.out; omega)
          have c2 := (Hqs.out.kept hk) i (by have := Hln.out; omega)
          obtain ⟨x, hx⟩ : ∃ x, psAt l i = x := ⟨_, rfl⟩
          rw [hx] at c1 c2
          have hxx : (x != x) = false := by simp
          have Hk := Lib.hid hk
          clear hx hk
          go_upto_region 13 with fail
          go_quiet (fail)
          have HkQ : Hid (Kept (fun _ => False) w7 (wr.drewN nq)) := Hk.out.drewN nq
          generalize wr.drewN nq = wy at HkQ ⊢
          clear c1 c2 Hk
          go_wp2
          exact ⟨⟨i + 1, hlt, by push_cast; rfl, HkQ.out⟩, by simp [intOf]; omega⟩
        · obtain rfl : i = n := by omega
          have K8 := Lib.hid (K7.out.trans hk)
          have K28 := Lib.hid (K27.out.trans hk)
          have Hk := Lib.hid hk
          have hR := right_all (w := wr) (la := la) (ta := ta) (ga := ga) (pa := some ⟨pb, po, none⟩) (lc := lc) (tc := tc) (gc := gc) (pc := i) (ls := ls) (ts := ts) (gs := gs) (ps := l) net (by rw [Hn.out]; exact h10') Htl.out Hgl.out (by rw [Hln.out]; unfold maxLen; omega) Hcap.out Hgood.out (Hs.out.kept K8.out) (Ht.out.kept K8.out) ((Hg.out.kept K8.out).tabs Hgood.out) (.inr ⟨pb, po, rfl, Hps.out.kept Hk.out⟩)
          rw [Hright.out, Hn.out, Hm.out, HG.out, Hln.out] at hR
          have HR := Lib.hid hR
          clear hR hk
          go_wp2_with fail
          refine HR.out.mono ?_
          rintro e w8 ⟨rfl, k8⟩
          have K9 := Lib.hid (K8.out.trans k8)
          have K29 := Lib.hid (K28.out.trans k8)
          have K79 := Lib.hid (Hk.out.trans k8)
          have hO := of13_any (w := w8) (a := la) (c := lc) (xs := ls) (by rw [Hn.out]; exact h10') (Hs.out.kept K9.out)
          rw [Hn.out] at hO
          have HO := Lib.hid hO
          clear hO k8 HR
          go_wp2_with fail
          refine HO.out.mono ?_
          rintro e w9 ⟨p1, q1, rfl, hF1⟩
          have K10 := Lib.hid (K9.out.trans hF1.k)
          have K210 := Lib.hid (K29.out.trans hF1.k)
          have K710 := Lib.hid (K79.out.trans hF1.k)
          have HF1 := Lib.hid hF1
          have hO2 := of14_any (w := w9) (a := ta) (c := tc) (xs := ts) (by rw [Hm.out]; exact hmf) (Ht.out.kept K10.out)
          rw [Hm.out] at hO2
          have HO2 := Lib.hid hO2
          clear hO2 hF1 HO
          go_wp2_with fail
          refine HO2.out.mono ?_
          rintro e w10 ⟨p2, q2, rfl, hF2⟩
          have K11 := Lib.hid (K10.out.trans hF2.k)
          have hl6 : LgS w10 p1 ls := (SlAt.legs (xs := ls) (by rw [Hn.out]; exact HF1.out.sl)).kept hF2.k
          have ht6 : TpS w10 p2 ts := SlAt.tops (xs := ts) (by rw [Hm.out]; exact hF2.sl)
          have hg6 : TbS w10 op gs := (HGd.out.tabs Hgood.out).kept (K210.out.trans hF2.k)
          have hR2 := rright_all (w := w10) (la := p1) (ta := p2) (ga := op) (pa := some ⟨pb, po, none⟩) (lc := q1) (tc := q2) (gc := oc) (pc := i) (ls := ls) (ts := ts) (gs := gs) (ps := l) net (by rw [Hn.out]; exact h10') Htl.out Hgl.out (by rw [Hln.out]; unfold maxLen; omega) Hgood.out hl6 ht6 hg6 (.inr ⟨pb, po, rfl, Hps.out.kept (K710.out.trans hF2.k)⟩)
          rw [Hright.out, Hn.out, Hm.out, HG.out, Hln.out] at hR2
          have HR2 := Lib.hid hR2
          clear hR2 hl6 ht6 hg6 hF2 HO2
          go_wp2_with fail
          refine HR2.out.mono ?_
          rintro e w11 ⟨rfl, k11⟩
          have hk11 := K11.out.trans k11
          go_wp2
          go_ret
          exact ⟨rfl, hk11⟩
end Go.Proofs.Ytgbdnodkbdkaeaa
