/- Alloc: AllocRight's walk 4. -/
import Derived.Test.YtgbdnodkbdkaeaaBn
import Derived.Test.YtgbdnodkbdkaeaaBi
namespace Go.Proofs.Ytgbdnodkbdkaeaa
open Go Go.RowKit

theorem right_all {w : World} {la ta ga pa : Option Addr} {lc tc gc pc : Nat} {ls : List Lg} {ts : List Tp} {gs : List Tb} {ps : List Int} (net : Int) (hl : ls.length ≤ 10) (htl : ts.length ≤ maxLen) (hgl : gs.length ≤ maxLen) (hpl : ps.length ≤ maxLen) (hcap : ls.length ≤ lc)
    (hgg : GoodG gs) (hs : LgS w la ls) (ht : TpS w ta ts) (hg : TbS w ga gs) (hp : PsS w pa ps) :
    Calls Try.prog 15 #[.slice la ls.length lc, .slice ta ts.length tc, .slice ga gs.length gc, .int .i64 net, .slice pa ps.length pc] w (BlPost (rightB ls ts gs net ps) w) := by
  by_cases h : ts.length = ls.length ∧ gs.length = ls.length ∧ ps.length = ls.length
  · obtain ⟨h1, h2, h3⟩ := h
    rcases Nat.eq_zero_or_pos ls.length with h0 | h0
    · have hE : rightB ls ts gs net ps = false := by
        have : checkB ls = false := by unfold checkB; rw [h0]; simp
        unfold rightB; rw [this]; simp
      rw [hE, h1, h2, h3, h0]
      exact right_zero net
    · rw [h1, h2, h3]
      rcases hs with rfl | ⟨lb, lo, rfl, hs⟩
      · simp at h0
      rcases ht with rfl | ⟨tb, tof, rfl, ht⟩
      · simp at h1; omega
      rcases hg with rfl | ⟨gb, go', rfl, hg⟩
      · simp at h2; omega
      rcases hp with rfl | ⟨pb, po, rfl, hp⟩
      · simp at h3; omega
      exact right_any net h0 (by omega) h1 h2 h3 hcap hgg hs ht hg hp
  · have hE : rightB ls ts gs net ps = false := by
      unfold rightB
      by_cases h1 : ts.length = ls.length
      · by_cases h2 : gs.length = ls.length
        · have h3 : ¬ ps.length = ls.length := fun e => h ⟨h1, h2, e⟩
          simp [h3]
        · simp [h2]
      · simp [h1]
    rw [hE]
    exact right_len net (by unfold maxLen; omega) htl hgl hpl (by omega)
theorem rright_all {w : World} {la ta ga pa : Option Addr} {lc tc gc pc : Nat} {ls : List Lg} {ts : List Tp} {gs : List Tb} {ps : List Int} (net : Int) (hl : ls.length ≤ 10) (htl : ts.length ≤ maxLen) (hgl : gs.length ≤ maxLen) (hpl : ps.length ≤ maxLen)
    (hgg : GoodG gs) (hs : LgS w la ls) (ht : TpS w ta ts) (hg : TbS w ga gs) (hp : PsS w pa ps) :
    Calls Try.prog 16 #[.slice la ls.length lc, .slice ta ts.length tc, .slice ga gs.length gc, .int .i64 net, .slice pa ps.length pc] w (BlPost (rightB ls ts gs net ps) w) := by
  have hlm : ls.length ≤ maxLen := by unfold maxLen; omega
  cases hck : checkB ls with
  | false =>
    have hE : rightB ls ts gs net ps = false := by unfold rightB; rw [hck]; simp
    rw [hE]
    exact rright_bad net hlm htl hgl hpl hs (.inl hck)
  | true =>
    by_cases h : ts.length = ls.length ∧ gs.length = ls.length ∧ ps.length = ls.length
    · obtain ⟨h1, h2, h3⟩ := h
      have h0 := (check_good hck).1.1
      rw [h1, h2, h3]
      rcases hs with rfl | ⟨lb, lo, rfl, hs⟩
      · simp at h0
      rcases ht with rfl | ⟨tb, tof, rfl, ht⟩
      · simp at h1; omega
      rcases hg with rfl | ⟨gb, go', rfl, hg⟩
      · simp at h2; omega
      rcases hp with rfl | ⟨pb, po, rfl, hp⟩
      · simp at h3; omega
      exact rright_any net hck h1 h2 h3 hgg hs ht hg hp
    · have hE : rightB ls ts gs net ps = false := by
        unfold rightB
        by_cases h1 : ts.length = ls.length
        · by_cases h2 : gs.length = ls.length
          · have h3 : ¬ ps.length = ls.length := fun e => h ⟨h1, h2, e⟩
            simp [h3]
          · simp [h2]
        · simp [h1]
      rw [hE]
      exact rright_bad net hlm htl hgl hpl hs (.inr ⟨hck, by omega⟩)
set_option maxRecDepth 100000 in
theorem open_tabs3 {H : Type} {enc : TypeId × Value → H} {w : World} {base b0 : Nat} {spare : Nat → Bool} {held : Bool} {r : Reach} {v : Value} {d : DataW H} {p : List MemPlace} (hw : ∀ k ∈ d.weights Try.prog 24, k ≤ reachBytes) (hv : Value.okWide Try.prog w r b0 24 v) (h : DataW.Trod enc Try.prog w base spare held 24 v d p) :
    ∃ (a : Option Addr) (len cap : Nat), v = .slice a len cap ∧ (len ≤ maxLen ∧ len ≤ cap ∧ len * 24 ≤ reachBytes) ∧ ∃ gs : List Tb, gs.length = len ∧ TaS w a gs := open_tabs hv h hw
set_option maxRecDepth 100000 in
theorem open_ps {H : Type} {enc : TypeId × Value → H} {w : World} {base b0 : Nat} {spare : Nat → Bool} {held : Bool} {r : Reach} {v : Value} {d : DataW H} {p : List MemPlace} (hv : Value.okWide Try.prog w r b0 30 v) (h : DataW.Trod enc Try.prog w base spare held 30 v d p) :
    ∃ (a : Option Addr) (len cap : Nat), v = .slice a len cap ∧ (len ≤ maxLen ∧ len ≤ cap) ∧ ∃ ps : List Int, ps.length = len ∧ PsS w a ps := by
  obtain ⟨a, len, cap, rfl⟩ := WideShapes.okWide_slice Try.underlying30 hv
  obtain ⟨fuel, hf⟩ := h
  have hC : Try.prog.cellsOf 2 = 1 := by kernel_rfl
  rcases Deep.open_slice Try.underlying30 hf with ⟨hcs, _⟩ | ⟨x, l, c, m, n, D, Pl, hcs, _, hl, hm, hmm, _, hi⟩
  · simp [Value.cells] at hcs
    obtain ⟨rfl, rfl, rfl⟩ := hcs
    exact ⟨none, 0, 0, rfl, ⟨by unfold maxLen; omega, Nat.le_refl _⟩, [], rfl, .inl rfl⟩
  · simp [Value.cells] at hcs
    obtain ⟨rfl, rfl, rfl⟩ := hcs
    have he : ∀ i, i < len → ∃ z : Int, w.cell? (x.add i) = some (.int .i64 z) := fun i hil => by
      have him : i < m := by rw [hmm]; split <;> omega
      obtain ⟨cs', hc, ht'⟩ := hi i him
      rw [hC] at hc
      obtain ⟨_, hcl, hat⟩ := World.cells?_some hc
      have hcell := hat 0 (by omega)
      obtain ⟨z, hz, _⟩ := DataW.trod_int Try.underlying2 ht'
      subst hz
      have h5 : (x.add (i * 1)).add 0 = x.add i := by rw [Nat.mul_one, Deep.add_add]; rfl
      rw [h5] at hcell
      exact ⟨z, by simpa using hcell⟩
    refine ⟨some x, len, cap, rfl, ⟨Nat.le_trans hl hm, hl⟩, (List.range len).map fun i => if hi : i < len then (he i hi).choose else 0, by simp, ?_⟩
    rcases Nat.eq_zero_or_pos len with rfl | hpos
    · exact .inl rfl
    obtain ⟨h2, _⟩ := plain_of_cell (a := x) (he 0 hpos).choose_spec
    have hx : ∀ j, x.add j = ⟨x.block, x.off + j, none⟩ := fun j => by rw [h2]; exact addr_add _ _ _
    refine .inr ⟨x.block, x.off, by rw [← h2], fun i hi => ?_⟩
    replace hi : i < len := by simpa using hi
    have hget : psAt ((List.range len).map fun i => if hi : i < len then (he i hi).choose else 0) i = (he i hi).choose := by
      simp [psAt, List.getD_eq_getElem?_getD, hi]
    rw [hget]
    exact (congrArg w.cell? (hx i)).symm.trans (he i hi).choose_spec
set_option maxRecDepth 100000 in
set_option maxHeartbeats 4000000 in
theorem rlaw_any {w : World} {la ta ga pa : Option Addr} {lc tc gc pc : Nat} {ls : List Lg} {ts : List Tp} {gs : List Tb} {ps : List Int} (net : Int) (hl : ls.length ≤ maxLen) (htl : ts.length ≤ maxLen) (hgl : gs.length ≤ maxLen) (hg24 : gs.length * 24 ≤ reachBytes) (hpl : ps.length ≤ maxLen) (hcap : ls.length ≤ lc)
    (hs : LgS w la ls) (ht : TpS w ta ts) (hg : TaS w ga gs) (hp : PsS w pa ps) :
    Calls Try.prog 4 #[.slice la ls.length lc, .slice ta ts.length tc, .slice ga gs.length gc, .int .i64 net, .slice pa ps.length pc] w (BlPost true w) := by
  have Hs := Lib.hid hs
  have Ht := Lib.hid ht
  have Hg := Lib.hid hg
  have Hp := Lib.hid hp
  have hlm := hl
  have htm := htl
  have hgm := hgl
  have hpm := hpl
  unfold maxLen at hlm htm hgm hpm
  have Htl := Lib.hid htl
  have Hgl := Lib.hid hgl
  have Hpl := Lib.hid hpl
  have Hcap := Lib.hid hcap
  have Hg24 := Lib.hid hg24
  obtain ⟨n, hn⟩ : ∃ n, ls.length = n := ⟨_, rfl⟩
  obtain ⟨m, hm⟩ : ∃ m, ts.length = m := ⟨_, rfl⟩
  obtain ⟨G, hG⟩ : ∃ G, gs.length = G := ⟨_, rfl⟩
  obtain ⟨P, hP⟩ : ∃ P, ps.length = P := ⟨_, rfl⟩
  have Hn := Lib.hid hn
  have Hm := Lib.hid hm
  have HG := Lib.hid hG
  have HP := Lib.hid hP
  rw [hn] at hlm ⊢
  rw [hm] at htm ⊢
  rw [hG] at hgm ⊢
  rw [hP] at hpm ⊢
  clear hs ht hg hp hl htl hgl hpl hcap hg24 hn hm hG hP
  go_enter Try.func4, Try.ntmps4
  go_wp2_with fail
  refine (known_any w).mono ?_
  rintro e w1 ⟨rfl, k1⟩
  have hgr := grids_any (c := gc) Hg24.out (Hg.out.kept k1)
  have hfew := fun (W : World) (k : Kept (fun _ => False) w W) => few_any (tc := tc) Htl.out (Ht.out.kept k)
  rw [HG.out] at hgr
  rw [Hm.out] at hfew
  have Hgr := Lib.hid hgr
  have Hfew := Lib.hid hfew
  have K1 := Lib.hid k1
  clear hgr hfew k1
  go_wp2_with fail
  refine Hgr.out.mono ?_
  rintro e w2 ⟨k2, hcs⟩
  have K2 := Lib.hid (K1.out.trans k2)
  have K12 := Lib.hid k2
  clear Hgr k2
  obtain ⟨f, hf⟩ : ∃ f, fewB ts = f := ⟨_, rfl⟩
  have hfw := Lib.hid (Hfew.out w2 K2.out)
  rw [hf] at hfw
  have Hf := Lib.hid hf
  clear hf Hfew
  rcases hcs with ⟨_, rfl⟩ | ⟨hck, op, oc, A, C, rfl, hGd⟩
  · by_cases h10 : 10 < n
    · go_wp2
      go_ret
      exact ⟨rfl, K2.out⟩
    · have h10' : n ≤ 10 := by omega
      clear h10
      go_wp2_with fail
      refine hfw.out.mono ?_
      rintro e w3 ⟨rfl, k3⟩
      have K3 := Lib.hid (K2.out.trans k3)
      clear k3
      cases f
      all_goals
        go_wp2
        go_ret
        exact ⟨rfl, K3.out⟩
  have Hck := Lib.hid hck
  have HGd := Lib.hid hGd
  rw [HG.out]
  clear hck hGd
  by_cases h10 : 10 < n
  · go_wp2
    go_ret
    exact ⟨rfl, K2.out⟩
  have h10' : n ≤ 10 := by omega
  clear h10
  go_wp2_with fail
  refine hfw.out.mono ?_
  rintro e w3 ⟨rfl, k3⟩
  have K3 := Lib.hid (K2.out.trans k3)
  have K23 := Lib.hid k3
  clear k3
  cases f with
  | false =>
    go_wp2
    go_ret
    exact ⟨rfl, K3.out⟩
  | true =>
    by_cases hG10 : 10 < G
    · have d1 : decide ((G : Int) ≤ 10) = false := decide_eq_false (by omega)
      go_wp2
      go_ret
      exact ⟨rfl, K3.out⟩
    have d1 : decide ((G : Int) ≤ 10) = true := decide_eq_true (by omega)
    by_cases hP10 : 10 < P
    · go_wp2
      go_ret
      exact ⟨rfl, K3.out⟩
    have hP10' : P ≤ 10 := by omega
    have hmf : m ≤ 10 := by have := (few_is Hf.out).1; have := Hm.out; omega
    have hgood := chkG_good (gs := gs) Hck.out
    have hR := right_all (w := w3) (la := la) (ta := ta) (ga := ga) (pa := pa) (lc := lc) (tc := tc) (gc := gc) (pc := pc) (ls := ls) (ts := ts) (gs := gs) (ps := ps) net (by rw [Hn.out]; exact h10') Htl.out Hgl.out Hpl.out Hcap.out hgood (Hs.out.kept K3.out) (Ht.out.kept K3.out) ((Hg.out.kept K3.out).tabs hgood) (Hp.out.kept K3.out)
    obtain ⟨r, hr⟩ : ∃ r, rightB ls ts gs net ps = r := ⟨_, rfl⟩
    rw [hr, Hn.out, Hm.out, HG.out, HP.out] at hR
    have HR := Lib.hid hR
    have Hr := Lib.hid hr
    have Hgood := Lib.hid hgood
    clear hR hr hgood hP10 hG10
    go_wp2_with fail
    refine HR.out.mono ?_
    rintro e w4 ⟨rfl, k4⟩
    have K4 := Lib.hid (K3.out.trans k4)
    have K24 := Lib.hid (K23.out.trans k4)
    have hO := of13_any (w := w4) (a := la) (c := lc) (xs := ls) (by rw [Hn.out]; exact h10') (Hs.out.kept K4.out)
    rw [Hn.out] at hO
    have HO := Lib.hid hO
    clear hO k4 HR
    go_wp2_with fail
    refine HO.out.mono ?_
    rintro e w5 ⟨p1, q1, rfl, hF1⟩
    have K5 := Lib.hid (K4.out.trans hF1.k)
    have K25 := Lib.hid (K24.out.trans hF1.k)
    have HF1 := Lib.hid hF1
    have hO2 := of14_any (w := w5) (a := ta) (c := tc) (xs := ts) (by rw [Hm.out]; exact hmf) (Ht.out.kept K5.out)
    rw [Hm.out] at hO2
    have HO2 := Lib.hid hO2
    clear hO2 hF1 HO
    go_wp2_with fail
    refine HO2.out.mono ?_
    rintro e w6 ⟨p2, q2, rfl, hF2⟩
    have K6 := Lib.hid (K5.out.trans hF2.k)
    have K26 := Lib.hid (K25.out.trans hF2.k)
    have hl6 : LgS w6 p1 ls := (SlAt.legs (xs := ls) (by rw [Hn.out]; exact HF1.out.sl)).kept hF2.k
    have ht6 : TpS w6 p2 ts := SlAt.tops (xs := ts) (by rw [Hm.out]; exact hF2.sl)
    have hg6 : TbS w6 op gs := (HGd.out.tabs Hgood.out).kept K26.out
    have hR2 := rright_all (w := w6) (la := p1) (ta := p2) (ga := op) (pa := pa) (lc := q1) (tc := q2) (gc := oc) (pc := pc) (ls := ls) (ts := ts) (gs := gs) (ps := ps) net (by rw [Hn.out]; exact h10') Htl.out Hgl.out Hpl.out Hgood.out hl6 ht6 hg6 (Hp.out.kept K6.out)
    rw [Hr.out, Hn.out, Hm.out, HG.out, HP.out] at hR2
    have HR2 := Lib.hid hR2
    clear hR2 hl6 ht6 hg6 hF2 HO2
    go_wp2_with fail
    refine HR2.out.mono ?_
    rintro e w7 ⟨rfl, k7⟩
    have hk7 := K6.out.trans k7
    cases r
    all_goals
      go_wp2
      go_ret
      exact ⟨rfl, hk7⟩
end Go.Proofs.Ytgbdnodkbdkaeaa
