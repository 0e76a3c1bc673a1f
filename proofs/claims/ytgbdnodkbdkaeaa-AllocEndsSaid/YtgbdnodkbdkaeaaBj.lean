/- Alloc: AllocEnds' walk 6. -/
import Derived.Test.YtgbdnodkbdkaeaaBh
namespace Go.Proofs.Ytgbdnodkbdkaeaa
open Go Go.RowKit

def EnRel (n : Nat) (ts : List Tp) (W : World) (gv iv : Value) (wr : World) : Prop := ∃ (i : Nat) (gp : Option Addr) (gc : Nat) (A : Nat → Nat), i ≤ n ∧ iv = .int .i64 i ∧ gv = .slice gp i gc ∧ OnS W i gp gc A wr ∧ ∀ j, j < i → calm (tpAt ts j)
set_option maxRecDepth 100000 in
set_option maxHeartbeats 4000000 in
theorem ends_any {w : World} {la ta : Option Addr} {lc tc : Nat} {ls : List Lg} {ts : List Tp} (hl : ls.length ≤ maxLen) (htl : ts.length ≤ maxLen) (hcap : ls.length ≤ lc) (hs : LgS w la ls) (ht : TpS w ta ts) :
    Calls Try.prog 6 #[.slice la ls.length lc, .slice ta ts.length tc] w (BlPost true w) := by
  obtain ⟨i0, hi0, hz0, hz1, hz2⟩ := info_parts Try.info49'
  have Hs := Lib.hid hs
  have Ht := Lib.hid ht
  have hlm := hl
  have htm := htl
  unfold maxLen at hlm htm
  have Hl := Lib.hid hl
  have Htl := Lib.hid htl
  have Hcap := Lib.hid hcap
  obtain ⟨n, hn⟩ : ∃ n, ls.length = n := ⟨_, rfl⟩
  obtain ⟨m, hm⟩ : ∃ m, ts.length = m := ⟨_, rfl⟩
  have Hn := Lib.hid hn
  have Hm := Lib.hid hm
  rw [hn] at hlm ⊢
  rw [hm] at htm ⊢
  clear hs ht hl htl hcap hn hm
  go_enter Try.func6, Try.ntmps6
  go_wp2_with fail
  refine (known_any w).mono ?_
  rintro e w1 ⟨rfl, k1⟩
  by_cases h4 : 4 < n
  · go_wp2
    go_ret
    exact ⟨rfl, k1⟩
  have hfew := few_any (w := w1) (tc := tc) Htl.out (Ht.out.kept k1)
  rw [Hm.out] at hfew
  obtain ⟨f, hf⟩ : ∃ f, fewB ts = f := ⟨_, rfl⟩
  rw [hf] at hfew
  have Hfew := Lib.hid hfew
  have Hf := Lib.hid hf
  clear hfew hf
  have h4' : n ≤ 4 := by omega
  clear h4
  go_wp2_with fail
  refine Hfew.out.mono ?_
  rintro e w3 ⟨rfl, k2⟩
  have hk3 := k1.trans k2
  clear Hfew
  cases f with
  | false =>
    go_wp2
    go_ret
    exact ⟨rfl, hk3⟩
  | true =>
    have hmf : m ≤ 10 := by have := (few_is Hf.out).1; have := Hm.out; omega
    clear k1 k2
    have Hk3 := Lib.hid hk3
    clear hk3
    go_wp2_with fail
    go_loopw [5, 6] (fun gv iv wr => EnRel m ts w3 gv iv wr) (fun _ iv _ => m - (intOf iv).toNat)
    case atStart => exact ⟨0, none, 0, fun _ => 0, Nat.zero_le _, rfl, rfl, OnS.nil _, fun j hj => by omega⟩
    case round =>
      obtain ⟨i, gp, gc, A, hi, rfl, rfl, hO, hcm⟩ := hrel
      have Hcm := Lib.hid hcm
      clear hcm
      by_cases hlt : i < m
      · have HO := Lib.hid hO
        have hb2 : (0 : Int) ≤ (i : Int) := by omega
        have hb3 : (i : Int) < (m : Int) := by omega
        have hkr := Hk3.out.trans hO.fr.k
        rcases Ht.out with h0 | ⟨tb, tof, rfl, htp⟩
        · have h9 := Hm.out; rw [h0] at h9; simp at h9; omega
        obtain ⟨c0, c1, c2, c3, c4, c5⟩ := (htp.kept hkr) i (by have := Hm.out; omega)
        have hbds := (few_is Hf.out).2 i (by have := Hm.out; omega)
        obtain ⟨⟨bid, bq, ask, aq, bc, ac⟩, htt⟩ : ∃ t, tpAt ts i = t := ⟨_, rfl⟩
        rw [htt] at c0 c1 c2 c3 c4 c5 hbds
        have Htt := Lib.hid htt
        simp only at c0 c1 c2 c3 c4 c5 hbds
        obtain ⟨_, _, hask⟩ := hbds
        have Hkr := Lib.hid hkr
        clear hO htt htp hkr
        go_upto_region 10 with fail
        have hbx := block_new3 wr (.cells #[.int .i64 bid, .int .i64 bq, .int .i64 ask, .int .i64 aq, .bool bc, .bool ac] 45)
        have hkx : Kept (fun _ => False) wr (wr.alloc (.cells #[.int .i64 bid, .int .i64 bq, .int .i64 ask, .int .i64 aq, .bool bc, .bool ac] 45)) := (Kept.refl _ _).alloc _
        generalize wr.heap.size = xb at hbx ⊢
        generalize wr.alloc (.cells #[.int .i64 bid, .int .i64 bq, .int .i64 ask, .int .i64 aq, .bool bc, .bool ac] 45) = w5 at hbx hkx ⊢
        have hk5 := Hkr.out.trans hkx
        have Hkx := Lib.hid hkx
        clear c0 c1 c2 c3 c4 c5 hkx
        have hcs : (ac = true) ∨ (ac = false ∧ bc = true) ∨ (ac = false ∧ bc = false ∧ bid < 1) ∨ (ac = false ∧ bc = false ∧ 1 ≤ bid ∧ ask < 1) ∨ (ac = false ∧ bc = false ∧ 1 ≤ bid ∧ 1 ≤ ask ∧ ask ≤ bid) ∨ (ac = false ∧ bc = false ∧ 1 ≤ bid ∧ 1 ≤ ask ∧ bid < ask) := by
          cases ac <;> cases bc <;> simp <;> omega
        rcases hcs with rfl | ⟨rfl, rfl⟩ | ⟨rfl, rfl, e1⟩ | ⟨rfl, rfl, e1, e2⟩ | ⟨rfl, rfl, e1, e2, e3⟩ | ⟨rfl, rfl, e1, e2, e3⟩
        · have x0 : w5.cell? ⟨xb, 0, none⟩ = some (.int .i64 bid) := by rw [cell_of_block hbx]; rfl
          have x2 : w5.cell? ⟨xb, 2, none⟩ = some (.int .i64 ask) := by rw [cell_of_block hbx]; rfl
          have x4 : w5.cell? ⟨xb, 4, none⟩ = some (.bool bc) := by rw [cell_of_block hbx]; rfl
          have x5 : w5.cell? ⟨xb, 5, none⟩ = some (.bool true) := by rw [cell_of_block hbx]; rfl
          clear hbx
          go_wp2
          go_ret
          exact ⟨rfl, hk5⟩
        · have x0 : w5.cell? ⟨xb, 0, none⟩ = some (.int .i64 bid) := by rw [cell_of_block hbx]; rfl
          have x2 : w5.cell? ⟨xb, 2, none⟩ = some (.int .i64 ask) := by rw [cell_of_block hbx]; rfl
          have x4 : w5.cell? ⟨xb, 4, none⟩ = some (.bool true) := by rw [cell_of_block hbx]; rfl
          have x5 : w5.cell? ⟨xb, 5, none⟩ = some (.bool false) := by rw [cell_of_block hbx]; rfl
          clear hbx
          go_wp2
          go_ret
          exact ⟨rfl, hk5⟩
        · have x0 : w5.cell? ⟨xb, 0, none⟩ = some (.int .i64 bid) := by rw [cell_of_block hbx]; rfl
          have x2 : w5.cell? ⟨xb, 2, none⟩ = some (.int .i64 ask) := by rw [cell_of_block hbx]; rfl
          have x4 : w5.cell? ⟨xb, 4, none⟩ = some (.bool false) := by rw [cell_of_block hbx]; rfl
          have x5 : w5.cell? ⟨xb, 5, none⟩ = some (.bool false) := by rw [cell_of_block hbx]; rfl
          clear hbx
          go_wp2
          go_ret
          exact ⟨rfl, hk5⟩
        · have x0 : w5.cell? ⟨xb, 0, none⟩ = some (.int .i64 bid) := by rw [cell_of_block hbx]; rfl
          have x2 : w5.cell? ⟨xb, 2, none⟩ = some (.int .i64 ask) := by rw [cell_of_block hbx]; rfl
          have x4 : w5.cell? ⟨xb, 4, none⟩ = some (.bool false) := by rw [cell_of_block hbx]; rfl
          have x5 : w5.cell? ⟨xb, 5, none⟩ = some (.bool false) := by rw [cell_of_block hbx]; rfl
          clear hbx
          go_wp2
          go_ret
          exact ⟨rfl, hk5⟩
        · have x0 : w5.cell? ⟨xb, 0, none⟩ = some (.int .i64 bid) := by rw [cell_of_block hbx]; rfl
          have x2 : w5.cell? ⟨xb, 2, none⟩ = some (.int .i64 ask) := by rw [cell_of_block hbx]; rfl
          have x4 : w5.cell? ⟨xb, 4, none⟩ = some (.bool false) := by rw [cell_of_block hbx]; rfl
          have x5 : w5.cell? ⟨xb, 5, none⟩ = some (.bool false) := by rw [cell_of_block hbx]; rfl
          clear hbx
          go_wp2
          go_ret
          exact ⟨rfl, hk5⟩
        · have x0 : w5.cell? ⟨xb, 0, none⟩ = some (.int .i64 bid) := by rw [cell_of_block hbx]; rfl
          have x2 : w5.cell? ⟨xb, 2, none⟩ = some (.int .i64 ask) := by rw [cell_of_block hbx]; rfl
          have x4 : w5.cell? ⟨xb, 4, none⟩ = some (.bool false) := by rw [cell_of_block hbx]; rfl
          have x5 : w5.cell? ⟨xb, 5, none⟩ = some (.bool false) := by rw [cell_of_block hbx]; rfl
          clear hbx
          have hcalm : Hid (∀ j, j < i + 1 → calm (tpAt ts j)) := fun j hj => by
            by_cases e : j = i
            · subst e; rw [Htt.out]; exact ⟨rfl, rfl, e1, e3, hask⟩
            · exact Hcm.out j (by omega)
          go_wp2_with (at_builtin; refine wpList_append_any rfl (.tmp 60) (.tmp 63) 24 rfl 49 i0 _ 1 24 Try.underlying24 hi0 hz0 hz1 hz2 rfl (by decide) gp i gc (gV A i) rfl (((HO.out.fr.mono Hkx.out).alloc _).alloc _).sl (some ⟨w5.heap.size + 1, 0, none⟩) 1 1 [.slice (some ⟨w5.heap.size, 0, none⟩) 1 1] rfl (SlAt.one (by have := block_new3 (w5.alloc (.cells #[.int .i64 1, .int .i64 1] 47)) (.cells #[.slice (some ⟨w5.heap.size, 0, none⟩) 1 1] 49); rwa [show (w5.alloc (.cells #[.int .i64 1, .int .i64 1] 47)).heap.size = w5.heap.size + 1 by simp] at this) rfl) (by intro u hu; simp at hu; subst hu; rfl) (by unfold maxLen; omega) (by omega) ?_; intro p6 c6 w6 hsl6 hg6 hb6; have HN := Lib.hid (HO.out.app ((Hkx.out.alloc _).alloc _) (block_alloc (block_new3 w5 _)) hsl6 hg6 hb6); clear hsl6 hg6 hb6)
          exact ⟨⟨i + 1, p6, c6, _, hlt, by push_cast; rfl, rfl, HN.out, hcalm.out⟩, by simp [intOf]; omega⟩
      · obtain rfl : i = m := by omega
        have hkr := Hk3.out.trans hO.fr.k
        have htop := tops_all (w := wr) (la := la) (ta := ta) (lc := lc) (tc := tc) 1 Hl.out Htl.out Hcap.out (Hs.out.kept hkr) (Ht.out.kept hkr)
        rw [Hn.out, Hm.out] at htop
        obtain ⟨r, hr⟩ : ∃ r, topsP ls ts 1 = r := ⟨_, rfl⟩
        rw [hr] at htop
        have Htop := Lib.hid htop
        have Hr := Lib.hid hr
        have Hkr := Lib.hid hkr
        have HO := Lib.hid hO
        clear htop hr hkr hO
        go_wp2_with fail
        refine Htop.out.mono ?_
        rintro e w4 ⟨k4, ⟨rfl, rfl⟩ | ⟨p, pa, rfl, rfl, hsl⟩⟩
        · have hk4 := Hkr.out.trans k4
          go_wp2
          go_ret
          exact ⟨rfl, hk4⟩
        have hcalm : ∀ j, j < ts.length → calm (tpAt ts j) := fun j hj => Hcm.out j (by have := Hm.out; omega)
        have hfound := ends_found hcalm Hr.out
        have hnone := ends_none hcalm Hr.out
        have hpg := tops_goodP Hf.out Hr.out
        obtain ⟨c1, c2, c3, _⟩ := tops_sound Hr.out
        obtain ⟨⟨n2, n4⟩, hgd⟩ := check_good c1
        have hbd := netF_bd hgd hpg c3 ls.length (Nat.le_refl _)
        obtain ⟨pb, po, rfl, hps⟩ := hsl.ps.at (by omega)
        have hk4 := Hkr.out.trans k4
        obtain rfl : n = i := by rw [← Hn.out, ← Hm.out]; exact c2.symm
        have hpl : p.length = n := by rw [c3]; exact Hn.out
        have hlg : LgS w la ls := Hs.out
        rcases hlg with h0 | ⟨lb, lo, rfl, hlg⟩
        · rw [h0] at n2; simp at n2
        rw [Hm.out] at hfound hnone
        have hO4 : TbS w4 gp (ones n) := HO.out.tabs.kept k4
        have hN : Hid (Calls Try.prog 18 #[.slice (some ⟨lb, lo, none⟩) n lc, .slice (some ⟨pb, po, none⟩) n n] w4 (NtPost (netF ls p ls.length) 0 w4)) := by
          have := net_good (cap := lc) (pcap := n) c1 c3 hpg Hcap.out (hlg.kept hk4) hps
          rw [Hn.out] at this ⊢; exact this
        obtain ⟨z, hz⟩ : ∃ z, netF ls p ls.length = z := ⟨_, rfl⟩
        rw [hz] at hN hfound hnone hbd
        have hP : Hid (∀ (x : Int) (q : Option (List Int)) (W : World), pricesP ls ts (ones n) x = q → I64 x → Kept (fun _ => False) w4 W → Calls Try.prog 11 #[.slice (some ⟨lb, lo, none⟩) n lc, .slice ta n tc, .slice gp n gc, .int .i64 x] W (PrPost q W)) := fun x q W hq hx k => by
          have := prices_all (w := W) (la := some ⟨lb, lo, none⟩) (ta := ta) (ga := gp) (lc := lc) (tc := tc) (gc := gc) (ls := ls) (ts := ts) (gs := ones n) x hx Hl.out Htl.out (by rw [ones_len]; unfold maxLen; omega) Hcap.out (good_ones n) (.inr ⟨lb, lo, rfl, hlg.kept (hk4.trans k)⟩) (Ht.out.kept (hk4.trans k)) (hO4.kept k)
          rw [Hn.out, Hm.out, ones_len, hq] at this; exact this
        have hzb : -16000000 ≤ z ∧ z ≤ 16000000 := by omega
        have Hz1 : Hid (I64 (z + 1)) := by show I64 _; unfold I64; omega
        have hzw : wrap64 (z + 1) = z + 1 := IntWalk.wrap64_in _ (by omega)
        have Hps := Lib.hid hps
        have Hfound := Lib.hid hfound
        have Hnone := Lib.hid hnone
        have Hpl := Lib.hid hpl
        have Hk4 := Lib.hid hk4
        have hn2 : 2 ≤ n := by rw [← Hn.out]; exact n2
        rw [hpl]
        clear c1 c2 c3 n2 n4 hgd hbd hpg hcalm hsl hps hfound hnone hpl hlg hO4 hz hk4 k4 Hkr Htop Hcm HO Hs Ht
        go_wp2_with fail
        refine hN.out.mono ?_
        rintro e w5 ⟨rfl, k5⟩
        have K5 := Lib.hid k5
        clear k5
        go_wp2_with fail
        refine (hP.out z _ w5 Hfound.out (by unfold I64; omega) K5.out).mono ?_
        rintro e w6 ⟨k6, ⟨h, _⟩ | ⟨q, qa, h, rfl, hsq⟩⟩
        · cases h
        obtain rfl : p = q := by simpa using h
        obtain ⟨qb, qo, rfl, hqs⟩ := hsq.ps.at (by have := Hpl.out; omega)
        have K6 := Lib.hid (K5.out.trans k6)
        have Hqs := Lib.hid hqs
        rw [Hpl.out]
        clear h hsq hqs k6 hN
        go_wp2_with fail
        go_loopw [14] (fun iv wr => KtRel n w6 iv wr) (fun iv _ => n - (intOf iv).toNat)
        case atStart => exact ⟨0, Nat.zero_le _, rfl, Kept.refl _ _⟩
        case round =>
          obtain ⟨k, hkn, rfl, hkk⟩ := hrel
          by_cases hlk : k < n
          · have q1 : (0 : Int) ≤ (k : Int) := by omega
            have q2 : (k : Int) < (n : Int) := by omega
            have cp := (Hps.out.kept (K6.out.trans hkk)) k (by have := Hpl.out; omega)
            have cq := (Hqs.out.kept hkk) k (by have := Hpl.out; omega)
            obtain ⟨v, hv⟩ : ∃ v, psAt p k = v := ⟨_, rfl⟩
            rw [hv] at cp cq
            clear hv
            go_wp2_with fail
            go_quiet (fail)
            go_wp2
            exact ⟨⟨k + 1, hlk, by push_cast; rfl, hkk.drewN _⟩, by simp [intOf]; omega⟩
          · obtain rfl : k = n := by omega
            have K8 := Lib.hid (K6.out.trans hkk)
            clear hkk
            go_wp2_with fail
            refine (hP.out (z + 1) _ _ Hnone.out (Hz1.out) K8.out).mono ?_
            rintro e w9 ⟨k9, ⟨_, rfl⟩ | ⟨q, qa, h, _⟩⟩
            rotate_left
            · cases h
            have hk9 := (Hk4.out.trans K8.out).trans k9
            go_wp2
            go_ret
            exact ⟨rfl, hk9⟩
end Go.Proofs.Ytgbdnodkbdkaeaa
