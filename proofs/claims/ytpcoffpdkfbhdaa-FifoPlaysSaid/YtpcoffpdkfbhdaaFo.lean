/- The walk of 'FifoPlays'. -/
import Derived.Test.YtpcoffpdkfbhdaaFn
import Derived.Test.YtpcoffpdkfbhdaaRv
namespace Go.Proofs.Ytpcoffpdkfbhdaa
open Go.RowKit

def ActsAt (w : World) (a0 : Option Addr) (b off len : Nat) (g : Nat → Ac) : Prop :=
  (0 < len → a0 = some ⟨b, off, none⟩ ∧ b < w.heap.size) ∧
  ∀ i, i < len → w.cell? ⟨b, off + i * 4, none⟩ = some (.int .i64 (g i).op) ∧ w.cell? ⟨b, off + i * 4 + 1, none⟩ = some (.int .i64 (g i).row) ∧ w.cell? ⟨b, off + i * 4 + 2, none⟩ = some (.int .i64 (g i).cell) ∧ w.cell? ⟨b, off + i * 4 + 3, none⟩ = some (.int .i64 (g i).v)

def killF3 (k j : Nat) : Bool := (k == 4 && j == 0) || (k == 9 && (j == 0 || j == 4))
def killF2 (k j : Nat) : Bool := (k == 2 && j == 0) || (k == 10 && (j == 0 || j == 2 || j == 9))

def MidN (w0 : World) (a bc br : Nat) (S' : Ar) (O : Nat → Bool) (xb : Nat) (x : Ac) (m' : List Ent) (free' : List Nat) (pf : Option Addr) (cf : Nat) (mv : Value) (w : World) : Prop :=
  ∃ (pm : Option Addr) (cm : Nat) (fa : Option Addr) (fc : Nat), mv = .slice pm m'.length cm ∧ ArAt w a bc br fa fc S' O ∧ w.heap[xb]? = some (boxOf x) ∧
    Fr 35 3 (m'.flatMap entC) w0 pm m'.length cm w ∧ Fr 3 1 (free'.map intC) w0 pf free'.length cf w ∧ ∀ t, pm = some t → O t.block = false
theorem MidN.of {w0 wc w2 : World} {a bc br xb : Nat} {x : Ac} {S' : Ar} {O : Nat → Bool} {m m' : List Ent} {free' : List Nat} {pm pm' pf fa : Option Addr} {cm cm' cf fc : Nat} (hA : ArAt wc a bc br fa fc S' O) (hm : Fr 35 3 (m.flatMap entC) w0 pm m.length cm wc)
    (hf : Fr 3 1 (free'.map intC) w0 pf free'.length cf wc) (hb : wc.heap[xb]? = some (boxOf x)) {n' : Nat} {cs : List Value} (h2 : Fr 35 3 cs wc pm' n' cm' w2) (hn : n' = m'.length) (hcs : cs = m'.flatMap entC) :
    MidN w0 a bc br S' O xb x m' free' pf cf (.slice pm' n' cm') w2 := by
  subst hn hcs
  exact ⟨pm', cm', fa, fc, rfl, hA.keptF h2.k, (h2.k.block xb (lt_of_block hb) (fun h => h)).trans hb, h2.from hm.k, hf.mono h2.k, fun t ht => hA.new _ (h2.nw t ht)⟩

set_option maxHeartbeats 20000000 in
set_option maxRecDepth 100000 in
theorem plays_any (R N : Nat) (a0 : Option Addr) (b off len cap : Nat) (g : Nat → Ac) (w : World) (ha : ActsAt w a0 b off len g) (hlen : len ≤ 100) (hR1 : 1 ≤ R) (hR2 : R ≤ 20) (hN1 : 1 ≤ N) (hN2 : N ≤ 100) :
    Calls Try.prog 3 #[.int .i64 R, .int .i64 N, .slice a0 len cap] w (FinPost w) := by
  obtain ⟨i3, hi3, hz30, hz31, hz32⟩ := info_parts Try.info3'
  obtain ⟨i35, hi35, hz350, hz351, hz352⟩ := info_parts Try.info35'
  have Ha := Lib.hid ha
  clear ha
  go_enter Try.func3, Try.ntmps3
  go_wp2_with fail
  refine (known_any w).mono ?_
  rintro e w1 ⟨rfl, k1⟩
  go_wp2_with fail
  refine (new_good' R N rfl rfl (by omega) (by omega)).mono ?_
  rintro e w2 ⟨a, bc, br, fa, fc, O, rfl, h1, hk, hO⟩
  have HO := Lib.hid hO
  clear hO
  go_wp2_with fail
  have hk2 : Kept (fun _ => False) w w2 := k1.trans hk
  have hstart : PlayRel w a bc br N R len (.slice none 0 0) (.slice none 0 0) (.int .i64 0) (.int .i64 0) w2 :=
    ⟨0, [], [], 0, none, 0, none, 0, _, fa, fc, O, Nat.zero_le _, rfl, rfl, rfl, rfl, ⟨h1, Inv.new R N (by omega), rfl, rfl, (Fr.nil _ _ _).mono hk2, (Fr.nil _ _ _).mono hk2, (fun t ht => by cases ht), (fun t ht => by cases ht), fun i hi => HO.out i (Nat.lt_of_lt_of_le hi k1.size)⟩⟩
  have Hk2 := Lib.hid hk2
  clear h1 hk hk2 k1
  go_loopw [10, 11, 12, 13] (fun mv fv nv iv wr => PlayRel w a bc br N R len mv fv nv iv wr) (fun _ _ _ iv _ => len - (intOf iv).toNat)
  case atStart => exact hstart
  case round =>
    obtain ⟨k, m, free, next, pm, cm, pf, cf, S, fa, fc, O, hk, rfl, rfl, rfl, rfl, hP⟩ := hrel
    clear hstart
    by_cases hlt : k < len
    · obtain ⟨rfl, hb⟩ := Ha.out.1 (by omega)
      have hbw := hP.m.k.block b hb (fun h => h)
      have x0 : wr.cell? ⟨b, off + k * 4, none⟩ = some (.int .i64 (g k).op) := by rw [World.cell?_of_block (a := ⟨b, off + k * 4, none⟩) (w := w) hbw]; exact (Ha.out.2 k hlt).1
      have x1 : wr.cell? ⟨b, off + k * 4 + 1, none⟩ = some (.int .i64 (g k).row) := by rw [World.cell?_of_block (a := ⟨b, off + k * 4 + 1, none⟩) (w := w) hbw]; exact (Ha.out.2 k hlt).2.1
      have x2 : wr.cell? ⟨b, off + k * 4 + 2, none⟩ = some (.int .i64 (g k).cell) := by rw [World.cell?_of_block (a := ⟨b, off + k * 4 + 2, none⟩) (w := w) hbw]; exact (Ha.out.2 k hlt).2.2.1
      have x3 : wr.cell? ⟨b, off + k * 4 + 3, none⟩ = some (.int .i64 (g k).v) := by rw [World.cell?_of_block (a := ⟨b, off + k * 4 + 3, none⟩) (w := w) hbw]; exact (Ha.out.2 k hlt).2.2.2
      generalize g k = x at x0 x1 x2 x3
      have hPa := hP.kept ((Kept.refl _ wr).alloc (.cells #[.int .i64 x.op, .int .i64 x.row, .int .i64 x.cell, .int .i64 x.v] 31))
      have hbx : (wr.alloc (.cells #[.int .i64 x.op, .int .i64 x.row, .int .i64 x.cell, .int .i64 x.v] 31)).heap[wr.heap.size]? = some (.cells #[.int .i64 x.op, .int .i64 x.row, .int .i64 x.cell, .int .i64 x.v] 31 (0, 0)) := block_alloc_new _ _
      have hox := hP.ar.new wr.heap.size (Nat.le_refl _)
      clear hbw
      go_upto_region 18 with fail
      clear x0 x1 x2 x3 hP
      generalize wr.heap.size = xb at hbx hox ⊢
      generalize wr.alloc (.cells #[.int .i64 x.op, .int .i64 x.row, .int .i64 x.cell, .int .i64 x.v] 31) = wx at hPa hbx ⊢
      have Hox := Lib.hid hox
      have Hbx := Lib.hid hbx
      have y0 : wx.cell? ⟨xb, 0, none⟩ = some (.int .i64 x.op) := by rw [cell_of_block hbx]; rfl
      have y1 : wx.cell? ⟨xb, 1, none⟩ = some (.int .i64 x.row) := by rw [cell_of_block hbx]; rfl
      have y2 : wx.cell? ⟨xb, 2, none⟩ = some (.int .i64 x.cell) := by rw [cell_of_block hbx]; rfl
      have y3 : wx.cell? ⟨xb, 3, none⟩ = some (.int .i64 x.v) := by rw [cell_of_block hbx]; rfl
      clear hbx hox
      by_cases hop : x.op = 1
      · have hopb : (x.op == 1) = true := beq_iff_eq.2 hop
        clear hop
        by_cases hr : 0 ≤ x.row ∧ x.row < R
        · obtain ⟨r, hr'⟩ : ∃ r : Nat, x.row = r := ⟨x.row.toNat, by omega⟩
          have hrR : r < R := by omega
          have Hr := Lib.hid hr'
          have hPR := hPa.R
          have hPN := hPa.N
          have hml := hPa.inv.mlen
          have HPR := Lib.hid hPR
          have HPN := Lib.hid hPN
          obtain ⟨hr0, hr1⟩ := hr
          by_cases hroom : m.length < N
          · have hcan := hPa.inv.can (r := r) (by rw [hPR]; exact hrR) (by rw [hPN]; exact hroom)
            have hpush := hPa.inv.push (r := r) (by rw [hPR]; exact hrR) (by rw [hPN]; exact hroom) x.v
            have htake := takeI_of hPa.inv
            obtain ⟨pN, pR⟩ := push_NR S r x.v
            have hroomb : decide (N ≤ m.length) = false := by simp; omega
            generalize hc : pickC free next = c at hpush htake
            have Hc := Lib.hid hc
            clear hc
            have hnx : next ≤ N := by have := hPa.inv.nx; omega
            have Hcan := Lib.hid hcan
            have Hpush := Lib.hid hpush
            have Htake := Lib.hid htake
            have HpN : Hid ((S.pushS r x.v).N = N) := by rw [pN]; exact hPN
            have HpR : Hid ((S.pushS r x.v).R = R) := by rw [pR]; exact hPR
            have Hom := Lib.hid hPa.om
            have Hof := Lib.hid hPa.of
            have Hlo := Lib.hid hPa.lo
            clear hcan hpush htake pN pR hr' hPR hPN
            go_wp2_with fail
            refine (push_in' hPa.ar r Hr.out x.v Hcan.out _ rfl _ Htake.out).mono ?_
            rintro e w3 ⟨fa3, fc3, rfl, h3, g3⟩
            obtain ⟨hm3, om3⟩ := hPa.m.grows g3 Hom.out Hlo.out
            obtain ⟨hf3, of3⟩ := hPa.f.grows g3 Hof.out Hlo.out
            have hbx3 : w3.heap[xb]? = some (boxOf x) := (g3.kept.block xb (lt_of_block Hbx.out) (fun hG => by have := Hox.out; rw [this] at hG; cases hG)).trans Hbx.out
            have Hom3 := Lib.hid om3
            have Hof3 := Lib.hid of3
            clear om3 of3 y0 y1 y2 y3 hPa g3
            generalize hS' : S.pushS r x.v = S' at h3 HpN HpR Hpush
            have HS' := Lib.hid hS'
            clear hS'
            have y1 : w3.cell? ⟨xb, 1, none⟩ = some (.int .i64 x.row) := by rw [cell_of_block hbx3]; rfl
            obtain ⟨bf, hbf⟩ : ∃ bf : Bool, decide (0 < free.length) = bf := ⟨_, rfl⟩
            go_upto_if 135 with fail
            have Hbf := Lib.hid hbf
            clear hbf
            go_cut [17, 11, 12] (fun atv fv nv wx => MidP w a bc br S' O xb x m pm cm c free.dropLast (pickN free next) atv fv nv wx)
            case first =>
              as_aux_lemma =>
                cases bf
                · obtain rfl : free = [] := by have := of_decide_eq_false Hbf.out; exact List.eq_nil_of_length_eq_zero (by omega)
                  obtain rfl : c = next := Hc.out.symm
                  go_wp2
                  go_meet
                  exact ⟨pf, cf, fa3, fc3, rfl, rfl, by rw [show pickN [] c = c + 1 from rfl]; go_num, h3, hbx3, hm3, hf3, Hof3.out⟩
                · have hl : 0 < free.length := of_decide_eq_true Hbf.out
                  have hf : free ≠ [] := List.length_pos_iff.1 hl
                  obtain ⟨tf, of, rfl⟩ := free_some hf3 hl
                  have hlc := hf3.sl.2.1
                  have hcell : w3.cell? ⟨tf, of + (free.length - 1), none⟩ = some (.int .i64 c) := by
                    rw [← Hc.out, hf3.sl.cell (by omega), pickC, if_neg hf, List.getLast?_eq_getElem?, List.getElem?_map, List.getElem?_eq_getElem (show free.length - 1 < free.length by omega)]; rfl
                  have hsrc : SlAt w3 3 1 (some ⟨tf, of, none⟩) (free.length - 1) cf (free.dropLast.map intC) := by
                    have := hf3.sl.init hl
                    rwa [← List.map_dropLast] at this
                  have Hf := Lib.hid hf
                  have hpn : pickN free next = next := if_neg hf
                  have Hpn := Lib.hid hpn
                  clear hf hpn
                  go_wp2_with (at_builtin; refine wpList_append_new rfl (.tmp 142) (.tmp 147) 29 rfl 3 i3 (.int .i64 0) 1 8 Try.underlying29 hi3 hz30 hz31 hz32 rfl (by decide) (some ⟨w3.heap.size, 0, none⟩) 0 rfl (Fr.lit 3 1 w3).sl (some ⟨tf, of, none⟩) (free.length - 1) cf (free.dropLast.map intC) rfl (((Fr.nil 3 1 w3).alloc (.cells #[] 3)).k |> fun k => hsrc.kept fun t ht => k.block _ (hsrc.lt t ht) (fun h => h)) (int_one _) (by unfold maxLen; omega) (by omega) ?_; intro p4 c4 w4 hsl4 hg4 hb4)
                  have F4 : Fr 3 1 (free.dropLast.map intC) w3 p4 (free.length - 1) c4 w4 := Fr.app0 (Fr.lit 3 1 w3) hsl4 hg4 hb4
                  go_wp2
                  go_meet
                  exact ⟨p4, c4, fa3, fc3, rfl, by rw [List.length_dropLast], by rw [Hpn.out], h3.keptF F4.k, (F4.k.block xb (lt_of_block hbx3) (fun h => h)).trans hbx3, hm3.mono F4.k, by rw [List.length_dropLast]; exact F4.from hm3.k, fun t ht => h3.new _ (F4.nw t ht)⟩
            case rest =>
              obtain ⟨pf4, cf4, fa4, fc4, rfl, rfl, rfl, h4, hbx4, hm4, hf4, of4⟩ := hcut
              have Hof4 := Lib.hid of4
              clear y1 hbx3 hm3 hf3 h3 of4
              have y1 : wc.cell? ⟨xb, 1, none⟩ = some (.int .i64 x.row) := by rw [cell_of_block hbx4]; rfl
              have y3 : wc.cell? ⟨xb, 3, none⟩ = some (.int .i64 x.v) := by rw [cell_of_block hbx4]; rfl
              have hxs := lt_of_block hbx4
              go_upto_region 33 with fail
              go_cut [10] (fun mv wx => MidM w a bc br S' O (m ++ [Ent.mk c r x.v]) free.dropLast pf4 cf4 mv wx)
              case first =>
                as_aux_lemma =>
                  have hsm : SlAt wc 35 3 pm m.length cm (m.flatMap entC) := hm4.sl
                  have Hbx4 := Lib.hid hbx4
                  refine wp_region_vals (by kernel_rfl) (by kernel_rfl) (by kernel_rfl) (by kernel_rfl) (Kept (fun _ => False) wc) killF2
                    (fun j => (([.emp 35, .val (.slice pm m.length cm), .fr 35 3 m.length (m.flatMap entC), .val (.int .i64 c), .val (.pointer (some ⟨xb, 1, none⟩)), .val (.int .i64 x.row), .val (.pointer (some ⟨xb, 3, none⟩)), .val (.int .i64 x.v),
                      .val (.agg #[.int .i64 c, .int .i64 x.row, .int .i64 x.v]), .box 35 1 [.int .i64 c, .int .i64 x.row, .int .i64 x.v], .fr 35 3 (m.length + 1) (m.flatMap entC ++ [.int .i64 c, .int .i64 x.row, .int .i64 x.v]), .fr 35 3 (m.length + 1) (m.flatMap entC ++ [.int .i64 c, .int .i64 x.row, .int .i64 x.v])] : List Kd).getD j .any).is wc)
                    ((Kept.refl _ wc).drew) ?_ ?_
                  · clear y1 y3 hbx4
                    refine ⟨⟨rfl, ?_⟩, ⟨rfl, ?_⟩, ⟨rfl, ?_⟩, ⟨rfl, ?_⟩, ⟨rfl, ?_⟩, ⟨rfl, ?_⟩, ⟨rfl, ?_⟩, ⟨rfl, ?_⟩, ⟨rfl, ?_⟩, ⟨rfl, ?_⟩, ⟨rfl, ?_⟩, ⟨rfl, ?_⟩, trivial⟩
                    all_goals (intro a w' hC hd hV hF K hK; clear hd)
                    · clear hV hF
                      go_simp
                      exact hK _ _ ⟨_, rfl, block_alloc_new _ _, hC.size⟩ (hC.alloc _) (fun j u _ _ _ h => Kd.mono ((Kept.refl _ _).alloc _) h)
                    · have e : _ = Value.slice pm m.length cm := slotE (hF 10 (by kernel_rfl))
                      clear hV hF
                      go_simp
                      exact hK _ _ rfl hC (fun _ _ _ _ _ h => h)
                    · obtain ⟨_, ⟨b0, rfl, hb0, hn0⟩, e0⟩ := hV 0 (by kernel_rfl) (by kernel_rfl)
                      obtain ⟨_, rfl, e1⟩ := hV 1 (by kernel_rfl) (by kernel_rfl)
                      refine wp_append_emp (.tmp 158) (.tmp 159) 28 rfl 35 i35 _ 3 24 Try.underlying28 hi35 hz350 hz351 hz352 rfl (by decide) hC b0 (e0 _ rfl) hb0 hn0 pm m.length cm _ (e1 _ rfl) (hsm.kept fun t ht => hC.block _ (hsm.lt t ht) (fun h => h)) (ent_one m) (by unfold maxLen; omega) (by omega) fun v w2 h1 h2 h3 => hK v w2 h1 h2 fun j u hj hk hr h => Kd.grow h3 hb0 (Kd.rest (kills := killF2) rfl (by kernel_rfl) hj hk hr) h
                    · have e : _ = Value.int .i64 c := slotE (hF 17 (by kernel_rfl))
                      clear hV hF
                      go_simp
                      exact hK _ _ rfl hC (fun _ _ _ _ _ h => h)
                    · have e : _ = Value.pointer (some ⟨xb, 0, none⟩) := slotE (hF 14 (by kernel_rfl))
                      clear hV hF
                      go_simp
                      exact hK _ _ rfl hC (fun _ _ _ _ _ h => h)
                    · obtain ⟨_, rfl, e⟩ := hV 4 (by kernel_rfl) (by kernel_rfl)
                      have e := slotE (e _ rfl)
                      have hb := (hC.block xb hxs (fun h => h)).trans Hbx4.out
                      have y : w'.cell? ⟨xb, 1, none⟩ = some (.int .i64 x.row) := by rw [cell_of_block hb]; rfl
                      clear hV hF
                      go_simp
                      exact hK _ _ rfl hC (fun _ _ _ _ _ h => h)
                    · have e : _ = Value.pointer (some ⟨xb, 0, none⟩) := slotE (hF 14 (by kernel_rfl))
                      clear hV hF
                      go_simp
                      exact hK _ _ rfl hC (fun _ _ _ _ _ h => h)
                    · obtain ⟨_, rfl, e⟩ := hV 6 (by kernel_rfl) (by kernel_rfl)
                      have e := slotE (e _ rfl)
                      have hb := (hC.block xb hxs (fun h => h)).trans Hbx4.out
                      have y : w'.cell? ⟨xb, 3, none⟩ = some (.int .i64 x.v) := by rw [cell_of_block hb]; rfl
                      clear hV hF
                      go_simp
                      exact hK _ _ rfl hC (fun _ _ _ _ _ h => h)
                    · obtain ⟨_, rfl, e1⟩ := hV 3 (by kernel_rfl) (by kernel_rfl)
                      obtain ⟨_, rfl, e2⟩ := hV 5 (by kernel_rfl) (by kernel_rfl)
                      obtain ⟨_, rfl, e3⟩ := hV 7 (by kernel_rfl) (by kernel_rfl)
                      have e1 := slotE (e1 _ rfl)
                      have e2 := slotE (e2 _ rfl)
                      have e3 := slotE (e3 _ rfl)
                      clear hV hF
                      go_simp
                      exact hK _ _ rfl hC (fun _ _ _ _ _ h => h)
                    · obtain ⟨_, rfl, e1⟩ := hV 8 (by kernel_rfl) (by kernel_rfl)
                      have e1 := slotE (e1 _ rfl)
                      clear hV hF
                      go_simp
                      exact hK _ _ ⟨_, rfl, block_alloc_new _ _, hC.size⟩ (hC.alloc _) (fun j u _ _ _ h => Kd.mono ((Kept.refl _ _).alloc _) h)
                    · obtain ⟨u0, h0, e0⟩ := hV 2 (by kernel_rfl) (by kernel_rfl)
                      obtain ⟨_, ⟨b1, rfl, hb1, hn1⟩, e1⟩ := hV 9 (by kernel_rfl) (by kernel_rfl)
                      refine wp_append_fr (.tmp 160) (.tmp 167) 28 rfl 35 i35 _ 3 24 Try.underlying28 hi35 hz350 hz351 hz352 rfl (by decide) m.length _ u0 (e0 _ rfl) h0 _ 1 1 _ (e1 _ rfl) (SlAt.of_box hb1 rfl) (by intro u hu; simp at hu; rcases hu with rfl | rfl | rfl <;> rfl) (by unfold maxLen; omega) (by omega) fun v w2 h1 h2 => hK v w2 h1 h2 fun j u hj hk hr h => Kd.stay (Kd.rest (kills := killF2) rfl (by kernel_rfl) hj hk hr) h
                    · obtain ⟨u0, h0, e0⟩ := hV 10 (by kernel_rfl) (by kernel_rfl)
                      have e0 := slotE (e0 _ rfl)
                      clear hV hF
                      go_simp
                      exact hK _ _ h0 hC (fun _ _ _ _ _ h => h)
                  · intro vs wx hl hC hV
                    replace hl : vs.length = 12 := hl
                    obtain ⟨v0, vs, rfl, hl0⟩ := cons_of hl
                    obtain ⟨v1, vs, rfl, hl1⟩ := cons_of hl0
                    obtain ⟨v2, vs, rfl, hl2⟩ := cons_of hl1
                    obtain ⟨v3, vs, rfl, hl3⟩ := cons_of hl2
                    obtain ⟨v4, vs, rfl, hl4⟩ := cons_of hl3
                    obtain ⟨v5, vs, rfl, hl5⟩ := cons_of hl4
                    obtain ⟨v6, vs, rfl, hl6⟩ := cons_of hl5
                    obtain ⟨v7, vs, rfl, hl7⟩ := cons_of hl6
                    obtain ⟨v8, vs, rfl, hl8⟩ := cons_of hl7
                    obtain ⟨v9, vs, rfl, hl9⟩ := cons_of hl8
                    obtain ⟨v10, vs, rfl, hl10⟩ := cons_of hl9
                    obtain ⟨v11, vs, rfl, hl11⟩ := cons_of hl10
                    obtain rfl := nil_of hl11
                    obtain ⟨p2, c2, rfl, F2⟩ := hV 11 (by decide) (by decide)
                    clear hV
                    simp only [dstsOf, List.map_cons, List.map_nil, puts, Act.put, List.setIfInBounds_toArray, List.set_cons_succ, List.set_cons_zero, Exit.then]
                    refine ‹∀ (a' : Act) (w' : World), Met _ a' w' → _› _ _ ?_
                    go_meet
                    exact MidM.of h4 hm4 hf4 F2 (Kept.refl _ _) (by simp) (by rw [List.flatMap_append, Hr.out]; rfl)
              case rest =>
                as_aux_lemma =>
                  obtain ⟨pm5, cm5, fa5, fc5, rfl, h5, hm5, hf5, om5⟩ := hcut
                  have hPn : Play w a bc br N R (m ++ [Ent.mk c r x.v]) free.dropLast (pickN free next) pm5 cm5 pf4 cf4 S' fa5 fc5 O wc := ⟨h5, Hpush.out, HpN.out, HpR.out, hm5, hf5, om5, Hof4.out, Hlo.out⟩
                  clear y1 y3 hbx4 hm4 hf4 h4 om5 h5 hm5 hf5
                  generalize m ++ [Ent.mk c r x.v] = m' at hPn ⊢
                  generalize free.dropLast = free' at hPn ⊢
                  generalize pickN free next = next' at hPn ⊢
                  go_wp2
                  exact ⟨⟨k + 1, m', free', next', pm5, cm5, pf4, cf4, S', fa5, fc5, O, hlt, rfl, rfl, rfl, by go_num, hPn⟩, by simp [intOf]; omega⟩
          · as_aux_lemma =>
              have hin : S.inB x.row = true := by simp [Ar.inB, hPR]; omega
              have hfull : S.freeI = 0 := by
                have h1 := freeI_of hPa.inv
                have h2 := hPa.inv.cnt
                have h3 := hPa.inv.nx
                rw [h1, hPN]; omega
              have Hin := Lib.hid hin
              have Hfull := Lib.hid hfull
              clear hin hfull hr' hPR hPN
              go_wp2_with fail
              refine (push_full hPa.ar _ _ Hin.out Hfull.out).mono ?_
              rintro e w' ⟨⟨q, rfl⟩, rfl⟩
              have hPb := hPa.kept ((Kept.refl _ _).drewN q)
              go_wp2
              exact ⟨⟨k + 1, m, free, next, pm, cm, pf, cf, S, fa, fc, O, by omega, rfl, rfl, rfl, by go_num, hPb⟩, by simp [intOf]; omega⟩
        · as_aux_lemma =>
            have hin : S.inB x.row = false := by simp [Ar.inB, hPa.R]; omega
            have Hin := Lib.hid hin
            have hr2 : x.row < 0 ∨ (R : Int) ≤ x.row := by omega
            clear hin hr
            rcases hr2 with hr2 | hr2
            all_goals
              go_wp2_with fail
              refine (push_out hPa.ar _ _ Hin.out).mono ?_
              rintro e w' ⟨rfl, rfl⟩
              go_wp2
              exact ⟨⟨k + 1, m, free, next, pm, cm, pf, cf, S, fa, fc, O, by omega, rfl, rfl, rfl, by go_num, hPa⟩, by simp [intOf]; omega⟩
      · have hopb : (x.op == 1) = false := beq_eq_false_iff_ne.2 hop
        clear hop
        as_aux_lemma =>
          have hml := hPa.inv.mlen
          go_wp2_with fail
          have hsr : Srch m x.cell wx (.int .i64 (-1)) (.int .i64 0) wx := ⟨0, 0, -1, by omega, rfl, rfl, rfl, Found.start _ _⟩
          go_loopw [18, 19] (fun kv jv wr => Srch m x.cell wx kv jv wr) (fun _ jv _ => m.length - (intOf jv).toNat)
          case atStart => exact hsr
          case round =>
            obtain ⟨j, q, kk, hj, rfl, rfl, rfl, hF⟩ := hrel
            clear hsr
            by_cases hlt2 : j < m.length
            · obtain ⟨tm, om, rfl⟩ := ent_some hPa.m (by omega)
              obtain ⟨e, he⟩ : ∃ e, m[j]? = some e := ⟨_, List.getElem?_eq_getElem hlt2⟩
              have hlc := hPa.m.sl.2.1
              have hc0 : wx.cell? ⟨tm, om + j * 3, none⟩ = some (.int .i64 e.at_) := by
                have := ent_cell hPa.m he (k := 0) (by decide)
                rw [Nat.add_zero] at this; rw [this]; rfl
              have He := Lib.hid he
              have HPa := Lib.hid hPa
              have b1 : (0 : Int) ≤ (j : Int) := by omega
              have b2 : (j : Int) < (m.length : Int) := by omega
              clear hPa he
              by_cases heq : (e.at_ : Int) = x.cell
              · have hb : ((e.at_ : Int) == x.cell) = true := by simpa using heq
                have HF : Hid (Found m (j + 1) x.cell (j : Int)) := Found.yes He.out heq
                clear heq hF
                go_wp2_with fail
                go_quiet (fail)
                go_wp2
                exact ⟨⟨j + 1, _, j, hlt2, by go_num, rfl, rfl, HF.out⟩, by simp [intOf]; omega⟩
              · have hb : ((e.at_ : Int) == x.cell) = false := by simpa using heq
                have HF : Hid (Found m (j + 1) x.cell kk) := hF.no He.out heq
                clear heq hF
                go_wp2_with fail
                go_quiet (fail)
                go_wp2
                exact ⟨⟨j + 1, _, kk, hlt2, by go_num, rfl, rfl, HF.out⟩, by simp [intOf]; omega⟩
            · obtain rfl : j = m.length := by omega
              have hPq := hPa.kept ((Kept.refl _ wx).drewN q)
              have hbq := block_drewN (q := q) Hbx.out
              clear hPa
              rcases hF with ⟨rfl, hF⟩ | ⟨i, e, rfl, hi, he, heq⟩
              · as_aux_lemma =>
                  have hnt : S.takenB x.cell = false := hPq.inv.not_taken fun e he => hF e (by rwa [List.take_length])
                  have Hnt := Lib.hid hnt
                  clear hnt hF
                  go_wp2_with fail
                  refine (remove_no hPq.ar _ Hnt.out).mono ?_
                  rintro e w' ⟨rfl, rfl⟩
                  go_wp2
                  exact ⟨⟨k + 1, m, free, next, pm, cm, pf, cf, S, fa, fc, O, by omega, rfl, rfl, rfl, by go_num, hPq⟩, by simp [intOf]; omega⟩
              · as_aux_lemma =>
                  have hlc := hPq.m.sl.2.1
                  obtain ⟨tm, om, rfl⟩ := ent_some hPq.m (by omega)
                  have hsp : m = m.take i ++ e :: m.drop (i + 1) := by
                    have h1 : m.drop i = e :: m.drop (i + 1) := by
                      rw [List.drop_eq_getElem_cons hi]; congr 1
                      exact (List.getElem?_eq_some_iff.1 he).2
                    rw [← h1, List.take_append_drop]
                  have hI := hPq.inv
                  rw [hsp] at hI
                  have hhas := hI.has
                  have hrem := hI.remove
                  obtain ⟨rN, rR⟩ := remove_NR S e.at_
                  have Hhas := Lib.hid hhas
                  have Hrem := Lib.hid hrem
                  have HrN : Hid ((S.removeS e.at_).N = N) := by rw [rN]; exact hPq.N
                  have HrR : Hid ((S.removeS e.at_).R = R) := by rw [rR]; exact hPq.R
                  have Heq := Lib.hid heq
                  have Hom := Lib.hid hPq.om
                  have Hof := Lib.hid hPq.of
                  have Hlo := Lib.hid hPq.lo
                  have hk0 : decide ((0 : Int) ≤ (i : Int)) = true := decide_eq_true (by omega)
                  clear hI hhas hrem rN rR heq hsp he
                  go_wp2_with fail
                  refine (remove_yes' hPq.ar e.at_ e.row Heq.out.symm Hhas.out _ rfl).mono ?_
                  rintro e' w3 ⟨fa3, fc3, O4, rfl, h3, g3⟩
                  obtain ⟨hm3, om3⟩ := hPq.m.grows g3 Hom.out Hlo.out
                  obtain ⟨hf3, of3⟩ := hPq.f.grows g3 Hof.out Hlo.out
                  have hbx3 : w3.heap[xb]? = some (boxOf x) := (g3.kept.block xb (lt_of_block hbq) (fun hG => by have := Hox.out; rw [this] at hG; cases hG)).trans hbq
                  have hlo4 : ∀ i, i < w.heap.size → O4 i = false := fun i hi => (g3.old i (Nat.lt_of_lt_of_le hi hPq.m.k.size)).trans (Hlo.out i hi)
                  have Hom3 := Lib.hid om3
                  have Hof3 := Lib.hid of3
                  have Hlo4 := Lib.hid hlo4
                  clear om3 of3 hlo4 g3 hPq hbq y0 y1 y2 y3
                  generalize hS' : S.removeS e.at_ = S' at h3 HrN HrR Hrem
                  have HS' := Lib.hid hS'
                  clear hS'
                  go_upto_region 43 with fail
                  go_cut [10] (fun mv wx => MidN w a bc br S' O4 xb x (m.take i ++ m.drop (i + 1)) free pf cf mv wx)
                  case first =>
                    as_aux_lemma =>
                      have hsm : SlAt w3 35 3 (some ⟨tm, om, none⟩) m.length cm (m.flatMap entC) := hm3.sl
                      have b1 : (0 : Int) ≤ (i : Int) := by omega
                      have b2 : (i : Int) ≤ (cm : Int) := by omega
                      have b3 : (i : Int) + 1 ≤ (m.length : Int) := by omega
                      have b4 : (m.length : Int) ≤ (cm : Int) := by omega
                      have b5 : (0 : Int) ≤ (i : Int) + 1 := by omega
                      have hst : SlAt w3 35 3 (some ⟨tm, om, none⟩) i cm ((m.take i).flatMap entC) := by
                        have := hsm.take (k := i) (by omega)
                        rwa [fm_take entC_len] at this
                      have hsd : SlAt w3 35 3 (some ⟨tm, om + (i + 1) * 3, none⟩) (m.length - (i + 1)) (cm - (i + 1)) ((m.drop (i + 1)).flatMap entC) := by
                        have := hsm.drop (k := i + 1) (by omega)
                        rwa [fm_drop entC_len] at this
                      have hsa : cm = i + 1 → SlAt w3 35 3 (some ⟨tm, om, none⟩) (m.length - (i + 1)) (cm - (i + 1)) ((m.drop (i + 1)).flatMap entC) := fun h => by
                        have := hsm.drop_all
                        rw [show m.length - (i + 1) = 0 by omega, show cm - (i + 1) = 0 by omega, List.drop_of_length_le (by omega)]; exact this
                      have Hst := Lib.hid hst
                      have Hsd := Lib.hid hsd
                      have Hsa := Lib.hid hsa
                      have Hsm := Lib.hid hsm
                      clear hst hsd hsa hsm
                      refine wp_region_vals (by kernel_rfl) (by kernel_rfl) (by kernel_rfl) (by kernel_rfl) (Kept (fun _ => False) w3) killF3
                        (fun j => (([.emp 35, .val (.slice (some ⟨tm, om, none⟩) m.length cm), .val (.int .i64 i), .val (.slice (some ⟨tm, om, none⟩) i cm), .fr 35 3 i ((m.take i).flatMap entC), .val (.slice (some ⟨tm, om, none⟩) m.length cm), .val (.int .i64 i), .val (.int .i64 ((i : Int) + 1)),
                          .old 35 3 (m.length - (i + 1)) (cm - (i + 1)) ((m.drop (i + 1)).flatMap entC), .fr 35 3 (i + (m.length - (i + 1))) ((m.take i).flatMap entC ++ (m.drop (i + 1)).flatMap entC), .fr 35 3 (i + (m.length - (i + 1))) ((m.take i).flatMap entC ++ (m.drop (i + 1)).flatMap entC)] : List Kd).getD j .any).is w3)
                        ((Kept.refl _ w3).drew) ?_ ?_
                      · clear hbx3
                        refine ⟨⟨rfl, ?_⟩, ⟨rfl, ?_⟩, ⟨rfl, ?_⟩, ⟨rfl, ?_⟩, ⟨rfl, ?_⟩, ⟨rfl, ?_⟩, ⟨rfl, ?_⟩, ⟨rfl, ?_⟩, ⟨rfl, ?_⟩, ⟨rfl, ?_⟩, ⟨rfl, ?_⟩, trivial⟩
                        all_goals (intro a w' hC hd hV hF K hK; clear hd)
                        · clear hV hF
                          go_simp
                          exact hK _ _ ⟨_, rfl, block_alloc_new _ _, hC.size⟩ (hC.alloc _) (fun j u _ _ _ h => Kd.mono ((Kept.refl _ _).alloc _) h)
                        · have e1 : _ = Value.slice (some ⟨tm, om, none⟩) m.length cm := slotE (hF 10 (by kernel_rfl))
                          clear hV hF
                          go_simp
                          exact hK _ _ rfl hC (fun _ _ _ _ _ h => h)
                        · have e1 : _ = Value.int .i64 i := slotE (hF 18 (by kernel_rfl))
                          clear hV hF
                          go_simp
                          exact hK _ _ rfl hC (fun _ _ _ _ _ h => h)
                        · obtain ⟨_, rfl, e1⟩ := hV 1 (by kernel_rfl) (by kernel_rfl)
                          obtain ⟨_, rfl, e2⟩ := hV 2 (by kernel_rfl) (by kernel_rfl)
                          have e1 := slotE (e1 _ rfl)
                          have e2 := slotE (e2 _ rfl)
                          clear hV hF
                          go_simp
                          exact hK _ _ rfl hC (fun _ _ _ _ _ h => h)
                        · obtain ⟨_, ⟨b0, rfl, hb0, hn0⟩, e0⟩ := hV 0 (by kernel_rfl) (by kernel_rfl)
                          obtain ⟨_, rfl, e1⟩ := hV 3 (by kernel_rfl) (by kernel_rfl)
                          refine wp_append_emp (.tmp 193) (.tmp 196) 28 rfl 35 i35 _ 3 24 Try.underlying28 hi35 hz350 hz351 hz352 rfl (by decide) hC b0 (e0 _ rfl) hb0 hn0 _ i cm _ (e1 _ rfl) (Hst.out.kept fun t ht => hC.block _ (Hst.out.lt t ht) (fun h => h)) (ent_one _) (by unfold maxLen; omega) (by omega) fun v w2 h1 h2 h3 => hK v w2 h1 h2 fun j u hj hk hr h => Kd.grow h3 hb0 (Kd.rest (kills := killF3) rfl (by kernel_rfl) hj hk hr) h
                        · have e1 : _ = Value.slice (some ⟨tm, om, none⟩) m.length cm := slotE (hF 10 (by kernel_rfl))
                          clear hV hF
                          go_simp
                          exact hK _ _ rfl hC (fun _ _ _ _ _ h => h)
                        · have e1 : _ = Value.int .i64 i := slotE (hF 18 (by kernel_rfl))
                          clear hV hF
                          go_simp
                          exact hK _ _ rfl hC (fun _ _ _ _ _ h => h)
                        · obtain ⟨_, rfl, e1⟩ := hV 6 (by kernel_rfl) (by kernel_rfl)
                          have e1 := slotE (e1 _ rfl)
                          have s1 : IntKind.i64.wrap ((i : Int) + 1) = (i : Int) + 1 := IntWalk.i64_in _ (by omega)
                          clear hV hF
                          go_simp
                          exact hK _ _ rfl hC (fun _ _ _ _ _ h => h)
                        · obtain ⟨_, rfl, e1⟩ := hV 5 (by kernel_rfl) (by kernel_rfl)
                          obtain ⟨_, rfl, e2⟩ := hV 7 (by kernel_rfl) (by kernel_rfl)
                          have e1 := slotE (e1 _ rfl)
                          have e2 := slotE (e2 _ rfl)
                          clear hV hF
                          by_cases hcap : cm = i + 1
                          · have hsl := Hsa.out hcap
                            have Hcap := Lib.hid hcap
                            have b6 : (cm : Int) = (i : Int) + 1 := by omega
                            have Hsl := Lib.hid hsl
                            clear hcap hsl
                            go_simp
                            rw [if_pos Hcap.out]
                            exact hK _ _ ⟨_, rfl, Hsl.out⟩ hC (fun _ _ _ _ _ h => h)
                          · have b6 : ¬ (cm : Int) = (i : Int) + 1 := by omega
                            go_simp
                            exact hK _ _ ⟨_, rfl, Hsd.out⟩ hC (fun _ _ _ _ _ h => h)
                        · obtain ⟨u0, h0, e0⟩ := hV 4 (by kernel_rfl) (by kernel_rfl)
                          obtain ⟨_, ⟨p1, rfl, hs1⟩, e1⟩ := hV 8 (by kernel_rfl) (by kernel_rfl)
                          refine wp_append_fr (.tmp 197) (.tmp 201) 28 rfl 35 i35 _ 3 24 Try.underlying28 hi35 hz350 hz351 hz352 rfl (by decide) i _ u0 (e0 _ rfl) h0 _ _ _ _ (e1 _ rfl) (hs1.kept fun t ht => hC.block _ (hs1.lt t ht) (fun h => h)) (ent_one _) (by unfold maxLen; omega) (by omega) fun v w2 h1 h2 => hK v w2 h1 h2 fun j u hj hk hr h => Kd.stay (Kd.rest (kills := killF3) rfl (by kernel_rfl) hj hk hr) h
                        · obtain ⟨u0, h0, e0⟩ := hV 9 (by kernel_rfl) (by kernel_rfl)
                          have e0 := slotE (e0 _ rfl)
                          clear hV hF
                          go_simp
                          exact hK _ _ h0 hC (fun _ _ _ _ _ h => h)
                      · intro vs wx hl hC hV
                        replace hl : vs.length = 11 := hl
                        obtain ⟨v0, vs, rfl, hl0⟩ := cons_of hl
                        obtain ⟨v1, vs, rfl, hl1⟩ := cons_of hl0
                        obtain ⟨v2, vs, rfl, hl2⟩ := cons_of hl1
                        obtain ⟨v3, vs, rfl, hl3⟩ := cons_of hl2
                        obtain ⟨v4, vs, rfl, hl4⟩ := cons_of hl3
                        obtain ⟨v5, vs, rfl, hl5⟩ := cons_of hl4
                        obtain ⟨v6, vs, rfl, hl6⟩ := cons_of hl5
                        obtain ⟨v7, vs, rfl, hl7⟩ := cons_of hl6
                        obtain ⟨v8, vs, rfl, hl8⟩ := cons_of hl7
                        obtain ⟨v9, vs, rfl, hl9⟩ := cons_of hl8
                        obtain ⟨v10, vs, rfl, hl10⟩ := cons_of hl9
                        obtain rfl := nil_of hl10
                        obtain ⟨p2, c2, rfl, F2⟩ := hV 10 (by decide) (by decide)
                        clear hV
                        simp only [dstsOf, List.map_cons, List.map_nil, puts, Act.put, List.setIfInBounds_toArray, List.set_cons_succ, List.set_cons_zero, Exit.then]
                        refine ‹∀ (a' : Act) (w' : World), Met _ a' w' → _› _ _ ?_
                        go_meet
                        exact MidN.of h3 hm3 hf3 hbx3 F2 (by simp; omega) (by rw [List.flatMap_append])
                  case rest =>
                    as_aux_lemma =>
                      obtain ⟨pm5, cm5, fa5, fc5, rfl, h5, hbx5, hm5, hf5, om5⟩ := hcut
                      have Hom5 := Lib.hid om5
                      have hfl : free.length ≤ 4096 := by omega
                      have y2 : wc.cell? ⟨xb, 2, none⟩ = some (.int .i64 e.at_) := by rw [Heq.out, cell_of_block hbx5]; rfl
                      have Hbx5 := Lib.hid hbx5
                      clear om5 hm3 hf3 hbx3 h3 hbx5
                      generalize hml' : m.take i ++ m.drop (i + 1) = m' at hm5 Hrem ⊢
                      have Hml' := Lib.hid hml'
                      clear hml'
                      go_wp2_with (at_builtin; refine wpList_append_any rfl (.tmp 203) (.tmp 206) 29 rfl 3 i3 (.int .i64 0) 1 8 Try.underlying29 hi3 hz30 hz31 hz32 rfl (by decide) pf free.length cf (free.map intC) rfl (hf5.alloc _).sl (some ⟨wc.heap.size, 0, none⟩) 1 1 [intC e.at_] rfl (SlAt.one (block_alloc_new _ _) rfl) (by intro u hu; simp at hu; subst hu; rfl) (by unfold maxLen; omega) (by omega) ?_; intro p6 c6 w6 hsl6 hg6 hb6)
                      have F6 : Fr 3 1 ((free ++ [e.at_]).map intC) w p6 (free.length + 1) c6 w6 := by
                        rw [List.map_append]
                        exact (hf5.alloc _).app hsl6 hg6 hb6
                      have M6 : Fr 35 3 (m'.flatMap entC) w pm5 m'.length cm5 w6 := (hm5.alloc _).apart (hf5.alloc _) (by decide) hg6
                      have A6 : ArAt w6 a bc br fa5 fc5 S' O4 := (h5.keptF ((Kept.refl _ _).alloc _)).grownF Hof3.out hg6
                      have HPn : Hid (Play w a bc br N R m' (free ++ [e.at_]) next pm5 cm5 p6 c6 S' fa5 fc5 O4 w6) := ⟨A6, Hrem.out, HrN.out, HrR.out, M6, by rw [List.length_append]; exact F6, Hom5.out, fun t ht => (hb6 t ht).elim (fun h => by
                        cases hp : pf with
                        | none => rw [hp] at h; cases h
                        | some u =>
                          rw [hp] at h
                          have h7 : u.block = t.block := by simpa using h
                          rw [← h7]; exact Hof3.out u hp) (fun h => h5.new _ (by simp at h; omega)), Hlo4.out⟩
                      clear F6 M6 A6 hsl6 hg6 hb6 h5 hm5 hf5 y2
                      go_wp2
                      exact ⟨⟨k + 1, m', free ++ [e.at_], next, pm5, cm5, p6, c6, S', fa5, fc5, O4, hlt, rfl, by rw [List.length_append]; rfl, rfl, by go_num, HPn.out⟩, by simp [intOf]; omega⟩
    · obtain rfl : k = len := by omega
      as_aux_lemma =>
        have HP := Lib.hid hP
        have hml := hP.inv.mlen
        have hrs : Rows wr R (.int .i64 0) wr := ⟨0, Nat.zero_le _, rfl, Kept.refl _ _⟩
        clear hP
        generalize wr = W at HP hrs ⊢
        go_wp2_with fail
        go_loopw [20] (fun rv wr => Rows W R rv wr) (fun rv _ => R - (intOf rv).toNat)
        case atStart => exact hrs
        case round =>
          obtain ⟨r, hr, rfl, hkr⟩ := hrel
          clear hrs
          by_cases hlt2 : r < R
          · have hPr := HP.out.kept hkr
            have hrS : r < S.R := by rw [hPr.R]; exact hlt2
            have hin : S.inB r = true := by simp [Ar.inB, hrS]
            have hlk : if S.inB (r : Int) = true then LinkFrom S (S.ends (r : Int).toNat).first (rowOf m r) else rowOf m r = [] := by rw [if_pos hin]; exact hPr.inv.link hrS
            have hll : (rowOf m r).length ≤ 4096 := Nat.le_trans (rowOf_len m r) (by omega)
            have hfat := front_at hlk
            have hle := hPr.inv.lenI hrS
            have hxl : ∃ x, LinkFrom S x (rowOf m r) := by rw [if_pos hin] at hlk; exact ⟨_, hlk⟩
            have Hlk := Lib.hid hlk
            have Hfat := Lib.hid hfat
            have Hle := Lib.hid hle
            have Hxl := Lib.hid hxl
            have Hk := Lib.hid hkr
            have HPr := Lib.hid hPr
            clear hin hlk hfat hle hrS hkr hPr hxl
            go_wp2_with fail
            refine (row_any HPr.out.ar _ _ Hlk.out hll).mono ?_
            rintro e w3 ⟨p3, rfl, hsl3, hA3, hk3, hn3⟩
            have hP3 := HPr.out.kept hk3
            have Hk3 := Lib.hid (Hk.out.trans hk3)
            have Hn3 := Lib.hid hn3
            clear hA3 hk3 hn3
            go_wp2_with fail
            refine (front_any hP3.ar _).mono ?_
            rintro e w' ⟨rfl, rfl⟩
            have hsd : Side m r w3 (.int .i64 0) (.int .i64 (S.frontI r)) (.bool (S.frontB r)) (.int .i64 0) w3 := ⟨0, 0, Nat.zero_le _, rfl, rfl, Hfat.out, rfl⟩
            generalize S.frontI r = v1 at hsd ⊢
            generalize S.frontB r = v2 at hsd ⊢
            go_wp2_with fail
            go_loopw [22, 23, 24, 25] (fun nv av ov jv wr => Side m r w3 nv av ov jv wr) (fun _ _ _ jv _ => m.length - (intOf jv).toNat)
            case atStart => exact hsd
            case round =>
              obtain ⟨j, q, hj, rfl, rfl, hat, rfl⟩ := hrel
              clear hsd
              by_cases hlt3 : j < m.length
              · as_aux_lemma =>
                  obtain ⟨tm, om, rfl⟩ := ent_some hP3.m (by omega)
                  obtain ⟨e, he⟩ : ∃ e, m[j]? = some e := ⟨_, List.getElem?_eq_getElem hlt3⟩
                  have hlc := hP3.m.sl.2.1
                  have c0 : w3.cell? ⟨tm, om + j * 3, none⟩ = some (.int .i64 e.at_) := by
                    have := ent_cell hP3.m he (k := 0) (by decide)
                    rw [Nat.add_zero] at this; rw [this]; rfl
                  have c1 : w3.cell? ⟨tm, om + j * 3 + 1, none⟩ = some (.int .i64 e.row) := by
                    have := ent_cell hP3.m he (k := 1) (by decide)
                    rw [← Nat.add_assoc] at this; rw [this]; rfl
                  have c2 : w3.cell? ⟨tm, om + j * 3 + 2, none⟩ = some (.int .i64 e.v) := by
                    have := ent_cell hP3.m he (k := 2) (by decide)
                    rw [← Nat.add_assoc] at this; rw [this]; rfl
                  have hmem : e ∈ m := List.mem_of_getElem? he
                  have b1 : (0 : Int) ≤ (j : Int) := by omega
                  have b2 : (j : Int) < (m.length : Int) := by omega
                  have hnl : (rowOf (m.take j) r).length ≤ m.length := Nat.le_trans (rowOf_len _ r) (by rw [List.length_take]; omega)
                  by_cases hrow : e.row = r
                  · obtain ⟨d1, d2⟩ := rowOf_drop_yes he hrow
                    have hspl := rowOf_split m j r
                    rw [d1] at hspl hat
                    obtain ⟨rfl, rfl⟩ := hat
                    have hll2 : (rowOf m r).length = (rowOf (m.take j) r).length + (rowOf (m.drop (j + 1)) r).length + 1 := by rw [hspl]; simp; omega
                    have hv : S.valI e.at_ = e.v := hP3.inv.valI hmem
                    have ht : S.takenB e.at_ = true := hP3.inv.taken hmem
                    have hnx : At (rowOf (m.drop (j + 1)) r) (.int .i64 (S.nextI e.at_)) (.bool (S.nextB e.at_)) := by
                      obtain ⟨x, hx⟩ := Hxl.out
                      rw [hspl] at hx
                      obtain ⟨y, hy⟩ := hx.suffix
                      exact next_at hy
                    obtain ⟨t3, o3, rfl⟩ : ∃ t3 o3, p3 = some ⟨t3, o3, none⟩ := by
                      rcases hsl3.2.2 with ⟨_, h⟩ | ⟨t, o, arr, h, _⟩
                      · omega
                      · exact ⟨t, o, h⟩
                    have cv : w3.cell? ⟨t3, o3 + (rowOf (m.take j) r).length, none⟩ = some (.int .i64 e.v) := by
                      rw [hsl3.cell (by omega), vals, List.getElem?_map, hspl, List.getElem?_append_right (Nat.le_refl _)]
                      simp
                      rw [← hv, Ar.valI, if_pos ht]; simp
                    have hne : ((e.row : Int) != (r : Int)) = false := by rw [hrow]; simp
                    have Hnx := Lib.hid hnx
                    have Hv := Lib.hid hv
                    have Ht := Lib.hid ht
                    have Hd2 := Lib.hid d2
                    have Hl2 := Lib.hid hll2
                    have b3 : (rowOf (m.take j) r).length < (rowOf m r).length := by omega
                    clear hnx hv ht d1 d2 hspl hrow he hsl3 hll2
                    generalize (rowOf (m.take j) r).length = n at *
                    generalize (rowOf m r).length = ll at *
                    have hq3 := hP3.kept ((Kept.refl _ w3).drewN q)
                    have b4 : decide (ll ≤ n) = false := decide_eq_false (by omega)
                    have b5 : (0 : Int) ≤ (n : Int) := by omega
                    have b6 : (n : Int) < (ll : Int) := by omega
                    go_wp2_with fail
                    refine (value_any hq3.ar _).mono ?_
                    rintro e1 w' ⟨rfl, rfl⟩
                    rw [Hv.out, Ht.out]
                    go_wp2_with fail
                    go_quiet (fail)
                    go_wp2_with fail
                    refine (next_any (hP3.kept ((Kept.refl _ w3).drewN _)).ar _).mono ?_
                    rintro e1 w' ⟨rfl, rfl⟩
                    go_wp2
                    exact ⟨⟨j + 1, _, hlt3, by go_num, by rw [Hd2.out]; go_num, Hnx.out, rfl⟩, by simp [intOf]; omega⟩
                  · obtain ⟨d1, d2⟩ := rowOf_drop_no he hrow
                    have hne : ((e.row : Int) != (r : Int)) = true := by rw [bne_iff_ne]; omega
                    rw [d1] at hat
                    have Hat := Lib.hid hat
                    have Hd2 := Lib.hid d2
                    clear hat d1 d2 hrow he
                    generalize (rowOf (m.take j) r).length = n at *
                    go_wp2_with fail
                    exact ⟨⟨j + 1, q, hlt3, by go_num, by rw [Hd2.out], Hat.out, rfl⟩, by simp [intOf]; omega⟩
              · as_aux_lemma =>
                  obtain rfl : j = m.length := by omega
                  rw [List.drop_length] at hat
                  obtain ⟨rfl, rfl⟩ := hat
                  rw [List.take_length]
                  have hq3 := hP3.kept ((Kept.refl _ w3).drewN q)
                  have Hsl3 := Lib.hid hsl3
                  have hkq := Hk3.out.drewN q
                  have Hkq := Lib.hid hkq
                  clear hsl3 hkq
                  generalize hgl : (rowOf m r).length = ll at *
                  have Hgl := Lib.hid hgl
                  clear hgl
                  go_wp2_with fail
                  refine (len_any hq3.ar _).mono ?_
                  rintro e1 w' ⟨rfl, rfl⟩
                  rw [Hle.out]
                  go_wp2_with fail
                  exact ⟨⟨r + 1, hlt2, by go_num, Hkq.out⟩, by simp [intOf]; omega⟩
          · as_aux_lemma =>
              obtain rfl : r = R := by omega
              have hPr := HP.out.kept hkr
              have hfr := freeI_of hPr.inv
              rw [hPr.N] at hfr
              have hlr : S.lenI r = 0 := by rw [Ar.lenI, if_neg (by simp [Ar.inB, hPr.R])]
              have Hfr := Lib.hid hfr
              have Hlr := Lib.hid hlr
              clear hfr hlr
              go_wp2_with fail
              refine (free_any hPr.ar).mono ?_
              rintro e1 w' ⟨q, rfl, rfl⟩
              have hPq := hPr.kept ((Kept.refl _ _).drewN q)
              rw [Hfr.out]
              go_wp2_with fail
              refine (len_any hPq.ar _).mono ?_
              rintro e1 w' ⟨rfl, rfl⟩
              rw [Hlr.out]
              go_wp2_with fail
              go_ret
              exact ⟨rfl, hPq.m.k⟩
end Go.Proofs.Ytpcoffpdkfbhdaa
