/- Alloc: the prices that a leg may be had at, by the reference: moved 26. -/
import Derived.Test.YtgbdnodkbdkaeaaAl
namespace Go.Proofs.Ytgbdnodkbdkaeaa
open Go Go.RowKit

def movedF (s : Int) (t : Tp) (xs : List (Int × Int)) : Nat → Int → List Int
  | 0, _ => []
  | n + 1, p => if insideB t p = true then p :: (match nextP s xs p with | none => [] | some q => movedF s t xs n q) else []
def movedP (s : Int) (t : Tp) (xs : List (Int × Int)) : List Int := movedF s t xs 13 (startP s t)
def MdRel (s : Int) (t : Tp) (xs : List (Int × Int)) (L : List Int) (w0 : World) (ov pv iv : Value) (wr : World) : Prop :=
  ∃ (i : Nat) (p : Int) (l : List Int) (op : Option Addr) (cap : Nat), i ≤ 13 ∧ pv = .int .i64 p ∧ ov = .slice op l.length cap ∧ iv = .int .i64 i ∧ L = l ++ movedF s t xs (13 - i) p ∧ l.length = i ∧ Fr 2 1 (l.map intC) w0 op l.length cap wr
theorem inside_refb (bid bq ask aq : Int) (bc ac : Bool) (p : Int) (w : World) : Calls Try.prog 31 #[.agg #[.int .i64 bid, .int .i64 bq, .int .i64 ask, .int .i64 aq, .bool bc, .bool ac], .int .i64 p] w (BlPost (insideB ⟨bid, bq, ask, aq, bc, ac⟩ p) w) := by
  have h := inside_ref (Tp.mk bid bq ask aq bc ac) p w
  exact h
set_option maxRecDepth 100000 in
set_option maxHeartbeats 1000000 in
theorem moved_any {w : World} {b off cap : Nat} {xs : List (Int × Int)} (x : Lg) (hx : x.sgn = 1 ∨ x.sgn = -1) (t : Tp) (hg : GoodT xs) (hb : b < w.heap.size) (hs : StAt w b off xs) :
    Calls Try.prog 26 #[.agg #[.int .i64 x.ser, .int .i64 x.sgn, .int .i64 x.rat], .agg #[.int .i64 t.bid, .int .i64 t.bq, .int .i64 t.ask, .int .i64 t.aq, .bool t.bc, .bool t.ac], .slice (some ⟨b, off, none⟩) xs.length cap] w (SlPost (movedP x.sgn t xs) w) := by
  obtain ⟨i0, hi0, hz0, hz1, hz2⟩ := info_parts Try.info2'
  have hqx : ((w.alloc (.cells #[.int .i64 x.ser, .int .i64 x.sgn, .int .i64 x.rat] 76)).alloc (.cells #[.int .i64 t.bid, .int .i64 t.bq, .int .i64 t.ask, .int .i64 t.aq, .bool t.bc, .bool t.ac] 74)).heap[w.heap.size]? = some (.cells #[.int .i64 x.ser, .int .i64 x.sgn, .int .i64 x.rat] 76 (0, 0)) := block_alloc (block_new3 _ _)
  have hqt : ((w.alloc (.cells #[.int .i64 x.ser, .int .i64 x.sgn, .int .i64 x.rat] 76)).alloc (.cells #[.int .i64 t.bid, .int .i64 t.bq, .int .i64 t.ask, .int .i64 t.aq, .bool t.bc, .bool t.ac] 74)).heap[w.heap.size + 1]? = some (.cells #[.int .i64 t.bid, .int .i64 t.bq, .int .i64 t.ask, .int .i64 t.aq, .bool t.bc, .bool t.ac] 74 (0, 0)) := by
    have := block_new3 (w.alloc (.cells #[.int .i64 x.ser, .int .i64 x.sgn, .int .i64 x.rat] 76)) (.cells #[.int .i64 t.bid, .int .i64 t.bq, .int .i64 t.ask, .int .i64 t.aq, .bool t.bc, .bool t.ac] 74)
    rwa [show (w.alloc (.cells #[.int .i64 x.ser, .int .i64 x.sgn, .int .i64 x.rat] 76)).heap.size = w.heap.size + 1 by simp] at this
  have hk : Kept (fun _ => False) w ((w.alloc (.cells #[.int .i64 x.ser, .int .i64 x.sgn, .int .i64 x.rat] 76)).alloc (.cells #[.int .i64 t.bid, .int .i64 t.bq, .int .i64 t.ask, .int .i64 t.aq, .bool t.bc, .bool t.ac] 74)) := ((Kept.refl _ _).alloc _).alloc _
  have hs0 := hs.kept hb hk
  have hb0 := Nat.lt_of_lt_of_le hb hk.size
  have Hg := Lib.hid hg
  have Hs0 := Lib.hid hs0
  have Hb0 := Lib.hid hb0
  obtain ⟨ser, sgn, rat⟩ := x
  obtain ⟨bid, bq, ask, aq, bc, ac⟩ := t
  simp only at hqx hqt hk Hs0 Hb0 hx ⊢
  obtain ⟨L, hL⟩ : ∃ L, movedP sgn (Tp.mk bid bq ask aq bc ac) xs = L := ⟨_, rfl⟩
  rw [hL]
  have HL := Lib.hid hL
  clear hs hb hg hs0 hb0 hL
  obtain ⟨len, hlen⟩ : ∃ len, xs.length = len := ⟨_, rfl⟩
  have Hlen := Lib.hid hlen
  rw [hlen]
  clear hlen
  go_enter Try.func26, Try.ntmps26
  go_upto_region 1 with fail
  generalize w.heap.size + 1 = tq at hqt ⊢
  generalize w.heap.size = xq at hqx ⊢
  generalize (w.alloc (.cells #[.int .i64 ser, .int .i64 sgn, .int .i64 rat] 76)).alloc (.cells #[.int .i64 bid, .int .i64 bq, .int .i64 ask, .int .i64 aq, .bool bc, .bool ac] 74) = w0 at hqx hqt hk Hs0 Hb0 ⊢
  have c1 : w0.cell? ⟨xq, 1, none⟩ = some (.int .i64 sgn) := by rw [cell_of_block hqx]; rfl
  have t0 : w0.cell? ⟨tq, 0, none⟩ = some (.int .i64 bid) := by rw [cell_of_block hqt]; rfl
  have t2 : w0.cell? ⟨tq, 2, none⟩ = some (.int .i64 ask) := by rw [cell_of_block hqt]; rfl
  rcases hx with rfl | rfl
  · have hst : Hid (MdRel 1 (Tp.mk bid bq ask aq bc ac) xs L w0 (.slice none 0 0) (.int .i64 ask) (.int .i64 0) w0) := ⟨0, ask, [], none, 0, by omega, rfl, rfl, rfl, HL.out.symm, rfl, Fr.nil _ _ _⟩
    go_wp2_with fail
    clear c1 t0 t2
    go_loopw [7, 8, 9] (fun ov pv iv wr => MdRel 1 (Tp.mk bid bq ask aq bc ac) xs L w0 ov pv iv wr) (fun _ _ iv _ => 13 - (intOf iv).toNat)
    case atStart => exact hst.out
    case round =>
      obtain ⟨i, p, l, op, oc, hi, rfl, rfl, rfl, hL, hll, hF⟩ := hrel
      clear hst
      by_cases hlt : i < 13
      · obtain ⟨m, hm⟩ : ∃ m, insideB (Tp.mk bid bq ask aq bc ac) p = m := ⟨_, rfl⟩
        have hnx : nextP 1 xs p = downT xs p := rfl
        have hM : L = l ++ (if m = true then p :: (match nextP 1 xs p with | none => [] | some q => movedF 1 (Tp.mk bid bq ask aq bc ac) xs (12 - i) q) else []) := by
          rw [hL, ← hm, show 13 - i = (12 - i) + 1 by omega]; rfl
        have HM := Lib.hid hM
        have Hnx := Lib.hid hnx
        have Hll := Lib.hid hll
        have hqr := (hF.k.block tq (lt_of_block hqt) (fun h => h)).trans hqt
        have hmy : Hid (Calls Try.prog 31 #[.agg #[.int .i64 bid, .int .i64 bq, .int .i64 ask, .int .i64 aq, .bool bc, .bool ac], .int .i64 p] wr (BlPost m wr)) := by
          have := inside_refb bid bq ask aq bc ac p wr
          rw [hm] at this; exact this
        clear hM hnx hm hL
        have hll2 : l.length ≤ 12 := by omega
        clear hll
        have t0 : wr.cell? ⟨tq, 0, none⟩ = some (.int .i64 bid) := by rw [cell_of_block hqr]; rfl
        have t1 : wr.cell? ⟨tq, 1, none⟩ = some (.int .i64 bq) := by rw [cell_of_block hqr]; rfl
        have t2 : wr.cell? ⟨tq, 2, none⟩ = some (.int .i64 ask) := by rw [cell_of_block hqr]; rfl
        have t3 : wr.cell? ⟨tq, 3, none⟩ = some (.int .i64 aq) := by rw [cell_of_block hqr]; rfl
        have t4 : wr.cell? ⟨tq, 4, none⟩ = some (.bool bc) := by rw [cell_of_block hqr]; rfl
        have t5 : wr.cell? ⟨tq, 5, none⟩ = some (.bool ac) := by rw [cell_of_block hqr]; rfl
        go_wp2_with fail
        refine hmy.out.mono ?_
        rintro e w1 ⟨rfl, k1⟩
        have F1 := hF.mono k1
        clear t0 t1 t2 t3 t4 t5 hqr hmy hF k1
        cases m with
        | true =>
          go_wp2_with (at_builtin; refine wpList_append_any rfl (.tmp 28) (.tmp 30) 30 rfl 2 i0 (.int .i64 0) 1 8 Try.underlying30 hi0 hz0 hz1 hz2 rfl (by decide) op l.length oc (l.map intC) rfl (F1.alloc _).sl (some ⟨w1.heap.size, 0, none⟩) 1 1 [intC p] rfl (SlAt.one (block_alloc_new _ _) rfl) (by intro u hu; simp at hu; subst hu; rfl) (by unfold maxLen; omega) (by omega) ?_; intro p6 c6 w6 hsl6 hg6 hb6)
          have F6 : Fr 2 1 ((l ++ [p]).map intC) w0 p6 (l.length + 1) c6 w6 := by
            rw [List.map_append]
            exact (F1.alloc _).app hsl6 hg6 hb6
          clear hsl6 hg6 hb6 F1
          replace HM : Hid (L = l ++ p :: (match nextP 1 xs p with | none => [] | some q => movedF 1 (Tp.mk bid bq ask aq bc ac) xs (12 - i) q)) := by
            have := HM.out
            show L = _
            simpa only [if_true, eq_self] using this
          have hup : Hid (∀ w', Kept (fun _ => False) w0 w' → Calls Try.prog 47 #[.slice (some ⟨b, off, none⟩) len cap, .int .i64 p] w' (OpPost (upT xs p) w')) := fun w' k => by
            have := up_ref (cap := cap) p Hg.out (Nat.lt_of_lt_of_le Hb0.out k.size) (Hs0.out.kept Hb0.out k)
            rw [Hlen.out] at this; exact this
          have hdn : Hid (∀ w', Kept (fun _ => False) w0 w' → Calls Try.prog 48 #[.slice (some ⟨b, off, none⟩) len cap, .int .i64 p] w' (OpPost (downT xs p) w')) := fun w' k => by
            have := down_ref (cap := cap) p Hg.out (Nat.lt_of_lt_of_le Hb0.out k.size) (Hs0.out.kept Hb0.out k)
            rw [Hlen.out] at this; exact this
          obtain ⟨o, ho⟩ : ∃ o, downT xs p = o := ⟨_, rfl⟩
          have Ho := Lib.hid ho
          clear ho
          go_wp2_with fail
          refine (hup.out w6 F6.k).mono ?_
          rintro e w7 ⟨rfl, k7⟩
          have F7 := F6.mono k7
          clear F6 k7 hup
          have c1 : w7.cell? ⟨xq, 1, none⟩ = some (.int .i64 1) := by rw [cell_of_block ((F7.k.block xq (lt_of_block hqx) (fun h => h)).trans hqx)]; rfl
          go_wp2_with fail
          refine (hdn.out w7 F7.k).mono ?_
          rintro e w8 ⟨rfl, k8⟩
          have F8 := F7.mono k8
          clear F7 k8 hdn c1
          rw [Ho.out]
          cases o with
          | none =>
            have hfin : L = l ++ [p] := by
              have := HM.out
              rw [Hnx.out, Ho.out] at this
              simpa using this
            clear Hnx Ho HM
            simp only [Option.getD_none, Option.isSome_none]
            go_wp2
            go_ret
            exact ⟨p6, c6, by rw [hfin]; first | rfl | (rw [List.length_append]; rfl), by rw [hfin]; first | exact F8.from hk | (rw [List.length_append]; exact F8.from hk)⟩
          | some q =>
            simp only [Option.getD_some, Option.isSome_some]
            have hfin : Hid (L = (l ++ [p]) ++ movedF 1 (Tp.mk bid bq ask aq bc ac) xs (13 - (i + 1)) q) := by
              have := HM.out
              rw [Hnx.out, Ho.out] at this
              rw [show 13 - (i + 1) = 12 - i by omega, List.append_assoc]
              exact this
            clear Hnx Ho HM
            go_wp2
            exact ⟨⟨i + 1, q, l ++ [p], p6, c6, by omega, rfl, by first | rfl | (rw [List.length_append]; rfl), by push_cast; rfl, hfin.out, by rw [List.length_append]; have := Hll.out; simp; omega, by first | exact F8 | (rw [List.length_append]; exact F8)⟩, by simp [intOf]; omega⟩
        | false =>
          have hfin : L = l := by
            have := HM.out
            simpa using this
          clear Hnx HM
          go_wp2
          go_ret
          exact ⟨op, oc, by rw [hfin]; rfl, by rw [hfin]; exact F1.from hk⟩
      · obtain rfl : i = 13 := by omega
        have hfin : L = l := by simpa [movedF] using hL
        clear hL hll
        go_wp2
        go_ret
        exact ⟨op, oc, by rw [hfin]; rfl, by rw [hfin]; exact hF.from hk⟩
  · have hst : Hid (MdRel (-1) (Tp.mk bid bq ask aq bc ac) xs L w0 (.slice none 0 0) (.int .i64 bid) (.int .i64 0) w0) := ⟨0, bid, [], none, 0, by omega, rfl, rfl, rfl, HL.out.symm, rfl, Fr.nil _ _ _⟩
    go_wp2_with fail
    clear c1 t0 t2
    go_loopw [7, 8, 9] (fun ov pv iv wr => MdRel (-1) (Tp.mk bid bq ask aq bc ac) xs L w0 ov pv iv wr) (fun _ _ iv _ => 13 - (intOf iv).toNat)
    case atStart => exact hst.out
    case round =>
      obtain ⟨i, p, l, op, oc, hi, rfl, rfl, rfl, hL, hll, hF⟩ := hrel
      clear hst
      by_cases hlt : i < 13
      · obtain ⟨m, hm⟩ : ∃ m, insideB (Tp.mk bid bq ask aq bc ac) p = m := ⟨_, rfl⟩
        have hnx : nextP (-1) xs p = upT xs p := rfl
        have hM : L = l ++ (if m = true then p :: (match nextP (-1) xs p with | none => [] | some q => movedF (-1) (Tp.mk bid bq ask aq bc ac) xs (12 - i) q) else []) := by
          rw [hL, ← hm, show 13 - i = (12 - i) + 1 by omega]; rfl
        have HM := Lib.hid hM
        have Hnx := Lib.hid hnx
        have Hll := Lib.hid hll
        have hqr := (hF.k.block tq (lt_of_block hqt) (fun h => h)).trans hqt
        have hmy : Hid (Calls Try.prog 31 #[.agg #[.int .i64 bid, .int .i64 bq, .int .i64 ask, .int .i64 aq, .bool bc, .bool ac], .int .i64 p] wr (BlPost m wr)) := by
          have := inside_refb bid bq ask aq bc ac p wr
          rw [hm] at this; exact this
        clear hM hnx hm hL
        have hll2 : l.length ≤ 12 := by omega
        clear hll
        have t0 : wr.cell? ⟨tq, 0, none⟩ = some (.int .i64 bid) := by rw [cell_of_block hqr]; rfl
        have t1 : wr.cell? ⟨tq, 1, none⟩ = some (.int .i64 bq) := by rw [cell_of_block hqr]; rfl
        have t2 : wr.cell? ⟨tq, 2, none⟩ = some (.int .i64 ask) := by rw [cell_of_block hqr]; rfl
        have t3 : wr.cell? ⟨tq, 3, none⟩ = some (.int .i64 aq) := by rw [cell_of_block hqr]; rfl
        have t4 : wr.cell? ⟨tq, 4, none⟩ = some (.bool bc) := by rw [cell_of_block hqr]; rfl
        have t5 : wr.cell? ⟨tq, 5, none⟩ = some (.bool ac) := by rw [cell_of_block hqr]; rfl
        go_wp2_with fail
        refine hmy.out.mono ?_
        rintro e w1 ⟨rfl, k1⟩
        have F1 := hF.mono k1
        clear t0 t1 t2 t3 t4 t5 hqr hmy hF k1
        cases m with
        | true =>
          go_wp2_with (at_builtin; refine wpList_append_any rfl (.tmp 28) (.tmp 30) 30 rfl 2 i0 (.int .i64 0) 1 8 Try.underlying30 hi0 hz0 hz1 hz2 rfl (by decide) op l.length oc (l.map intC) rfl (F1.alloc _).sl (some ⟨w1.heap.size, 0, none⟩) 1 1 [intC p] rfl (SlAt.one (block_alloc_new _ _) rfl) (by intro u hu; simp at hu; subst hu; rfl) (by unfold maxLen; omega) (by omega) ?_; intro p6 c6 w6 hsl6 hg6 hb6)
          have F6 : Fr 2 1 ((l ++ [p]).map intC) w0 p6 (l.length + 1) c6 w6 := by
            rw [List.map_append]
            exact (F1.alloc _).app hsl6 hg6 hb6
          clear hsl6 hg6 hb6 F1
          replace HM : Hid (L = l ++ p :: (match nextP (-1) xs p with | none => [] | some q => movedF (-1) (Tp.mk bid bq ask aq bc ac) xs (12 - i) q)) := by
            have := HM.out
            show L = _
            simpa only [if_true, eq_self] using this
          have hup : Hid (∀ w', Kept (fun _ => False) w0 w' → Calls Try.prog 47 #[.slice (some ⟨b, off, none⟩) len cap, .int .i64 p] w' (OpPost (upT xs p) w')) := fun w' k => by
            have := up_ref (cap := cap) p Hg.out (Nat.lt_of_lt_of_le Hb0.out k.size) (Hs0.out.kept Hb0.out k)
            rw [Hlen.out] at this; exact this
          obtain ⟨o, ho⟩ : ∃ o, upT xs p = o := ⟨_, rfl⟩
          have Ho := Lib.hid ho
          clear ho
          go_wp2_with fail
          refine (hup.out w6 F6.k).mono ?_
          rintro e w7 ⟨rfl, k7⟩
          have F7 := F6.mono k7
          clear F6 k7 hup
          have c1 : w7.cell? ⟨xq, 1, none⟩ = some (.int .i64 (-1)) := by rw [cell_of_block ((F7.k.block xq (lt_of_block hqx) (fun h => h)).trans hqx)]; rfl
          rw [Ho.out]
          have F8 := F7
          cases o with
          | none =>
            have hfin : L = l ++ [p] := by
              have := HM.out
              rw [Hnx.out, Ho.out] at this
              simpa using this
            clear Hnx Ho HM
            simp only [Option.getD_none, Option.isSome_none]
            go_wp2
            go_ret
            exact ⟨p6, c6, by rw [hfin]; first | rfl | (rw [List.length_append]; rfl), by rw [hfin]; first | exact F8.from hk | (rw [List.length_append]; exact F8.from hk)⟩
          | some q =>
            simp only [Option.getD_some, Option.isSome_some]
            have hfin : Hid (L = (l ++ [p]) ++ movedF (-1) (Tp.mk bid bq ask aq bc ac) xs (13 - (i + 1)) q) := by
              have := HM.out
              rw [Hnx.out, Ho.out] at this
              rw [show 13 - (i + 1) = 12 - i by omega, List.append_assoc]
              exact this
            clear Hnx Ho HM
            go_wp2
            exact ⟨⟨i + 1, q, l ++ [p], p6, c6, by omega, rfl, by first | rfl | (rw [List.length_append]; rfl), by push_cast; rfl, hfin.out, by rw [List.length_append]; have := Hll.out; simp; omega, by first | exact F8 | (rw [List.length_append]; exact F8)⟩, by simp [intOf]; omega⟩
        | false =>
          have hfin : L = l := by
            have := HM.out
            simpa using this
          clear Hnx HM
          go_wp2
          go_ret
          exact ⟨op, oc, by rw [hfin]; rfl, by rw [hfin]; exact F1.from hk⟩
      · obtain rfl : i = 13 := by omega
        have hfin : L = l := by simpa [movedF] using hL
        clear hL hll
        go_wp2
        go_ret
        exact ⟨op, oc, by rw [hfin]; rfl, by rw [hfin]; exact hF.from hk⟩
end Go.Proofs.Ytgbdnodkbdkaeaa
