/- Alloc: the prices that a leg may be had at, by its moves: moves 22. -/
import Derived.Test.YtgbdnodkbdkaeaaAk
namespace Go.Proofs.Ytgbdnodkbdkaeaa
open Go Go.RowKit

theorem Try.info2' : (Try.prog.info? 2).map (fun i => (i.zero, i.size, i.bytes)) = some (some (.int .i64 0), 1, 8) := by kernel_rfl
theorem Try.info30' : (Try.prog.info? 30).map (fun i => (i.zero, i.size, i.bytes)) = some (some (.slice none 0 0), 1, 24) := by kernel_rfl
def nextP (s : Int) (xs : List (Int × Int)) (p : Int) : Option Int := if s = 1 then downT xs p else upT xs p
def startP (s : Int) (t : Tp) : Int := if s = 1 then t.ask else t.bid
def movesF (s : Int) (t : Tp) (xs : List (Int × Int)) : Nat → Int → List Int
  | 0, _ => []
  | n + 1, p => (if mayB t xs p = true then [p] else []) ++ (match nextP s xs p with | none => [] | some q => if insideB t q = true then movesF s t xs n q else [])
def movesP (s : Int) (t : Tp) (xs : List (Int × Int)) : List Int := movesF s t xs 13 (startP s t)
def intC (n : Int) : Value := .int .i64 n
def SlPost (l : List Int) (w : World) (e : Ending) (w' : World) : Prop := ∃ p cap, e = .returned (.slice p l.length cap) ∧ Fr 2 1 (l.map intC) w p l.length cap w'
def MvRel (s : Int) (t : Tp) (xs : List (Int × Int)) (L : List Int) (w0 : World) (pv ov iv : Value) (wr : World) : Prop :=
  ∃ (i : Nat) (p : Int) (l : List Int) (op : Option Addr) (cap : Nat), i ≤ 13 ∧ pv = .int .i64 p ∧ ov = .slice op l.length cap ∧ iv = .int .i64 i ∧ L = l ++ movesF s t xs (13 - i) p ∧ l.length ≤ i ∧ Fr 2 1 (l.map intC) w0 op l.length cap wr
set_option maxRecDepth 100000 in
set_option maxHeartbeats 1000000 in
theorem moves_any {w : World} {b off cap : Nat} {xs : List (Int × Int)} (x : Lg) (t : Tp) (hg : GoodT xs) (hb : b < w.heap.size) (hs : StAt w b off xs) :
    Calls Try.prog 22 #[.agg #[.int .i64 x.ser, .int .i64 x.sgn, .int .i64 x.rat], .agg #[.int .i64 t.bid, .int .i64 t.bq, .int .i64 t.ask, .int .i64 t.aq, .bool t.bc, .bool t.ac], .slice (some ⟨b, off, none⟩) xs.length cap] w (SlPost (movesP x.sgn t xs) w) := by
  obtain ⟨i0, hi0, hz0, hz1, hz2⟩ := info_parts Try.info2'
  have hqx : ((w.alloc (.cells #[.int .i64 x.ser, .int .i64 x.sgn, .int .i64 x.rat] 43)).alloc (.cells #[.int .i64 t.bid, .int .i64 t.bq, .int .i64 t.ask, .int .i64 t.aq, .bool t.bc, .bool t.ac] 45)).heap[w.heap.size]? = some (.cells #[.int .i64 x.ser, .int .i64 x.sgn, .int .i64 x.rat] 43 (0, 0)) := block_alloc (block_new3 _ _)
  have hqt : ((w.alloc (.cells #[.int .i64 x.ser, .int .i64 x.sgn, .int .i64 x.rat] 43)).alloc (.cells #[.int .i64 t.bid, .int .i64 t.bq, .int .i64 t.ask, .int .i64 t.aq, .bool t.bc, .bool t.ac] 45)).heap[w.heap.size + 1]? = some (.cells #[.int .i64 t.bid, .int .i64 t.bq, .int .i64 t.ask, .int .i64 t.aq, .bool t.bc, .bool t.ac] 45 (0, 0)) := by
    have := block_new3 (w.alloc (.cells #[.int .i64 x.ser, .int .i64 x.sgn, .int .i64 x.rat] 43)) (.cells #[.int .i64 t.bid, .int .i64 t.bq, .int .i64 t.ask, .int .i64 t.aq, .bool t.bc, .bool t.ac] 45)
    rwa [show (w.alloc (.cells #[.int .i64 x.ser, .int .i64 x.sgn, .int .i64 x.rat] 43)).heap.size = w.heap.size + 1 by simp] at this
  have hk : Kept (fun _ => False) w ((w.alloc (.cells #[.int .i64 x.ser, .int .i64 x.sgn, .int .i64 x.rat] 43)).alloc (.cells #[.int .i64 t.bid, .int .i64 t.bq, .int .i64 t.ask, .int .i64 t.aq, .bool t.bc, .bool t.ac] 45)) := ((Kept.refl _ _).alloc _).alloc _
  have hs0 := hs.kept hb hk
  have hb0 := Nat.lt_of_lt_of_le hb hk.size
  have Hg := Lib.hid hg
  have Hs0 := Lib.hid hs0
  have Hb0 := Lib.hid hb0
  obtain ⟨ser, sgn, rat⟩ := x
  obtain ⟨bid, bq, ask, aq, bc, ac⟩ := t
  simp only at hqx hqt hk Hs0 Hb0 ⊢
  obtain ⟨L, hL⟩ : ∃ L, movesP sgn (Tp.mk bid bq ask aq bc ac) xs = L := ⟨_, rfl⟩
  rw [hL]
  have HL := Lib.hid hL
  clear hs hb hg hs0 hb0 hL
  obtain ⟨len, hlen⟩ : ∃ len, xs.length = len := ⟨_, rfl⟩
  have Hlen := Lib.hid hlen
  rw [hlen]
  clear hlen
  go_enter Try.func22, Try.ntmps22
  go_upto_region 1 with fail
  generalize w.heap.size + 1 = tq at hqt ⊢
  generalize w.heap.size = xq at hqx ⊢
  generalize (w.alloc (.cells #[.int .i64 ser, .int .i64 sgn, .int .i64 rat] 43)).alloc (.cells #[.int .i64 bid, .int .i64 bq, .int .i64 ask, .int .i64 aq, .bool bc, .bool ac] 45) = w0 at hqx hqt hk Hs0 Hb0 ⊢
  have c1 : w0.cell? ⟨xq, 1, none⟩ = some (.int .i64 sgn) := by rw [cell_of_block hqx]; rfl
  have t0 : w0.cell? ⟨tq, 0, none⟩ = some (.int .i64 bid) := by rw [cell_of_block hqt]; rfl
  have t2 : w0.cell? ⟨tq, 2, none⟩ = some (.int .i64 ask) := by rw [cell_of_block hqt]; rfl
  by_cases h1 : sgn = 1
  · subst h1
    have hst : Hid (MvRel 1 (Tp.mk bid bq ask aq bc ac) xs L w0 (.int .i64 ask) (.slice none 0 0) (.int .i64 0) w0) := ⟨0, ask, [], none, 0, by omega, rfl, rfl, rfl, HL.out.symm, Nat.le_refl _, Fr.nil _ _ _⟩
    go_wp2_with fail
    clear c1 t0 t2 hqx
    go_loopw [7, 9, 24] (fun pv ov iv wr => MvRel 1 (Tp.mk bid bq ask aq bc ac) xs L w0 pv ov iv wr) (fun _ _ iv _ => 13 - (intOf iv).toNat)
    case atStart => exact hst.out
    case round =>
      obtain ⟨i, p, l, op, oc, hi, rfl, rfl, rfl, hL, hll, hF⟩ := hrel
      clear hst
      by_cases hlt : i < 13
      · obtain ⟨m, hm⟩ : ∃ m, mayB (Tp.mk bid bq ask aq bc ac) xs p = m := ⟨_, rfl⟩
        have hnx : nextP 1 xs p = downT xs p := if_pos rfl
        have hM : L = l ++ ((if m = true then [p] else []) ++ (match nextP 1 xs p with | none => [] | some q => if insideB (Tp.mk bid bq ask aq bc ac) q = true then movesF 1 (Tp.mk bid bq ask aq bc ac) xs (12 - i) q else [])) := by
          rw [hL, ← hm, show 13 - i = (12 - i) + 1 by omega]; rfl
        have HM := Lib.hid hM
        have Hnx := Lib.hid hnx
        have hqr := (hF.k.block tq (lt_of_block hqt) (fun h => h)).trans hqt
        have hmy : Hid (Calls Try.prog 30 #[.agg #[.int .i64 bid, .int .i64 bq, .int .i64 ask, .int .i64 aq, .bool bc, .bool ac], .slice (some ⟨b, off, none⟩) len cap, .int .i64 p] wr (BlPost m wr)) := by
          have := may_any (cap := cap) (Tp.mk bid bq ask aq bc ac) p Hg.out (Nat.lt_of_lt_of_le Hb0.out hF.k.size) (Hs0.out.kept Hb0.out hF.k)
          rw [hm, Hlen.out] at this; exact this
        clear hM hnx hm hL
        have t0 : wr.cell? ⟨tq, 0, none⟩ = some (.int .i64 bid) := by rw [cell_of_block hqr]; rfl
        have t1 : wr.cell? ⟨tq, 1, none⟩ = some (.int .i64 bq) := by rw [cell_of_block hqr]; rfl
        have t2 : wr.cell? ⟨tq, 2, none⟩ = some (.int .i64 ask) := by rw [cell_of_block hqr]; rfl
        have t3 : wr.cell? ⟨tq, 3, none⟩ = some (.int .i64 aq) := by rw [cell_of_block hqr]; rfl
        have t4 : wr.cell? ⟨tq, 4, none⟩ = some (.bool bc) := by rw [cell_of_block hqr]; rfl
        have t5 : wr.cell? ⟨tq, 5, none⟩ = some (.bool ac) := by rw [cell_of_block hqr]; rfl
        go_wp2_with fail
        refine hmy.out.mono ?_
        rintro e w1 ⟨rfl, k1⟩
        have F1 := hF.mono k1
        clear t0 t1 t2 t3 t4 t5 hqr hmy hF k1
        cases m with
        | true =>
          go_wp2_with (at_builtin; refine wpList_append_any rfl (.tmp 30) (.tmp 32) 30 rfl 2 i0 (.int .i64 0) 1 8 Try.underlying30 hi0 hz0 hz1 hz2 rfl (by decide) op l.length oc (l.map intC) rfl (F1.alloc _).sl (some ⟨w1.heap.size, 0, none⟩) 1 1 [intC p] rfl (SlAt.one (block_alloc_new _ _) rfl) (by intro u hu; simp at hu; subst hu; rfl) (by unfold maxLen; omega) (by omega) ?_; intro p6 c6 w6 hsl6 hg6 hb6)
          have F6 : Fr 2 1 ((l ++ [p]).map intC) w0 p6 (l.length + 1) c6 w6 := by
            rw [List.map_append]
            exact (F1.alloc _).app hsl6 hg6 hb6
          clear hsl6 hg6 hb6 F1
          replace HM : Hid (L = (l ++ [p]) ++ (match nextP 1 xs p with | none => [] | some q => if insideB (Tp.mk bid bq ask aq bc ac) q = true then movesF 1 (Tp.mk bid bq ask aq bc ac) xs (12 - i) q else [])) := by
            have := HM.out
            show L = _
            simpa only [if_true, List.append_assoc, eq_self] using this
          have hbW : b < w6.heap.size := Nat.lt_of_lt_of_le Hb0.out F6.k.size
          have hsW : StAt w6 b off xs := Hs0.out.kept Hb0.out F6.k
          have hdn : Hid (Calls Try.prog 43 #[.slice (some ⟨b, off, none⟩) len cap, .int .i64 p] w6 (OpPost (downT xs p) w6)) := by
            have := down_any (cap := cap) p Hg.out hbW hsW
            rw [Hlen.out] at this; exact this
          clear hbW hsW
          obtain ⟨o, ho⟩ : ∃ o, downT xs p = o := ⟨_, rfl⟩
          rw [ho] at hdn
          have Ho := Lib.hid ho
          clear ho
          go_wp2_with fail
          refine hdn.out.mono ?_
          rintro e w7 ⟨rfl, k7⟩
          have F7 : Fr 2 1 ((l ++ [p]).map intC) w0 p6 (l.length + 1) c6 w7 := F6.mono k7
          have hq7 := (F7.k.block tq (lt_of_block hqt) (fun h => h)).trans hqt
          clear hdn
          cases o with
          | none =>
            have hfin : L = l ++ [p] := by
              have := HM.out
              rw [Hnx.out, Ho.out] at this
              simpa using this
            clear hq7 Hnx Ho HM
            simp only [Option.getD_none, Option.isSome_none]
            go_wp2
            go_ret
            exact ⟨p6, c6, by rw [hfin]; first | rfl | (rw [List.length_append]; rfl), by rw [hfin]; first | exact F7.from hk | (rw [List.length_append]; exact F7.from hk)⟩
          | some q =>
            simp only [Option.getD_some, Option.isSome_some]
            have t0 : w7.cell? ⟨tq, 0, none⟩ = some (.int .i64 bid) := by rw [cell_of_block hq7]; rfl
            have t1 : w7.cell? ⟨tq, 1, none⟩ = some (.int .i64 bq) := by rw [cell_of_block hq7]; rfl
            have t2 : w7.cell? ⟨tq, 2, none⟩ = some (.int .i64 ask) := by rw [cell_of_block hq7]; rfl
            have t3 : w7.cell? ⟨tq, 3, none⟩ = some (.int .i64 aq) := by rw [cell_of_block hq7]; rfl
            have t4 : w7.cell? ⟨tq, 4, none⟩ = some (.bool bc) := by rw [cell_of_block hq7]; rfl
            have t5 : w7.cell? ⟨tq, 5, none⟩ = some (.bool ac) := by rw [cell_of_block hq7]; rfl
            obtain ⟨v, hv⟩ : ∃ v, insideB (Tp.mk bid bq ask aq bc ac) q = v := ⟨_, rfl⟩
            have Hv := Lib.hid hv
            clear hv
            go_wp2_with fail
            refine (inside_bare bid bq ask aq bc ac q w7).mono ?_
            rintro e w8 ⟨rfl, k8⟩
            rw [Hv.out]
            have F8 := F7.mono k8
            clear t0 t1 t2 t3 t4 t5 hq7
            cases v with
            | false =>
              have hfin : L = l ++ [p] := by
                have := HM.out
                rw [Hnx.out, Ho.out] at this
                simp only [Hv.out, Bool.false_eq_true, if_false] at this
                simpa using this
              clear Hnx Ho HM Hv
              go_wp2
              go_ret
              exact ⟨p6, c6, by rw [hfin]; first | rfl | (rw [List.length_append]; rfl), by rw [hfin]; first | exact F8.from hk | (rw [List.length_append]; exact F8.from hk)⟩
            | true =>
              have hfin : Hid (L = (l ++ [p]) ++ movesF 1 (Tp.mk bid bq ask aq bc ac) xs (13 - (i + 1)) q) := by
                have := HM.out
                rw [Hnx.out, Ho.out] at this
                simp only [Hv.out, if_true] at this
                rw [show 13 - (i + 1) = 12 - i by omega]
                exact this
              clear Hnx Ho HM Hv
              go_wp2
              exact ⟨⟨i + 1, q, l ++ [p], p6, c6, by omega, rfl, by first | rfl | (rw [List.length_append]; rfl), by push_cast; rfl, hfin.out, by first | omega | (rw [List.length_append]; simp; omega), by first | exact F8 | (rw [List.length_append]; exact F8)⟩, by simp [intOf]; omega⟩
        | false =>
          replace HM : Hid (L = l ++ (match nextP 1 xs p with | none => [] | some q => if insideB (Tp.mk bid bq ask aq bc ac) q = true then movesF 1 (Tp.mk bid bq ask aq bc ac) xs (12 - i) q else [])) := by
            have := HM.out
            rw [if_neg (by simp), List.nil_append] at this; exact this
          have hbW : b < w1.heap.size := Nat.lt_of_lt_of_le Hb0.out F1.k.size
          have hsW : StAt w1 b off xs := Hs0.out.kept Hb0.out F1.k
          have hdn : Hid (Calls Try.prog 43 #[.slice (some ⟨b, off, none⟩) len cap, .int .i64 p] w1 (OpPost (downT xs p) w1)) := by
            have := down_any (cap := cap) p Hg.out hbW hsW
            rw [Hlen.out] at this; exact this
          clear hbW hsW
          obtain ⟨o, ho⟩ : ∃ o, downT xs p = o := ⟨_, rfl⟩
          rw [ho] at hdn
          have Ho := Lib.hid ho
          clear ho
          go_wp2_with fail
          refine hdn.out.mono ?_
          rintro e w7 ⟨rfl, k7⟩
          have F7 : Fr 2 1 ((l).map intC) w0 op (l.length) oc w7 := F1.mono k7
          have hq7 := (F7.k.block tq (lt_of_block hqt) (fun h => h)).trans hqt
          clear hdn
          cases o with
          | none =>
            have hfin : L = l := by
              have := HM.out
              rw [Hnx.out, Ho.out] at this
              simpa using this
            clear hq7 Hnx Ho HM
            simp only [Option.getD_none, Option.isSome_none]
            go_wp2
            go_ret
            exact ⟨op, oc, by rw [hfin]; first | rfl | (rw [List.length_append]; rfl), by rw [hfin]; first | exact F7.from hk | (rw [List.length_append]; exact F7.from hk)⟩
          | some q =>
            simp only [Option.getD_some, Option.isSome_some]
            have t0 : w7.cell? ⟨tq, 0, none⟩ = some (.int .i64 bid) := by rw [cell_of_block hq7]; rfl
            have t1 : w7.cell? ⟨tq, 1, none⟩ = some (.int .i64 bq) := by rw [cell_of_block hq7]; rfl
            have t2 : w7.cell? ⟨tq, 2, none⟩ = some (.int .i64 ask) := by rw [cell_of_block hq7]; rfl
            have t3 : w7.cell? ⟨tq, 3, none⟩ = some (.int .i64 aq) := by rw [cell_of_block hq7]; rfl
            have t4 : w7.cell? ⟨tq, 4, none⟩ = some (.bool bc) := by rw [cell_of_block hq7]; rfl
            have t5 : w7.cell? ⟨tq, 5, none⟩ = some (.bool ac) := by rw [cell_of_block hq7]; rfl
            obtain ⟨v, hv⟩ : ∃ v, insideB (Tp.mk bid bq ask aq bc ac) q = v := ⟨_, rfl⟩
            have Hv := Lib.hid hv
            clear hv
            go_wp2_with fail
            refine (inside_bare bid bq ask aq bc ac q w7).mono ?_
            rintro e w8 ⟨rfl, k8⟩
            rw [Hv.out]
            have F8 := F7.mono k8
            clear t0 t1 t2 t3 t4 t5 hq7
            cases v with
            | false =>
              have hfin : L = l := by
                have := HM.out
                rw [Hnx.out, Ho.out] at this
                simp only [Hv.out, Bool.false_eq_true, if_false] at this
                simpa using this
              clear Hnx Ho HM Hv
              go_wp2
              go_ret
              exact ⟨op, oc, by rw [hfin]; first | rfl | (rw [List.length_append]; rfl), by rw [hfin]; first | exact F8.from hk | (rw [List.length_append]; exact F8.from hk)⟩
            | true =>
              have hfin : Hid (L = (l) ++ movesF 1 (Tp.mk bid bq ask aq bc ac) xs (13 - (i + 1)) q) := by
                have := HM.out
                rw [Hnx.out, Ho.out] at this
                simp only [Hv.out, if_true] at this
                rw [show 13 - (i + 1) = 12 - i by omega]
                exact this
              clear Hnx Ho HM Hv
              go_wp2
              exact ⟨⟨i + 1, q, l, op, oc, by omega, rfl, by first | rfl | (rw [List.length_append]; rfl), by push_cast; rfl, hfin.out, by first | omega | (rw [List.length_append]; simp; omega), by first | exact F8 | (rw [List.length_append]; exact F8)⟩, by simp [intOf]; omega⟩
      · obtain rfl : i = 13 := by omega
        have hfin : L = l := by simpa [movesF] using hL
        clear hL
        go_wp2
        go_ret
        exact ⟨op, oc, by rw [hfin]; rfl, by rw [hfin]; exact hF.from hk⟩
  · have hb1 : (sgn == 1) = false := by simp [h1]
    have hst : Hid (MvRel sgn (Tp.mk bid bq ask aq bc ac) xs L w0 (.int .i64 bid) (.slice none 0 0) (.int .i64 0) w0) := ⟨0, bid, [], none, 0, by omega, rfl, rfl, rfl, by
      have := HL.out
      unfold movesP startP at this
      rw [if_neg h1] at this; exact this.symm, Nat.le_refl _, Fr.nil _ _ _⟩
    have H1 := Lib.hid h1
    go_wp2_with fail
    clear c1 t0 t2 hqx
    go_loopw [7, 9, 24] (fun pv ov iv wr => MvRel sgn (Tp.mk bid bq ask aq bc ac) xs L w0 pv ov iv wr) (fun _ _ iv _ => 13 - (intOf iv).toNat)
    case atStart => exact hst.out
    case round =>
      obtain ⟨i, p, l, op, oc, hi, rfl, rfl, rfl, hL, hll, hF⟩ := hrel
      clear hst
      by_cases hlt : i < 13
      · obtain ⟨m, hm⟩ : ∃ m, mayB (Tp.mk bid bq ask aq bc ac) xs p = m := ⟨_, rfl⟩
        have hnx : nextP sgn xs p = upT xs p := if_neg H1.out
        have hM : L = l ++ ((if m = true then [p] else []) ++ (match nextP sgn xs p with | none => [] | some q => if insideB (Tp.mk bid bq ask aq bc ac) q = true then movesF sgn (Tp.mk bid bq ask aq bc ac) xs (12 - i) q else [])) := by
          rw [hL, ← hm, show 13 - i = (12 - i) + 1 by omega]; rfl
        have HM := Lib.hid hM
        have Hnx := Lib.hid hnx
        have hqr := (hF.k.block tq (lt_of_block hqt) (fun h => h)).trans hqt
        have hmy : Hid (Calls Try.prog 30 #[.agg #[.int .i64 bid, .int .i64 bq, .int .i64 ask, .int .i64 aq, .bool bc, .bool ac], .slice (some ⟨b, off, none⟩) len cap, .int .i64 p] wr (BlPost m wr)) := by
          have := may_any (cap := cap) (Tp.mk bid bq ask aq bc ac) p Hg.out (Nat.lt_of_lt_of_le Hb0.out hF.k.size) (Hs0.out.kept Hb0.out hF.k)
          rw [hm, Hlen.out] at this; exact this
        clear hM hnx hm hL
        have t0 : wr.cell? ⟨tq, 0, none⟩ = some (.int .i64 bid) := by rw [cell_of_block hqr]; rfl
        have t1 : wr.cell? ⟨tq, 1, none⟩ = some (.int .i64 bq) := by rw [cell_of_block hqr]; rfl
        have t2 : wr.cell? ⟨tq, 2, none⟩ = some (.int .i64 ask) := by rw [cell_of_block hqr]; rfl
        have t3 : wr.cell? ⟨tq, 3, none⟩ = some (.int .i64 aq) := by rw [cell_of_block hqr]; rfl
        have t4 : wr.cell? ⟨tq, 4, none⟩ = some (.bool bc) := by rw [cell_of_block hqr]; rfl
        have t5 : wr.cell? ⟨tq, 5, none⟩ = some (.bool ac) := by rw [cell_of_block hqr]; rfl
        go_wp2_with fail
        refine hmy.out.mono ?_
        rintro e w1 ⟨rfl, k1⟩
        have F1 := hF.mono k1
        clear t0 t1 t2 t3 t4 t5 hqr hmy hF k1
        cases m with
        | true =>
          go_wp2_with (at_builtin; refine wpList_append_any rfl (.tmp 30) (.tmp 32) 30 rfl 2 i0 (.int .i64 0) 1 8 Try.underlying30 hi0 hz0 hz1 hz2 rfl (by decide) op l.length oc (l.map intC) rfl (F1.alloc _).sl (some ⟨w1.heap.size, 0, none⟩) 1 1 [intC p] rfl (SlAt.one (block_alloc_new _ _) rfl) (by intro u hu; simp at hu; subst hu; rfl) (by unfold maxLen; omega) (by omega) ?_; intro p6 c6 w6 hsl6 hg6 hb6)
          have F6 : Fr 2 1 ((l ++ [p]).map intC) w0 p6 (l.length + 1) c6 w6 := by
            rw [List.map_append]
            exact (F1.alloc _).app hsl6 hg6 hb6
          clear hsl6 hg6 hb6 F1
          replace HM : Hid (L = (l ++ [p]) ++ (match nextP sgn xs p with | none => [] | some q => if insideB (Tp.mk bid bq ask aq bc ac) q = true then movesF sgn (Tp.mk bid bq ask aq bc ac) xs (12 - i) q else [])) := by
            have := HM.out
            show L = _
            simpa only [if_true, List.append_assoc, eq_self] using this
          have hbW : b < w6.heap.size := Nat.lt_of_lt_of_le Hb0.out F6.k.size
          have hsW : StAt w6 b off xs := Hs0.out.kept Hb0.out F6.k
          have hdn : Hid (Calls Try.prog 42 #[.slice (some ⟨b, off, none⟩) len cap, .int .i64 p] w6 (OpPost (upT xs p) w6)) := by
            have := up_any (cap := cap) p Hg.out hbW hsW
            rw [Hlen.out] at this; exact this
          clear hbW hsW
          obtain ⟨o, ho⟩ : ∃ o, upT xs p = o := ⟨_, rfl⟩
          rw [ho] at hdn
          have Ho := Lib.hid ho
          clear ho
          go_wp2_with fail
          refine hdn.out.mono ?_
          rintro e w7 ⟨rfl, k7⟩
          have F7 : Fr 2 1 ((l ++ [p]).map intC) w0 p6 (l.length + 1) c6 w7 := F6.mono k7
          have hq7 := (F7.k.block tq (lt_of_block hqt) (fun h => h)).trans hqt
          clear hdn
          cases o with
          | none =>
            have hfin : L = l ++ [p] := by
              have := HM.out
              rw [Hnx.out, Ho.out] at this
              simpa using this
            clear hq7 Hnx Ho HM
            simp only [Option.getD_none, Option.isSome_none]
            go_wp2
            go_ret
            exact ⟨p6, c6, by rw [hfin]; first | rfl | (rw [List.length_append]; rfl), by rw [hfin]; first | exact F7.from hk | (rw [List.length_append]; exact F7.from hk)⟩
          | some q =>
            simp only [Option.getD_some, Option.isSome_some]
            have t0 : w7.cell? ⟨tq, 0, none⟩ = some (.int .i64 bid) := by rw [cell_of_block hq7]; rfl
            have t1 : w7.cell? ⟨tq, 1, none⟩ = some (.int .i64 bq) := by rw [cell_of_block hq7]; rfl
            have t2 : w7.cell? ⟨tq, 2, none⟩ = some (.int .i64 ask) := by rw [cell_of_block hq7]; rfl
            have t3 : w7.cell? ⟨tq, 3, none⟩ = some (.int .i64 aq) := by rw [cell_of_block hq7]; rfl
            have t4 : w7.cell? ⟨tq, 4, none⟩ = some (.bool bc) := by rw [cell_of_block hq7]; rfl
            have t5 : w7.cell? ⟨tq, 5, none⟩ = some (.bool ac) := by rw [cell_of_block hq7]; rfl
            obtain ⟨v, hv⟩ : ∃ v, insideB (Tp.mk bid bq ask aq bc ac) q = v := ⟨_, rfl⟩
            have Hv := Lib.hid hv
            clear hv
            go_wp2_with fail
            refine (inside_bare bid bq ask aq bc ac q w7).mono ?_
            rintro e w8 ⟨rfl, k8⟩
            rw [Hv.out]
            have F8 := F7.mono k8
            clear t0 t1 t2 t3 t4 t5 hq7
            cases v with
            | false =>
              have hfin : L = l ++ [p] := by
                have := HM.out
                rw [Hnx.out, Ho.out] at this
                simp only [Hv.out, Bool.false_eq_true, if_false] at this
                simpa using this
              clear Hnx Ho HM Hv
              go_wp2
              go_ret
              exact ⟨p6, c6, by rw [hfin]; first | rfl | (rw [List.length_append]; rfl), by rw [hfin]; first | exact F8.from hk | (rw [List.length_append]; exact F8.from hk)⟩
            | true =>
              have hfin : Hid (L = (l ++ [p]) ++ movesF sgn (Tp.mk bid bq ask aq bc ac) xs (13 - (i + 1)) q) := by
                have := HM.out
                rw [Hnx.out, Ho.out] at this
                simp only [Hv.out, if_true] at this
                rw [show 13 - (i + 1) = 12 - i by omega]
                exact this
              clear Hnx Ho HM Hv
              go_wp2
              exact ⟨⟨i + 1, q, l ++ [p], p6, c6, by omega, rfl, by first | rfl | (rw [List.length_append]; rfl), by push_cast; rfl, hfin.out, by first | omega | (rw [List.length_append]; simp; omega), by first | exact F8 | (rw [List.length_append]; exact F8)⟩, by simp [intOf]; omega⟩
        | false =>
          replace HM : Hid (L = l ++ (match nextP sgn xs p with | none => [] | some q => if insideB (Tp.mk bid bq ask aq bc ac) q = true then movesF sgn (Tp.mk bid bq ask aq bc ac) xs (12 - i) q else [])) := by
            have := HM.out
            rw [if_neg (by simp), List.nil_append] at this; exact this
          have hbW : b < w1.heap.size := Nat.lt_of_lt_of_le Hb0.out F1.k.size
          have hsW : StAt w1 b off xs := Hs0.out.kept Hb0.out F1.k
          have hdn : Hid (Calls Try.prog 42 #[.slice (some ⟨b, off, none⟩) len cap, .int .i64 p] w1 (OpPost (upT xs p) w1)) := by
            have := up_any (cap := cap) p Hg.out hbW hsW
            rw [Hlen.out] at this; exact this
          clear hbW hsW
          obtain ⟨o, ho⟩ : ∃ o, upT xs p = o := ⟨_, rfl⟩
          rw [ho] at hdn
          have Ho := Lib.hid ho
          clear ho
          go_wp2_with fail
          refine hdn.out.mono ?_
          rintro e w7 ⟨rfl, k7⟩
          have F7 : Fr 2 1 ((l).map intC) w0 op (l.length) oc w7 := F1.mono k7
          have hq7 := (F7.k.block tq (lt_of_block hqt) (fun h => h)).trans hqt
          clear hdn
          cases o with
          | none =>
            have hfin : L = l := by
              have := HM.out
              rw [Hnx.out, Ho.out] at this
              simpa using this
            clear hq7 Hnx Ho HM
            simp only [Option.getD_none, Option.isSome_none]
            go_wp2
            go_ret
            exact ⟨op, oc, by rw [hfin]; first | rfl | (rw [List.length_append]; rfl), by rw [hfin]; first | exact F7.from hk | (rw [List.length_append]; exact F7.from hk)⟩
          | some q =>
            simp only [Option.getD_some, Option.isSome_some]
            have t0 : w7.cell? ⟨tq, 0, none⟩ = some (.int .i64 bid) := by rw [cell_of_block hq7]; rfl
            have t1 : w7.cell? ⟨tq, 1, none⟩ = some (.int .i64 bq) := by rw [cell_of_block hq7]; rfl
            have t2 : w7.cell? ⟨tq, 2, none⟩ = some (.int .i64 ask) := by rw [cell_of_block hq7]; rfl
            have t3 : w7.cell? ⟨tq, 3, none⟩ = some (.int .i64 aq) := by rw [cell_of_block hq7]; rfl
            have t4 : w7.cell? ⟨tq, 4, none⟩ = some (.bool bc) := by rw [cell_of_block hq7]; rfl
            have t5 : w7.cell? ⟨tq, 5, none⟩ = some (.bool ac) := by rw [cell_of_block hq7]; rfl
            obtain ⟨v, hv⟩ : ∃ v, insideB (Tp.mk bid bq ask aq bc ac) q = v := ⟨_, rfl⟩
            have Hv := Lib.hid hv
            clear hv
            go_wp2_with fail
            refine (inside_bare bid bq ask aq bc ac q w7).mono ?_
            rintro e w8 ⟨rfl, k8⟩
            rw [Hv.out]
            have F8 := F7.mono k8
            clear t0 t1 t2 t3 t4 t5 hq7
            cases v with
            | false =>
              have hfin : L = l := by
                have := HM.out
                rw [Hnx.out, Ho.out] at this
                simp only [Hv.out, Bool.false_eq_true, if_false] at this
                simpa using this
              clear Hnx Ho HM Hv
              go_wp2
              go_ret
              exact ⟨op, oc, by rw [hfin]; first | rfl | (rw [List.length_append]; rfl), by rw [hfin]; first | exact F8.from hk | (rw [List.length_append]; exact F8.from hk)⟩
            | true =>
              have hfin : Hid (L = (l) ++ movesF sgn (Tp.mk bid bq ask aq bc ac) xs (13 - (i + 1)) q) := by
                have := HM.out
                rw [Hnx.out, Ho.out] at this
                simp only [Hv.out, if_true] at this
                rw [show 13 - (i + 1) = 12 - i by omega]
                exact this
              clear Hnx Ho HM Hv
              go_wp2
              exact ⟨⟨i + 1, q, l, op, oc, by omega, rfl, by first | rfl | (rw [List.length_append]; rfl), by push_cast; rfl, hfin.out, by first | omega | (rw [List.length_append]; simp; omega), by first | exact F8 | (rw [List.length_append]; exact F8)⟩, by simp [intOf]; omega⟩
      · obtain rfl : i = 13 := by omega
        have hfin : L = l := by simpa [movesF] using hL
        clear hL
        go_wp2
        go_ret
        exact ⟨op, oc, by rw [hfin]; rfl, by rw [hfin]; exact hF.from hk⟩
end Go.Proofs.Ytgbdnodkbdkaeaa
