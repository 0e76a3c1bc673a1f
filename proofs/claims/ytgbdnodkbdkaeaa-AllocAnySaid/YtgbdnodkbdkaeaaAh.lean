/- Alloc: a table's next price above: Up 42; the reference's step 58. -/
import Derived.Test.YtgbdnodkbdkaeaaAg
namespace Go.Proofs.Ytgbdnodkbdkaeaa
open Go Go.RowKit

set_option maxHeartbeats 1000000 in
theorem up_any {w : World} {b off cap : Nat} {xs : List (Int × Int)} (p : Int) (hg : GoodT xs) (hb : b < w.heap.size) (hs : StAt w b off xs) :
    Calls Try.prog 42 #[.slice (some ⟨b, off, none⟩) xs.length cap, .int .i64 p] w (OpPost (upT xs p) w) := by
  have ho := on_any (cap := cap) p hg hb hs
  have Hg := Lib.hid hg
  have Hs := Lib.hid hs
  have HO := Lib.hid ho
  clear ho hs hg
  cases hon : onT xs p with
  | false =>
    have hE : Hid (upT xs p = none) := by show _ = _; unfold upT; rw [if_neg (by rw [hon]; simp)]
    rw [hon] at HO
    clear hon
    generalize xs.length = len at HO ⊢
    go_enter Try.func42, Try.ntmps42
    go_wp2_with fail
    refine HO.out.mono ?_
    rintro e w' ⟨rfl, hk⟩
    go_wp2
    go_ret2
    exact ⟨ret_op hE.out (fun _ => rfl), hk⟩
  | true =>
    obtain ⟨hp1, hp2⟩ := onT_range Hg.out hon
    obtain ⟨k, hk, he, hst, hle⟩ := Hg.out.step hp1
    obtain ⟨h1, h2, h3, h4⟩ := Hg.out.rows k hk
    have hsT : stepT xs p = xs.getD k (0, 0) := by unfold stepT; rw [hst]
    have hreach : (xs.length : Int) ≤ 1000 := by have := Hg.out.len; omega
    obtain ⟨y, hy⟩ : ∃ y, (xs.getD k (0, 0)).2 = y := ⟨_, rfl⟩
    rw [hy] at h3 h4
    have hw1 : wrap64 (p + y) = p + y := IntWalk.wrap64_in _ (by omega)
    have hE : Hid (upT xs p = if p + y ≤ 1000000 then some (p + y) else none) := by show _ = _; unfold upT; rw [if_pos hon, hsT, hy]
    have Hcell : Hid (∀ w' : World, Kept (fun _ => False) w w' → w'.cell? ⟨b, off + k * 2 + 1, none⟩ = some (.int .i64 y)) := fun w' h => by rw [← hy]; exact ((Hs.out.kept hb h) k hk).2
    have Hof : Hid (∀ w' : World, Kept (fun _ => False) w w' → Calls Try.prog 55 #[.slice (some ⟨b, off, none⟩) xs.length cap, .int .i64 p] w' fun e W' => e = .returned (.int .i64 (k : Int)) ∧ Kept (fun _ => False) w' W') := fun w' h => by
      have := ofT_any (cap := cap) p hreach (Nat.lt_of_lt_of_le hb h.size) (Hs.out.kept hb h); rw [he] at this; exact this
    have hkl : (k : Int) < (xs.length : Int) := by omega
    have hk0 : (0 : Int) ≤ (k : Int) := by omega
    rw [hon] at HO
    clear hon he hst hle hsT hy h1 h2 hreach hk
    generalize xs.length = len at HO Hof hkl ⊢
    by_cases hbig : p + y ≤ 1000000
    all_goals
      go_enter Try.func42, Try.ntmps42
      go_wp2_with fail
      refine HO.out.mono ?_
      rintro e w' ⟨rfl, hk⟩
      go_wp2_with fail
      refine (Hof.out w' hk).mono ?_
      rintro e w'' ⟨rfl, hk2⟩
      have hkk := hk.trans hk2
      have c1 := Hcell.out w'' hkk
      go_wp2
      go_ret2
      exact ⟨ret_op (by rw [hE.out]; first | exact if_pos hbig | exact if_neg (by omega)) (fun h => by first | rfl | cases h), hkk⟩

/-- The reference's: the last step, but for the first, whose From is not above a price; else the first. -/
def rstepK (xs : List (Int × Int)) (p : Int) : Nat → Nat
  | 0 => 0
  | r + 1 => if 1 ≤ r ∧ (xs.getD r (0, 0)).1 ≤ p then r else rstepK xs p r
theorem rstepK_le (xs : List (Int × Int)) (p : Int) : ∀ r, rstepK xs p (r + 1) ≤ r
  | 0 => by simp [rstepK]
  | r + 1 => by
    unfold rstepK
    split
    · omega
    · exact Nat.le_trans (rstepK_le xs p r) (Nat.le_succ r)
theorem rstepK_is {xs : List (Int × Int)} (hg : GoodT xs) {p : Int} (hp : 1 ≤ p) : ∀ r, 1 ≤ r → lastAt xs p r = (rstepK xs p r : Int)
  | 0, h => by omega
  | 1, _ => by
    show (if (xs.getD 0 (0, 0)).1 ≤ p then _ else _) = _
    rw [if_pos (by rw [hg.one]; exact hp)]; rfl
  | r + 2, _ => by
    show (if (xs.getD (r + 1) (0, 0)).1 ≤ p then _ else lastAt xs p (r + 1)) = _
    unfold rstepK
    by_cases h : (xs.getD (r + 1) (0, 0)).1 ≤ p
    · rw [if_pos h, if_pos ⟨by omega, h⟩]
    · rw [if_neg h, if_neg (fun hh => h hh.2)]
      exact rstepK_is hg hp (r + 1) (by omega)
def SpRel (xs : List (Int × Int)) (p : Int) (n sb : Nat) (w0 : World) (iv : Value) (wr : World) : Prop := ∃ i : Nat, 1 ≤ i ∧ i ≤ n ∧ iv = .int .i64 i ∧ wr.heap[sb]? = some (.cells #[.int .i64 (xs.getD (rstepK xs p i) (0, 0)).1, .int .i64 (xs.getD (rstepK xs p i) (0, 0)).2] 93 (0, 0)) ∧ Kept (fun j => j = sb) w0 wr
def SpPost (s : Int × Int) (w : World) (e : Ending) (w' : World) : Prop := e = .returned (.agg #[.int .i64 s.1, .int .i64 s.2]) ∧ Kept (fun _ => False) w w'
theorem block_new3 (w : World) (o : Obj) : (w.alloc o).heap[w.heap.size]? = some o := block_new2 w o
set_option maxHeartbeats 2000000 in
set_option maxRecDepth 100000 in
theorem step_ref {w : World} {b off cap : Nat} {xs : List (Int × Int)} (p : Int) (hg : GoodT xs) (hb : b < w.heap.size) (hs : StAt w b off xs) :
    Calls Try.prog 58 #[.slice (some ⟨b, off, none⟩) xs.length cap, .int .i64 p] w (SpPost (xs.getD (rstepK xs p xs.length) (0, 0)) w) := by
  obtain ⟨c0, c1⟩ := hs 0 (by have := hg.len; omega)
  rw [show off + 0 * 2 = off by omega] at c0 c1
  have Hs := Lib.hid hs
  obtain ⟨len, hlen⟩ : ∃ len, xs.length = len := ⟨_, rfl⟩
  have Hlen := Lib.hid hlen
  have hl1 : (1 : Int) ≤ (len : Int) := by have := hg.len; omega
  have hl8 : (len : Int) ≤ 8 := by have := hg.len; omega
  rw [hlen]
  obtain ⟨s0, hs0⟩ : ∃ s, xs.getD 0 (0, 0) = s := ⟨_, rfl⟩
  rw [hs0] at c0 c1
  obtain ⟨f0, y0⟩ := s0
  have Hs0 := Lib.hid hs0
  have hl0 : (0 : Int) < (len : Int) := by omega
  clear hs hg hlen hs0
  simp only at c0 c1
  go_enter Try.func58, Try.ntmps58
  go_wp2_with fail
  have hrb : ((w.alloc (.cells #[.int .i64 0, .int .i64 0] 93)).alloc (.cells #[.int .i64 f0, .int .i64 y0] 93)).heap[w.heap.size]? = some (.cells #[.int .i64 0, .int .i64 0] 93 (0, 0)) := block_alloc (block_new3 _ _)
  have hsb : ((w.alloc (.cells #[.int .i64 0, .int .i64 0] 93)).alloc (.cells #[.int .i64 f0, .int .i64 y0] 93)).heap[w.heap.size + 1]? = some (.cells #[.int .i64 f0, .int .i64 y0] 93 (0, 0)) := by
    have := block_new3 (w.alloc (.cells #[.int .i64 0, .int .i64 0] 93)) (.cells #[.int .i64 f0, .int .i64 y0] 93)
    rwa [show (w.alloc (.cells #[.int .i64 0, .int .i64 0] 93)).heap.size = w.heap.size + 1 by simp] at this
  have hk1 : Kept (fun _ => False) w ((w.alloc (.cells #[.int .i64 0, .int .i64 0] 93)).alloc (.cells #[.int .i64 f0, .int .i64 y0] 93)) := ((Kept.refl _ _).alloc _).alloc _
  have hlt1 : Hid (b < w.heap.size) := hb
  generalize hsbn : w.heap.size + 1 = sb at hsb ⊢
  generalize hrbn : w.heap.size = rb at hrb ⊢
  generalize (w.alloc (.cells #[.int .i64 0, .int .i64 0] 93)).alloc (.cells #[.int .i64 f0, .int .i64 y0] 93) = W1 at hrb hsb hk1 ⊢
  have Hsbn := Lib.hid hsbn
  have Hrbn := Lib.hid hrbn
  have Hk1 := Lib.hid hk1
  have Hrb := Lib.hid hrb
  have hst : Hid (SpRel xs p len sb W1 (.int .i64 1) W1) := ⟨1, Nat.le_refl _, by omega, rfl, by rw [show rstepK xs p 1 = 0 from rfl, Hs0.out]; exact hsb, Kept.refl _ _⟩
  clear hsbn hrbn hk1 hrb hsb c0 c1 hb
  go_loopw [6] (fun iv wr => SpRel xs p len sb W1 iv wr) (fun iv _ => len - (intOf iv).toNat)
  case atStart => exact hst.out
  case round =>
    obtain ⟨i, hi1, hi, rfl, hbk, hkp⟩ := hrel
    clear hst
    have Hkp := Lib.hid hkp
    clear hkp
    have hbs : Hid (b ≠ sb) := by show b ≠ sb; have h1 := hlt1.out; have h2 := Hsbn.out; omega
    have hbW : Hid (b < W1.heap.size) := Nat.lt_of_lt_of_le hlt1.out Hk1.out.size
    by_cases hlt : i < len
    · obtain ⟨c0, c1⟩ := Hs.out i (by rw [Hlen.out]; exact hlt)
      have hsame : wr.heap[b]? = w.heap[b]? := (Hkp.out.block b hbW.out hbs.out).trans (Hk1.out.block b hlt1.out (fun h => h))
      have d0 : wr.cell? ⟨b, off + i * 2, none⟩ = some (.int .i64 (xs.getD i (0, 0)).1) := by rw [World.cell?_of_block (a := ⟨b, off + i * 2, none⟩) (w := w) hsame]; exact c0
      have d1 : wr.cell? ⟨b, off + i * 2 + 1, none⟩ = some (.int .i64 (xs.getD i (0, 0)).2) := by rw [World.cell?_of_block (a := ⟨b, off + i * 2 + 1, none⟩) (w := w) hsame]; exact c1
      obtain ⟨si, hsi⟩ : ∃ s, xs.getD i (0, 0) = s := ⟨_, rfl⟩
      rw [hsi] at d0 d1
      obtain ⟨f, y⟩ := si
      simp only at d0 d1
      have Hsi := Lib.hid hsi
      have Hlt := Lib.hid hlt
      have Hi1 := Lib.hid hi1
      have Hbk := Lib.hid hbk
      have b1 : (0 : Int) ≤ (i : Int) := by omega
      have b2 : (i : Int) < (len : Int) := by omega
      have hw1 : wrap64 ((i : Int) + 1) = (i : Int) + 1 := IntWalk.wrap64_in _ (by omega)
      clear c0 c1 hsi hlt hi1 hsame
      have e0 : wr.cell? ⟨sb, 0, none⟩ = some (.int .i64 (xs.getD (rstepK xs p i) (0, 0)).1) := by rw [cell_of_block hbk]; rfl
      have e1 : wr.cell? ⟨sb, 1, none⟩ = some (.int .i64 (xs.getD (rstepK xs p i) (0, 0)).2) := by rw [cell_of_block hbk]; rfl
      have g0 := free_of_block hbk
      clear hbk
      by_cases hp : f ≤ p
      · have hK : Hid (rstepK xs p (i + 1) = i) := if_pos ⟨Hi1.out, by rw [Hsi.out]; exact hp⟩
        go_wp2
        refine ⟨⟨i + 1, by omega, Hlt.out, by push_cast; rfl, ?_, ?_⟩, by have := Hlt.out; simp [intOf]; omega⟩
        · rw [hK.out, Hsi.out, block_setCell (block_setCell Hbk.out _ _) _ _]; rfl
        · exact (Hkp.out.setCell (p := ⟨sb, 0, none⟩) (fun _ => rfl) _).setCell (p := ⟨sb, 1, none⟩) (fun _ => rfl) _
      · have hK : Hid (rstepK xs p (i + 1) = rstepK xs p i) := if_neg (fun h => hp (by have := h.2; rw [Hsi.out] at this; exact this))
        have hp' : p < f := by omega
        go_wp2
        exact ⟨⟨i + 1, by omega, Hlt.out, by push_cast; rfl, by rw [hK.out]; exact Hbk.out, Hkp.out⟩, by have := Hlt.out; simp [intOf]; omega⟩
    · obtain rfl : i = len := by omega
      have e0 : wr.cell? ⟨sb, 0, none⟩ = some (.int .i64 (xs.getD (rstepK xs p i) (0, 0)).1) := by rw [cell_of_block hbk]; rfl
      have e1 : wr.cell? ⟨sb, 1, none⟩ = some (.int .i64 (xs.getD (rstepK xs p i) (0, 0)).2) := by rw [cell_of_block hbk]; rfl
      have hrb2 : wr.heap[rb]? = some (.cells #[.int .i64 0, .int .i64 0] 93 (0, 0)) := (Hkp.out.block rb (lt_of_block Hrb.out) (by show rb ≠ sb; have h1 := Hsbn.out; have h2 := Hrbn.out; omega)).trans Hrb.out
      have r0 : wr.cell? ⟨rb, 0, none⟩ = some (.int .i64 0) := by rw [cell_of_block hrb2]; rfl
      have r1 : wr.cell? ⟨rb, 1, none⟩ = some (.int .i64 0) := by rw [cell_of_block hrb2]; rfl
      have g0 := free_of_block hrb2
      have Hrb2 := Lib.hid hrb2
      clear hbk hrb2
      have Hkk : Hid (∀ u v : Value, Kept (fun _ => False) w ((wr.setCell ⟨rb, 0, none⟩ u).setCell ⟨rb, 1, none⟩ v)) := fun u v => by
        refine Kept.trans' (G := fun j => j = sb ∨ j = rb) Hk1.out ?_ (fun j hj h => by have h1 := Hsbn.out; have h2 := Hrbn.out; omega)
        exact (((Hkp.out.mono (fun j _ h => .inl h)).setCell (p := ⟨rb, 0, none⟩) (fun _ => .inr rfl) _).setCell (p := ⟨rb, 1, none⟩) (fun _ => .inr rfl) _)
      clear hbs hbW hlt hi hi1
      obtain ⟨sx, hsx⟩ : ∃ sx, xs.getD (rstepK xs p i) (0, 0) = sx := ⟨_, rfl⟩
      rw [hsx] at e0 e1
      have Hsx := Lib.hid hsx
      clear hsx
      go_wp2
      have hb9 : ((wr.setCell ⟨rb, 0, none⟩ (.int .i64 sx.1)).setCell ⟨rb, 1, none⟩ (.int .i64 sx.2)).heap[rb]? = some (.cells #[.int .i64 sx.1, .int .i64 sx.2] 93 (0, 0)) := by
        rw [block_setCell (block_setCell Hrb2.out _ _) _ _]; rfl
      have hk9 := Hkk.out (.int .i64 sx.1) (.int .i64 sx.2)
      change bodyPost _ _ _ _ _ ((wr.setCell ⟨rb, 0, none⟩ (.int .i64 sx.1)).setCell ⟨rb, 1, none⟩ (.int .i64 sx.2))
      generalize (wr.setCell ⟨rb, 0, none⟩ (.int .i64 sx.1)).setCell ⟨rb, 1, none⟩ (.int .i64 sx.2) = wf at hb9 hk9 ⊢
      clear r0 r1 g0 e0 e1
      have r0 : wf.cell? ⟨rb, 0, none⟩ = some (.int .i64 sx.1) := by rw [cell_of_block hb9]; rfl
      have r1 : wf.cell? ⟨rb, 1, none⟩ = some (.int .i64 sx.2) := by rw [cell_of_block hb9]; rfl
      exact bodyPost_ret (v := .agg #[.int .i64 sx.1, .int .i64 sx.2]) (by simp [results, Try.results58, go_sem, r0, r1]) rfl ⟨by rw [Hsx.out], hk9⟩
end Go.Proofs.Ytgbdnodkbdkaeaa
