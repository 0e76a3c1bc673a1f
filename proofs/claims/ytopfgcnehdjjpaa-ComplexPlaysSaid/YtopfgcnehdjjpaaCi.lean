/- The book of complex orders: Insert: the walk. -/
import Derived.Test.YtopfgcnehdjjpaaCh
namespace Go.Proofs.Ytopfgcnehdjjpaa
open Go.RowKit

structure Right (d : Od) : Prop where
  id : 1 ≤ d.id
  side : d.side = 1 ∨ d.side = 2
  u1 : 1 ≤ d.units
  u2 : d.units ≤ 1000000
  n1 : -16000000 ≤ d.net
  n2 : d.net ≤ 16000000
def sideN (d : Od) : Nat := if d.side = 2 then 1 else 0
theorem sideN_lt (d : Od) : sideN d < 2 := by unfold sideN; split <;> omega
theorem Right.place {d : Od} (h : Right d) : placeI d.side = sideN d := by
  rcases h.side with h | h <;> simp [placeI, sideN, h]
def boxO (d : Od) : Obj := .cells #[.int .i64 d.id, .int .i64 d.owner, .int .i64 d.side, .int .i64 d.net, .int .i64 d.units] 31 (0, 0)

def BookPost (a : Nat) (R' : Nat → List Od) (O : Nat → Nat) (v : Value) (w : World) (e : Ending) (w' : World) : Prop :=
  ∃ p' c' O', e = .returned v ∧ BkAt w' a R' p' c' O' ∧ Grows3 O O' w w'
def InsAt (pos : Nat) (w : World) (v : Value) (w' : World) : Prop := v = .int .i64 pos ∧ Kept (fun _ => False) w w'
def BookMid (a : Nat) (R' : Nat → List Od) (O : Nat → Nat) (w : World) (w' : World) : Prop := ∃ p' c' O', BkAt w' a R' p' c' O' ∧ Grows3 O O' w w'

theorem BkAt.cellAfter {w W w5 : World} {a : Nat} {R : Nat → List Od} {p : Nat → Option Addr} {c : Nat → Nat} {O : Nat → Nat} (h : BkAt w a R p c O) {k : Nat} (hk : k < 2) (h1 : Kept (fun _ => False) w W) (h2 : Kept (OnB (p k)) W w5) :
    w5.cell? ⟨a, k, none⟩ = some (.slice (p k) (R k).length (c k)) ∧ w5.frozen? ⟨a, k, none⟩ = false := by
  have hW := h.keptF h1
  have la := lt_of_block hW.st
  have hA := (h2.block a la (fun ⟨t, ht, e⟩ => by have h1 := hW.ok k hk t ht; rw [← e, hW.oa] at h1; omega)).trans hW.st
  refine ⟨?_, free_of_block hA _⟩
  rw [cell_of_block hA]
  match k, hk with
  | 0, _ => rfl
  | 1, _ => rfl

theorem few_of {R : Nat → List Od} {k n : Nat} (hk : k < 2) (hl : (R 0).length + (R 1).length < 256) (hn : n = (R k).length + 1) : ∀ j, j < 2 → j ≠ k → (R j).length + n ≤ 256 := by
  intro j hj hjk
  have h : (k = 0 ∧ j = 1) ∨ (k = 1 ∧ j = 0) := by omega
  rcases h with ⟨rfl, rfl⟩ | ⟨rfl, rfl⟩ <;> omega
theorem BookMid.drew {w w' : World} {a : Nat} {R' : Nat → List Od} {O : Nat → Nat} (h : BookMid a R' O w w') : BookMid a R' O w w'.drew := by
  obtain ⟨p', c', O', h1, h2⟩ := h
  exact ⟨p', c', O', h1.keptF (Kept.refl _ _).drew, ⟨h2.kept.drew, h2.old⟩⟩
theorem mid_of {w wc W w5 : World} {a : Nat} {R : Nat → List Od} {p : Nat → Option Addr} {c : Nat → Nat} {O : Nat → Nat} (h : BkAt wc a R p c O) {k : Nat} (hk : k < 2) (h0 : Kept (fun _ => False) w wc) (hW : Kept (fun _ => False) wc W) {ys : List Od} {p' : Option Addr} {c' : Nat}
    (hs : SlAt w5 31 5 p' ys.length c' (ys.flatMap odC)) (hkw : Kept (OnB (p k)) W w5) (hp : ∀ t, p' = some t → (p k).map (·.block) = some t.block ∨ W.heap.size ≤ t.block) (hf : ∀ j, j < 2 → j ≠ k → (R j).length + ys.length ≤ 256) :
    BookMid a (upd R k ys) O w (w5.setCell ⟨a, k, none⟩ (.slice p' ys.length c')) := by
  obtain ⟨O', h1, h2⟩ := (h.keptF hW).setRow hk hs hkw hp hf
  exact ⟨_, _, O', h1, (Grows3.ofF (h0.trans hW)).trans h2⟩

set_option maxHeartbeats 4000000 in
set_option maxRecDepth 100000 in
theorem insert_ok {w : World} {a : Nat} {R : Nat → List Od} {p : Nat → Option Addr} {c : Nat → Nat} {O : Nat → Nat} (h : BkAt w a R p c O) (d : Od) (hr : Right d) (hf : findR R d.id = none) (hlen : (R 0).length + (R 1).length < 256)
    {pos : Nat} (hs : Splits (R (sideN d)) d pos) :
    Calls Try.prog 9 #[.pointer (some ⟨a, 0, none⟩), .agg #[.int .i64 d.id, .int .i64 d.owner, .int .i64 d.side, .int .i64 d.net, .int .i64 d.units]] w (BookPost a (upd R (sideN d) (insAt (R (sideN d)) pos d)) O (.int .i64 0) w) := by
  have hk := sideN_lt d
  have hpl := hr.place
  have hin1 : inI d.units 1 1000000 = true := by simp [inI, hr.u1, hr.u2]
  have hin2 : inI d.net (-16000000) 16000000 = true := by simp [inI, hr.n1, hr.n2]
  have hid : 1 ≤ d.id := hr.id
  have hidb : decide (d.id < 1) = false := by simp; omega
  have hrl : (R (sideN d)).length < 256 := by match sideN d, hk with | 0, _ => omega | 1, _ => omega
  generalize sideN d = k at hk hs hpl hrl ⊢
  have Hpl := Lib.hid hpl
  have Hin1 := Lib.hid hin1
  have Hin2 := Lib.hid hin2
  have Hf := Lib.hid hf
  have Hs := Lib.hid hs
  clear hpl hin1 hin2 hf hs hr
  have h0 := h.keptF ((Kept.refl _ w).alloc (.cells #[.int .i64 d.id, .int .i64 d.owner, .int .i64 d.side, .int .i64 d.net, .int .i64 d.units] 31))
  have hk0 : Kept (fun _ => False) w (w.alloc (.cells #[.int .i64 d.id, .int .i64 d.owner, .int .i64 d.side, .int .i64 d.net, .int .i64 d.units] 31)) := (Kept.refl _ w).alloc _
  have hq : (w.alloc (.cells #[.int .i64 d.id, .int .i64 d.owner, .int .i64 d.side, .int .i64 d.net, .int .i64 d.units] 31)).heap[w.heap.size]? = some (boxO d) := block_alloc_new _ _
  go_enter Try.func9, Try.ntmps9
  go_wp2_with fail
  refine (place_any _ _).mono ?_
  rintro e w' ⟨rfl, rfl⟩
  rw [Hpl.out]
  generalize w.heap.size = q at hq ⊢
  generalize w.alloc (.cells #[.int .i64 d.id, .int .i64 d.owner, .int .i64 d.side, .int .i64 d.net, .int .i64 d.units] 31) = w0 at h0 hk0 hq ⊢
  have q0 : w0.cell? ⟨q, 0, none⟩ = some (.int .i64 d.id) := by rw [cell_of_block hq]; rfl
  go_wp2_with fail
  refine (get_no h0 d.id Hf.out).mono ?_
  rintro e w1 ⟨rfl, hk1⟩
  simp only [zeroOd]
  clear q0
  have h1 := h0.keptF hk1
  have hq1 := (hk1.block q (lt_of_block hq) (fun h => h)).trans hq
  have hk01 := hk0.trans hk1
  go_upto_region 3 with fail
  have hk2 : Kept (fun _ => False) w (w1.alloc (.cells #[.int .i64 0, .int .i64 0, .int .i64 0, .int .i64 0, .int .i64 0] 31)) := hk01.alloc _
  have h2 := h1.keptF ((Kept.refl _ w1).alloc (.cells #[.int .i64 0, .int .i64 0, .int .i64 0, .int .i64 0, .int .i64 0] 31))
  have hq2 : (w1.alloc (.cells #[.int .i64 0, .int .i64 0, .int .i64 0, .int .i64 0, .int .i64 0] 31)).heap[q]? = some (boxO d) := block_alloc hq1
  generalize w1.alloc (.cells #[.int .i64 0, .int .i64 0, .int .i64 0, .int .i64 0, .int .i64 0] 31) = w2 at h2 hk2 hq2 ⊢
  clear h0 hk0 hq hk1 h1 hq1 hk01
  have q0 : w2.cell? ⟨q, 0, none⟩ = some (.int .i64 d.id) := by rw [cell_of_block hq2]; rfl
  have q1 : w2.cell? ⟨q, 1, none⟩ = some (.int .i64 d.owner) := by rw [cell_of_block hq2]; rfl
  have q2 : w2.cell? ⟨q, 2, none⟩ = some (.int .i64 d.side) := by rw [cell_of_block hq2]; rfl
  have q3 : w2.cell? ⟨q, 3, none⟩ = some (.int .i64 d.net) := by rw [cell_of_block hq2]; rfl
  have q4 : w2.cell? ⟨q, 4, none⟩ = some (.int .i64 d.units) := by rw [cell_of_block hq2]; rfl
  go_wp2_with fail
  refine (inI_any _ _ _ _).mono ?_
  rintro e w' ⟨rfl, rfl⟩
  rw [Hin1.out]
  go_wp2_with fail
  refine (inI_any _ _ _ _).mono ?_
  rintro e w' ⟨rfl, rfl⟩
  rw [Hin2.out]
  go_wp2_with fail
  refine (len_any h2).mono ?_
  rintro e w' ⟨rfl, n3, rfl⟩
  have hk3 := hk2.drewN n3
  have h3 := h2.keptF ((Kept.refl _ w2).drewN n3)
  have hq3 : (w2.drewN n3).heap[q]? = some (boxO d) := hq2
  generalize w2.drewN n3 = w3 at h3 hk3 hq3 ⊢
  clear q0 q1 q2 q3 q4 h2 hk2 hq2
  have q0 : w3.cell? ⟨q, 0, none⟩ = some (.int .i64 d.id) := by rw [cell_of_block hq3]; rfl
  have q1 : w3.cell? ⟨q, 1, none⟩ = some (.int .i64 d.owner) := by rw [cell_of_block hq3]; rfl
  have q2 : w3.cell? ⟨q, 2, none⟩ = some (.int .i64 d.side) := by rw [cell_of_block hq3]; rfl
  have q3 : w3.cell? ⟨q, 3, none⟩ = some (.int .i64 d.net) := by rw [cell_of_block hq3]; rfl
  have q4 : w3.cell? ⟨q, 4, none⟩ = some (.int .i64 d.units) := by rw [cell_of_block hq3]; rfl
  have hrow := h3.row hk
  go_upto_region 9 with fail
  go_cut [8] (fun v wx => InsAt pos w3 v wx)
  case first =>
    have hsl := h3.sl k hk
    have Hsl := Lib.hid hsl
    have Hq3 := Lib.hid hq3
    clear hsl hq3
    go_region_with (first | (refine (bs_any _ _ _ d pos _ (by exact Hsl.out) Hs.out (by omega)).mono ?_; rintro e w4 ⟨b4, rfl, hk4⟩))
    all_goals (go_wp2_with fail; go_meet; exact ⟨rfl, by first | exact hk4 | exact hk4.drew | exact ((Kept.refl _ w3).drew).trans hk4 | exact (((Kept.refl _ w3).drew).trans hk4).drew⟩)
  case rest =>
    obtain ⟨rfl, hk4⟩ := hcut
    have h4 := h3.keptF hk4
    have hq4 := (hk4.block q (lt_of_block hq3) (fun h => h)).trans hq3
    have hk04 := hk3.trans hk4
    clear q0 q1 q2 q3 q4 h3 hk3 hq3 hrow hk4
    have q0 : wc.cell? ⟨q, 0, none⟩ = some (.int .i64 d.id) := by rw [cell_of_block hq4]; rfl
    have q1 : wc.cell? ⟨q, 1, none⟩ = some (.int .i64 d.owner) := by rw [cell_of_block hq4]; rfl
    have q2 : wc.cell? ⟨q, 2, none⟩ = some (.int .i64 d.side) := by rw [cell_of_block hq4]; rfl
    have q3 : wc.cell? ⟨q, 3, none⟩ = some (.int .i64 d.net) := by rw [cell_of_block hq4]; rfl
    have q4 : wc.cell? ⟨q, 4, none⟩ = some (.int .i64 d.units) := by rw [cell_of_block hq4]; rfl
    have hrow := h4.row hk
    have hpos := Hs.out.1
    go_upto_region 10 with fail
    go_cut [] (fun wx => BookMid a (upd R k (insAt (R k) pos d)) O w wx)
    case first =>
      have hsl := h4.sl k hk
      have hslt := hsl.lt
      have hla := lt_of_block h4.st
      have hlq := lt_of_block hq4
      have Hsl := Lib.hid hsl
      have Hslt := Lib.hid hslt
      have Hq4 := Lib.hid hq4
      clear hsl hq4 hslt
      have Hlen : Hid ((insAt (R k) pos d).length = (R k).length + 1) := insAt_len d hpos
      have hfew0 := few_of hk hlen Hlen.out
      have Hfew := Lib.hid hfew0
      clear hfew0
      go_region_with (first
        | (refine (ins_any (p k) (c k) (R k) d _ pos _ (by repeat (first | with_reducible exact Hsl.out | with_reducible refine SlAt.drew ?_ | with_reducible refine SlAt.alloc ?_ _)) (by repeat (first | with_reducible refine block_drew ?_ | exact block_new (by simp))) (by intro u hu e; have := Hslt.out u hu; omega) hpos (by omega)).mono ?_
           rintro e w5 ⟨p5, c5, rfl, hs5, hkw5, hp5⟩
           obtain ⟨g1, g2⟩ := h4.cellAfter hk (by repeat (first | with_reducible exact Kept.refl _ _ | with_reducible refine Kept.drew ?_ | with_reducible refine Kept.alloc ?_ _)) hkw5
           have HS5 := Lib.hid hs5
           have HK5 := Lib.hid hkw5
           have HP5 := Lib.hid hp5
           clear hs5 hkw5 hp5))
      all_goals
        go_wp2_with fail
        go_meet
        first
          | exact mid_of h4 hk hk04 (by repeat (first | with_reducible exact Kept.refl _ _ | with_reducible refine Kept.drew ?_ | with_reducible refine Kept.alloc ?_ _)) HS5.out HK5.out HP5.out Hfew.out
          | exact (mid_of h4 hk hk04 (by repeat (first | with_reducible exact Kept.refl _ _ | with_reducible refine Kept.drew ?_ | with_reducible refine Kept.alloc ?_ _)) HS5.out HK5.out HP5.out Hfew.out).drew
    case rest =>
      obtain ⟨p6, c6, O6, h6, g6⟩ := hcut
      go_wp2
      go_ret
      exact ⟨p6, c6, O6, rfl, h6, g6⟩
end Go.Proofs.Ytopfgcnehdjjpaa
