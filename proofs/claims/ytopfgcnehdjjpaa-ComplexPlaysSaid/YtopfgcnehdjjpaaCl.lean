/- The book of complex orders: Remove: the walks. -/
import Derived.Test.YtopfgcnehdjjpaaCk
namespace Go.Proofs.Ytopfgcnehdjjpaa
open Go.RowKit

theorem remove_no {w : World} {a : Nat} {R : Nat → List Od} {p : Nat → Option Addr} {c : Nat → Nat} {O : Nat → Nat} (h : BkAt w a R p c O) (id : Int) (hf : findR R id = none) :
    Calls Try.prog 12 #[.pointer (some ⟨a, 0, none⟩), .int .i64 id] w (GPost zeroOd false w) := by
  have Hf := Lib.hid hf
  clear hf
  have h' := h.keptF ((Kept.refl _ w).alloc (.cells #[.int .i64 0, .int .i64 0, .int .i64 0, .int .i64 0, .int .i64 0] 31))
  go_enter Try.func12, Try.ntmps12
  go_wp2_with fail
  refine (find_any h' id).mono ?_
  rintro e w' hp
  obtain ⟨rfl, hk⟩ := hp.2 Hf.out
  clear hp
  have hk2 : Kept (fun _ => False) w w' := ((Kept.refl _ _).alloc _).trans hk
  have hb : w'.heap[w.heap.size]? = some (.cells #[.int .i64 0, .int .i64 0, .int .i64 0, .int .i64 0, .int .i64 0] 31 (0, 0)) := (hk.block _ (by simp) (fun h => h)).trans (block_alloc_new _ _)
  have c0 : w'.cell? ⟨w.heap.size, 0, none⟩ = some (.int .i64 0) := by rw [cell_of_block hb]; rfl
  have c1 : w'.cell? ⟨w.heap.size, 1, none⟩ = some (.int .i64 0) := by rw [cell_of_block hb]; rfl
  have c2 : w'.cell? ⟨w.heap.size, 2, none⟩ = some (.int .i64 0) := by rw [cell_of_block hb]; rfl
  have c3 : w'.cell? ⟨w.heap.size, 3, none⟩ = some (.int .i64 0) := by rw [cell_of_block hb]; rfl
  have c4 : w'.cell? ⟨w.heap.size, 4, none⟩ = some (.int .i64 0) := by rw [cell_of_block hb]; rfl
  have f0 := free_of_block hb
  have hs := lt_of_block hb
  go_wp2
  obtain ⟨hb5, hk5⟩ := put5_law hb zeroOd
  change bodyPost _ _ _ _ _ (put5 w' w.heap.size zeroOd)
  generalize put5 w' w.heap.size zeroOd = wf at hb5 hk5 ⊢
  clear c0 c1 c2 c3 c4 f0
  have c0 : wf.cell? ⟨w.heap.size, 0, none⟩ = some (.int .i64 0) := by rw [cell_of_block hb5]; rfl
  have c1 : wf.cell? ⟨w.heap.size, 1, none⟩ = some (.int .i64 0) := by rw [cell_of_block hb5]; rfl
  have c2 : wf.cell? ⟨w.heap.size, 2, none⟩ = some (.int .i64 0) := by rw [cell_of_block hb5]; rfl
  have c3 : wf.cell? ⟨w.heap.size, 3, none⟩ = some (.int .i64 0) := by rw [cell_of_block hb5]; rfl
  have c4 : wf.cell? ⟨w.heap.size, 4, none⟩ = some (.int .i64 0) := by rw [cell_of_block hb5]; rfl
  refine bodyPost_ret (v := .tuple #[.agg #[.int .i64 0, .int .i64 0, .int .i64 0, .int .i64 0, .int .i64 0], .bool false]) (by simp [results, Try.results12, go_sem, c0, c1, c2, c3, c4]) rfl ⟨rfl, ?_⟩
  exact hk2.trans' (G := fun i => i = w.heap.size) hk5 (fun i hi e => by omega)

theorem few_del {R : Nat → List Od} {k n m i : Nat} (hk : k < 2) (hl : (R 0).length + (R 1).length ≤ 256) (hm : (R k).length = i + 1 + m) (hn : n = i + m) : ∀ j, j < 2 → j ≠ k → (R j).length + n ≤ 256 := by
  intro j hj hjk
  have h : (k = 0 ∧ j = 1) ∨ (k = 1 ∧ j = 0) := by omega
  rcases h with ⟨rfl, rfl⟩ | ⟨rfl, rfl⟩ <;> omega
/-- .. and what is done to blocks that were not there. -/
theorem Grows3.trans' {O O' : Nat → Nat} {a b c : World} (h : Grows3 O O' a b) {G : Nat → Prop} (k : Kept G b c) (hG : ∀ i, i < a.heap.size → ¬ G i) : Grows3 O O' a c :=
  ⟨h.kept.trans' k fun i hi hg => absurd hg (hG i hi), h.old⟩
def RemPost (a : Nat) (R' : Nat → List Od) (O : Nat → Nat) (d : Od) (v : Value) (w : World) (e : Ending) (w' : World) : Prop :=
  ∃ p' c' O', e = .returned (.tuple #[.agg #[.int .i64 d.id, .int .i64 d.owner, .int .i64 d.side, .int .i64 d.net, .int .i64 d.units], v]) ∧ BkAt w' a R' p' c' O' ∧ Grows3 O O' w w'
set_option maxHeartbeats 2000000 in
theorem remove_yes {w : World} {a : Nat} {R : Nat → List Od} {p : Nat → Option Addr} {c : Nat → Nat} {O : Nat → Nat} (h : BkAt w a R p c O) (id : Int) {k i : Nat} {d : Od} (hf : findR R id = some (k, i)) (hd : (R k)[i]? = some d) :
    Calls Try.prog 12 #[.pointer (some ⟨a, 0, none⟩), .int .i64 id] w (RemPost a (upd R k (delAt (R k) i)) O d (.bool true) w) := by
  obtain ⟨hk2, _, _, _, hil⟩ := findR_some hf
  have Hf := Lib.hid hf
  have Hd := Lib.hid hd
  clear hf hd
  have h' := h.keptF ((Kept.refl _ w).alloc (.cells #[.int .i64 0, .int .i64 0, .int .i64 0, .int .i64 0, .int .i64 0] 31))
  have hO1 := h.new w.heap.size (Nat.le_refl _)
  go_enter Try.func12, Try.ntmps12
  go_wp2_with fail
  refine (find_any h' id).mono ?_
  rintro e w' hp
  obtain ⟨rfl, hk⟩ := hp.1 k i Hf.out
  clear hp
  have hk3 : Kept (fun _ => False) w w' := ((Kept.refl _ _).alloc _).trans hk
  have hb : w'.heap[w.heap.size]? = some (.cells #[.int .i64 0, .int .i64 0, .int .i64 0, .int .i64 0, .int .i64 0] 31 (0, 0)) := (hk.block _ (by simp) (fun h => h)).trans (block_alloc_new _ _)
  have hs := lt_of_block hb
  have hR := h'.keptF hk
  have hrow := hR.row hk2
  have hsl := hR.sl k hk2
  have hrl : (R k).length ≤ 256 := by have := hR.few; have h2 : k = 0 ∨ k = 1 := by omega
                                      rcases h2 with rfl | rfl <;> omega
  obtain ⟨m, hm⟩ : ∃ m, (R k).length = i + 1 + m := ⟨(R k).length - (i + 1), by omega⟩
  obtain ⟨t, o, hpk⟩ := sl_some hsl (by omega)
  rw [hpk] at hsl hrow
  obtain ⟨x0, x1, x2, x3, x4⟩ := od_cells hsl rfl Hd.out
  rw [hm] at hsl hrow hil hrl
  have Hm := Lib.hid hm
  have Hpk := Lib.hid hpk
  clear hm hpk h' h hk
  have hir : (i : Int) < (i : Int) + 1 + (m : Int) := by omega
  go_upto_region 5 with fail
  have hk4 : Kept (fun _ => False) w (w'.alloc (.cells #[.int .i64 d.id, .int .i64 d.owner, .int .i64 d.side, .int .i64 d.net, .int .i64 d.units] 31)) := hk3.alloc _
  have h4 := hR.keptF ((Kept.refl _ w').alloc (.cells #[.int .i64 d.id, .int .i64 d.owner, .int .i64 d.side, .int .i64 d.net, .int .i64 d.units] 31))
  have hb4 : (w'.alloc (.cells #[.int .i64 d.id, .int .i64 d.owner, .int .i64 d.side, .int .i64 d.net, .int .i64 d.units] 31)).heap[w.heap.size]? = _ := block_alloc hb
  have hq4 : (w'.alloc (.cells #[.int .i64 d.id, .int .i64 d.owner, .int .i64 d.side, .int .i64 d.net, .int .i64 d.units] 31)).heap[w'.heap.size]? = some (boxO d) := block_alloc_new _ _
  have hO2 := hR.new w'.heap.size (Nat.le_refl _)
  generalize w'.heap.size = q at hq4 hO2 ⊢
  generalize w'.alloc (.cells #[.int .i64 d.id, .int .i64 d.owner, .int .i64 d.side, .int .i64 d.net, .int .i64 d.units] 31) = w4 at hk4 h4 hb4 hq4 ⊢
  clear x0 x1 x2 x3 x4 hrow hsl hR hk3 hb hs
  have hrow := h4.row hk2
  have hsl := h4.sl k hk2
  rw [Hpk.out, Hm.out] at hrow hsl
  go_cut [] (fun wx => BookMid a (upd R k (delAt (R k) i)) O w4 wx)
  case first =>
    have Hsl := Lib.hid hsl
    have Hfew := Lib.hid (few_del hk2 h4.few Hm.out (delAt_len Hm.out))
    have Hb4 := Lib.hid hb4
    have Hq4 := Lib.hid hq4
    have HO2 := Lib.hid hO2
    clear hsl hb4 hq4 hO2
    have hla4 := lt_of_block h4.st
    go_region_with (first
      | (refine (delete_any t o (c k) i m (R k) Hm.out _ (by repeat (first | with_reducible exact Hsl.out | with_reducible refine SlAt.drew ?_ | with_reducible refine SlAt.alloc ?_ _)) hrl).mono ?_
         rintro e w5 ⟨rfl, hs5, hkw5⟩
         rw [← Hpk.out] at hkw5
         obtain ⟨g1, g2⟩ := h4.cellAfter hk2 (by repeat (first | with_reducible exact Kept.refl _ _ | with_reducible refine Kept.drew ?_ | with_reducible refine Kept.alloc ?_ _)) hkw5
         have HS5 := Lib.hid hs5
         have HK5 := Lib.hid hkw5
         clear hs5 hkw5))
    all_goals
      go_wp2_with fail
      go_meet
      first
        | exact mid_of h4 hk2 (Kept.refl _ _) (by repeat (first | with_reducible exact Kept.refl _ _ | with_reducible refine Kept.drew ?_ | with_reducible refine Kept.alloc ?_ _)) HS5.out HK5.out (fun t' ht' => .inl (by rw [Hpk.out]; cases ht'; rfl)) Hfew.out
        | exact (mid_of h4 hk2 (Kept.refl _ _) (by repeat (first | with_reducible exact Kept.refl _ _ | with_reducible refine Kept.drew ?_ | with_reducible refine Kept.alloc ?_ _)) HS5.out HK5.out (fun t' ht' => .inl (by rw [Hpk.out]; cases ht'; rfl)) Hfew.out).drew
  case rest =>
    obtain ⟨p6, c6, O6, h6, g6⟩ := hcut
    have hb6 := (g6.kept.block w.heap.size (lt_of_block hb4) (fun hG => hG hO1)).trans hb4
    have hq6 := (g6.kept.block q (lt_of_block hq4) (fun hG => hG hO2)).trans hq4
    have hO6 : O6 w.heap.size = 0 := (g6.old _ (lt_of_block hb4)).trans hO1
    clear hrow hsl hb4 hq4
    have y0 : wc.cell? ⟨q, 0, none⟩ = some (.int .i64 d.id) := by rw [cell_of_block hq6]; rfl
    have y1 : wc.cell? ⟨q, 1, none⟩ = some (.int .i64 d.owner) := by rw [cell_of_block hq6]; rfl
    have y2 : wc.cell? ⟨q, 2, none⟩ = some (.int .i64 d.side) := by rw [cell_of_block hq6]; rfl
    have y3 : wc.cell? ⟨q, 3, none⟩ = some (.int .i64 d.net) := by rw [cell_of_block hq6]; rfl
    have y4 : wc.cell? ⟨q, 4, none⟩ = some (.int .i64 d.units) := by rw [cell_of_block hq6]; rfl
    have c0 : wc.cell? ⟨w.heap.size, 0, none⟩ = some (.int .i64 0) := by rw [cell_of_block hb6]; rfl
    have c1 : wc.cell? ⟨w.heap.size, 1, none⟩ = some (.int .i64 0) := by rw [cell_of_block hb6]; rfl
    have c2 : wc.cell? ⟨w.heap.size, 2, none⟩ = some (.int .i64 0) := by rw [cell_of_block hb6]; rfl
    have c3 : wc.cell? ⟨w.heap.size, 3, none⟩ = some (.int .i64 0) := by rw [cell_of_block hb6]; rfl
    have c4 : wc.cell? ⟨w.heap.size, 4, none⟩ = some (.int .i64 0) := by rw [cell_of_block hb6]; rfl
    have f0 := free_of_block hb6
    go_wp2
    obtain ⟨hb5, hk5⟩ := put5_law hb6 d
    change bodyPost _ _ _ _ _ (put5 wc w.heap.size d)
    generalize put5 wc w.heap.size d = wf at hb5 hk5 ⊢
    clear c0 c1 c2 c3 c4 f0 y0 y1 y2 y3 y4
    have c0 : wf.cell? ⟨w.heap.size, 0, none⟩ = some (.int .i64 d.id) := by rw [cell_of_block hb5]; rfl
    have c1 : wf.cell? ⟨w.heap.size, 1, none⟩ = some (.int .i64 d.owner) := by rw [cell_of_block hb5]; rfl
    have c2 : wf.cell? ⟨w.heap.size, 2, none⟩ = some (.int .i64 d.side) := by rw [cell_of_block hb5]; rfl
    have c3 : wf.cell? ⟨w.heap.size, 3, none⟩ = some (.int .i64 d.net) := by rw [cell_of_block hb5]; rfl
    have c4 : wf.cell? ⟨w.heap.size, 4, none⟩ = some (.int .i64 d.units) := by rw [cell_of_block hb5]; rfl
    refine bodyPost_ret (v := .tuple #[.agg #[.int .i64 d.id, .int .i64 d.owner, .int .i64 d.side, .int .i64 d.net, .int .i64 d.units], .bool true]) (by simp [results, Try.results12, go_sem, c0, c1, c2, c3, c4]) rfl ?_
    refine ⟨p6, c6, O6, rfl, h6.kept (hk5.mono fun j _ e => by rw [e]; exact hO6), ?_⟩
    refine ((Grows3.ofF hk4).trans g6).trans' hk5 ?_
    exact fun j hj => by omega
end Go.Proofs.Ytopfgcnehdjjpaa
