/- The book of complex orders: Reduce: the walks. -/
import Derived.Test.YtopfgcnehdjjpaaCl
namespace Go.Proofs.Ytopfgcnehdjjpaa
open Go.RowKit

theorem SlAt.store {w : World} {E size t o len cap j : Nat} {xs : List Value} (h : SlAt w E size (some ⟨t, o, none⟩) len cap xs) (hj : j < len * size) (v : Value) : SlAt (w.setCell ⟨t, o + j, none⟩ v) E size (some ⟨t, o, none⟩) len cap (xs.set j v) := by
  obtain ⟨h1, h2, h3⟩ := h
  refine ⟨by rw [List.length_set]; exact h1, h2, ?_⟩
  rcases h3 with ⟨h3, _⟩ | ⟨t', o', arr, ha, hb, hs, hx⟩
  · cases h3
  · cases ha
    have hls : len * size ≤ cap * size := Nat.mul_le_mul_right _ h2
    refine .inr ⟨t, o, _, rfl, block_setCell hb _ _, by simpa using hs, fun i hi => ?_⟩
    rw [Array.getElem?_setIfInBounds, List.getElem?_set]
    by_cases e : j = i
    · subst e; rw [if_pos rfl, if_pos (by omega), if_pos rfl, if_pos (by omega)]
    · rw [if_neg (by omega), if_neg e]; exact hx i hi
theorem set_cells {xs : List Od} {i : Nat} {d : Od} (hd : xs[i]? = some d) (u : Int) : (xs.flatMap odC).set (i * 5 + 4) (.int .i64 u) = (xs.set i { d with units := u }).flatMap odC := by
  apply List.ext_getElem?
  intro j
  have hi : i < xs.length := (List.getElem?_eq_some_iff.1 hd).1
  obtain ⟨a, b, hb, rfl⟩ : ∃ a b, b < 5 ∧ j = a * 5 + b := ⟨j / 5, j % 5, by omega, by omega⟩
  rw [List.getElem?_set, fm_get odC_len _ _ _ hb, fm_get odC_len _ _ _ hb, List.getElem?_set, oc_len]
  by_cases e : i = a
  · subst e
    rw [if_pos rfl, if_pos hi, hd]
    by_cases e2 : b = 4
    · subst e2; rw [if_pos rfl, if_pos (by omega)]; rfl
    · rw [if_neg (by omega)]
      show (odC d)[b]? = (odC _)[b]?
      have hb4 : b < 4 := by omega
      clear e2 hb
      match b, hb4 with
      | 0, _ | 1, _ | 2, _ | 3, _ => rfl
  · rw [if_neg (by omega), if_neg e]
theorem idxN_ids (xs : List Od) (id : Int) : idxN xs id = (xs.map Od.id).findIdx? (· == id) := by
  unfold idxN; rw [List.findIdx?_map]; rfl
theorem set_ids {xs : List Od} {i : Nat} {d : Od} (hd : xs[i]? = some d) (u : Int) : (xs.set i { d with units := u }).map Od.id = xs.map Od.id := by
  rw [List.map_set]
  apply List.ext_getElem?
  intro j
  rw [List.getElem?_set]
  split
  · rename_i e
    subst e
    split
    · rw [List.getElem?_map, hd]; rfl
    · rename_i h; rw [List.getElem?_eq_none (by omega)]
  · rfl
theorem findR_set {R : Nat → List Od} {k i : Nat} {d : Od} (hk : k < 2) (hd : (R k)[i]? = some d) (u : Int) (id : Int) : findR (upd R k ((R k).set i { d with units := u })) id = findR R id := by
  have h : ∀ j, idxN (upd R k ((R k).set i { d with units := u }) j) id = idxN (R j) id := fun j => by
    by_cases e : j = k
    · subst e; rw [upd_same, idxN_ids, idxN_ids, set_ids hd]
    · rw [upd_other _ _ e]
  unfold findR
  rw [h 0, h 1]
theorem BkAt.store {w : World} {a : Nat} {R : Nat → List Od} {p : Nat → Option Addr} {c : Nat → Nat} {O : Nat → Nat} (h : BkAt w a R p c O) {k i t o : Nat} {d : Od} (hk : k < 2) (hd : (R k)[i]? = some d) (hp : p k = some ⟨t, o, none⟩) (u : Int) :
    BkAt (w.setCell ⟨t, o + i * 5 + 4, none⟩ (.int .i64 u)) a (upd R k ((R k).set i { d with units := u })) p c O ∧ Grows3 O O w (w.setCell ⟨t, o + i * 5 + 4, none⟩ (.int .i64 u)) := by
  have hi : i < (R k).length := (List.getElem?_eq_some_iff.1 hd).1
  have ht : O t = k + 1 := h.ok k hk _ hp
  have hlen : ∀ j, (upd R k ((R k).set i { d with units := u }) j).length = (R j).length := fun j => by
    by_cases e : j = k
    · subst e; rw [upd_same, List.length_set]
    · rw [upd_other _ _ e]
  have hta : a ≠ t := fun e => by rw [← e, h.oa] at ht; omega
  refine ⟨⟨?_, fun j hj => ?_, h.oa, h.ok, fun i hi => h.new i (by simpa using hi), by rw [hlen, hlen]; exact h.few⟩, ⟨(Kept.refl _ _).setCell (fun _ => by show O t ≠ 0; omega) _, fun _ _ => rfl⟩⟩
  · rw [Below.heap_setCell _ _ _ _ hta, hlen, hlen]; exact h.st
  · rw [hlen]
    by_cases e : j = k
    · subst e
      have hs := h.sl j hj
      rw [hp] at hs ⊢
      have := hs.store (j := i * 5 + 4) (by omega) (.int .i64 u)
      rw [set_cells hd, ← Nat.add_assoc] at this
      rw [upd_same]; exact this
    · rw [upd_other _ _ e]
      refine (h.sl j hj).kept fun t' ht' => Below.heap_setCell _ _ _ _ fun e2 => ?_
      have h1 := h.ok j hj t' ht'
      have e2' : t'.block = t := e2
      rw [e2', ht] at h1; omega
def RdPost (d : Od) (er : Int) (w : World) (e : Ending) (w' : World) : Prop :=
  e = .returned (.tuple #[.agg #[.int .i64 d.id, .int .i64 d.owner, .int .i64 d.side, .int .i64 d.net, .int .i64 d.units], .int .i64 er]) ∧ Kept (fun _ => False) w w'
set_option maxHeartbeats 2000000 in
theorem reduce_no {w : World} {a : Nat} {R : Nat → List Od} {p : Nat → Option Addr} {c : Nat → Nat} {O : Nat → Nat} (h : BkAt w a R p c O) (id n : Int) (hf : findR R id = none) :
    Calls Try.prog 14 #[.pointer (some ⟨a, 0, none⟩), .int .i64 id, .int .i64 n] w (RdPost zeroOd 5 w) := by
  have Hf := Lib.hid hf
  clear hf
  have h' := h.keptF ((Kept.refl _ w).alloc (.cells #[.int .i64 0, .int .i64 0, .int .i64 0, .int .i64 0, .int .i64 0] 31))
  go_enter Try.func14, Try.ntmps14
  go_wp2_with fail
  refine (find_any h' id).mono ?_
  rintro e w' hp
  obtain ⟨rfl, hk⟩ := hp.2 Hf.out
  clear hp
  have hk2 : Kept (fun _ => False) w w' := ((Kept.refl _ _).alloc _).trans hk
  have hb : w'.heap[w.heap.size]? = some (.cells #[.int .i64 0, .int .i64 0, .int .i64 0, .int .i64 0, .int .i64 0] 31 (0, 0)) := (hk.block _ (by simp) (fun h => h)).trans (block_alloc_new _ _)
  have c0 : w'.cell? ⟨w.heap.size, 0, none⟩ = some (.int .i64 0) := by rw [cell_of_block hb]; rfl
  have c1 : w'.cell? ⟨w.heap.size, 1, none⟩ = some (.int .i64 0) := by rw [cell_of_block hb]; rfl
  have c2 : w'.cell? ⟨w.heap.size, 2, none⟩ = some (.int .i64 0) := by rw [cell_of_block hb]; rfl
  have c3 : w'.cell? ⟨w.heap.size, 3, none⟩ = some (.int .i64 0) := by rw [cell_of_block hb]; rfl
  have c4 : w'.cell? ⟨w.heap.size, 4, none⟩ = some (.int .i64 0) := by rw [cell_of_block hb]; rfl
  have f0 := free_of_block hb
  have hs := lt_of_block hb
  go_wp2
  obtain ⟨hb5, hk5⟩ := put5_law hb zeroOd
  change bodyPost _ _ _ _ _ (put5 w' w.heap.size zeroOd)
  generalize put5 w' w.heap.size zeroOd = wf at hb5 hk5 ⊢
  clear c0 c1 c2 c3 c4 f0
  have c0 : wf.cell? ⟨w.heap.size, 0, none⟩ = some (.int .i64 0) := by rw [cell_of_block hb5]; rfl
  have c1 : wf.cell? ⟨w.heap.size, 1, none⟩ = some (.int .i64 0) := by rw [cell_of_block hb5]; rfl
  have c2 : wf.cell? ⟨w.heap.size, 2, none⟩ = some (.int .i64 0) := by rw [cell_of_block hb5]; rfl
  have c3 : wf.cell? ⟨w.heap.size, 3, none⟩ = some (.int .i64 0) := by rw [cell_of_block hb5]; rfl
  have c4 : wf.cell? ⟨w.heap.size, 4, none⟩ = some (.int .i64 0) := by rw [cell_of_block hb5]; rfl
  refine bodyPost_ret (v := .tuple #[.agg #[.int .i64 0, .int .i64 0, .int .i64 0, .int .i64 0, .int .i64 0], .int .i64 5]) (by simp [results, Try.results14, go_sem, c0, c1, c2, c3, c4]) rfl ⟨rfl, ?_⟩
  exact hk2.trans' (G := fun i => i = w.heap.size) hk5 (fun i hi e => by omega)
set_option maxHeartbeats 2000000 in
theorem reduce_bad {w : World} {a : Nat} {R : Nat → List Od} {p : Nat → Option Addr} {c : Nat → Nat} {O : Nat → Nat} (h : BkAt w a R p c O) (id n : Int) {k i : Nat} {d : Od} (hf : findR R id = some (k, i)) (hd : (R k)[i]? = some d) (hn : inI n 1 d.units = false) :
    Calls Try.prog 14 #[.pointer (some ⟨a, 0, none⟩), .int .i64 id, .int .i64 n] w (RdPost zeroOd 1 w) := by
  obtain ⟨hk2', _, _, _, hil⟩ := findR_some hf
  have Hf := Lib.hid hf
  have Hd := Lib.hid hd
  clear hf hd
  have Hn := Lib.hid hn
  have hO1 := h.new w.heap.size (Nat.le_refl _)
  clear hn
  have h' := h.keptF ((Kept.refl _ w).alloc (.cells #[.int .i64 0, .int .i64 0, .int .i64 0, .int .i64 0, .int .i64 0] 31))
  go_enter Try.func14, Try.ntmps14
  go_wp2_with fail
  refine (find_any h' id).mono ?_
  rintro e w' hp
  obtain ⟨rfl, hk⟩ := hp.1 k i Hf.out
  clear hp
  have hk2 : Kept (fun _ => False) w w' := ((Kept.refl _ _).alloc _).trans hk
  have hb : w'.heap[w.heap.size]? = some (.cells #[.int .i64 0, .int .i64 0, .int .i64 0, .int .i64 0, .int .i64 0] 31 (0, 0)) := (hk.block _ (by simp) (fun h => h)).trans (block_alloc_new _ _)
  have c0 : w'.cell? ⟨w.heap.size, 0, none⟩ = some (.int .i64 0) := by rw [cell_of_block hb]; rfl
  have c1 : w'.cell? ⟨w.heap.size, 1, none⟩ = some (.int .i64 0) := by rw [cell_of_block hb]; rfl
  have c2 : w'.cell? ⟨w.heap.size, 2, none⟩ = some (.int .i64 0) := by rw [cell_of_block hb]; rfl
  have c3 : w'.cell? ⟨w.heap.size, 3, none⟩ = some (.int .i64 0) := by rw [cell_of_block hb]; rfl
  have c4 : w'.cell? ⟨w.heap.size, 4, none⟩ = some (.int .i64 0) := by rw [cell_of_block hb]; rfl
  have f0 := free_of_block hb
  have hs := lt_of_block hb
  have hR := h'.keptF hk
  have hrow := hR.row hk2'
  have hsl := hR.sl k hk2'
  have hrl : (R k).length ≤ 256 := by have := hR.few; have h2 : k = 0 ∨ k = 1 := by omega
                                      rcases h2 with rfl | rfl <;> omega
  obtain ⟨t, o, hpk⟩ := sl_some hsl (by omega)
  rw [hpk] at hsl hrow
  have hne : t ≠ w.heap.size := fun e => by have h1 := hR.ok k hk2' ⟨t, o, none⟩ hpk; rw [← e] at hO1; rw [hO1] at h1; omega
  obtain ⟨x0, x1, x2, x3, x4⟩ := od_cells hsl rfl Hd.out
  have Hpk := Lib.hid hpk
  clear hsl hpk h' h hR
  generalize (R k).length = rl at hil hrow hrl
  go_wp2_with fail
  refine (inI_any _ _ _ _).mono ?_
  rintro e w1 ⟨rfl, rfl⟩
  rw [Hn.out]
  clear x0 x1 x2 x3 x4
  go_wp2
  obtain ⟨hb5, hk5⟩ := put5_law hb zeroOd
  change bodyPost _ _ _ _ _ (put5 w' w.heap.size zeroOd)
  generalize put5 w' w.heap.size zeroOd = wf at hb5 hk5 ⊢
  clear c0 c1 c2 c3 c4 f0
  have c0 : wf.cell? ⟨w.heap.size, 0, none⟩ = some (.int .i64 0) := by rw [cell_of_block hb5]; rfl
  have c1 : wf.cell? ⟨w.heap.size, 1, none⟩ = some (.int .i64 0) := by rw [cell_of_block hb5]; rfl
  have c2 : wf.cell? ⟨w.heap.size, 2, none⟩ = some (.int .i64 0) := by rw [cell_of_block hb5]; rfl
  have c3 : wf.cell? ⟨w.heap.size, 3, none⟩ = some (.int .i64 0) := by rw [cell_of_block hb5]; rfl
  have c4 : wf.cell? ⟨w.heap.size, 4, none⟩ = some (.int .i64 0) := by rw [cell_of_block hb5]; rfl
  refine bodyPost_ret (v := .tuple #[.agg #[.int .i64 0, .int .i64 0, .int .i64 0, .int .i64 0, .int .i64 0], .int .i64 1]) (by simp [results, Try.results14, go_sem, c0, c1, c2, c3, c4]) rfl ⟨rfl, ?_⟩
  exact hk2.trans' (G := fun i => i = w.heap.size) hk5 (fun i hi e => by omega)
theorem free_of_sl {w : World} {t o n cap : Nat} {xs : List Value} (h : SlAt w 31 5 (some ⟨t, o, none⟩) n cap xs) : ∀ j, w.frozen? ⟨t, j, none⟩ = false := fun j => h.free j
theorem upd_upd3 {α β : Type} [DecidableEq α] (f : α → β) (a : α) (x y : β) : upd (upd f a x) a y = upd f a y := by
  funext i; unfold upd; split <;> rfl
theorem delAt_set (xs : List Od) (i : Nat) (d : Od) : delAt (xs.set i d) i = delAt xs i := by
  unfold delAt
  rw [List.take_set_of_le (Nat.le_refl _), List.drop_set_of_lt (by omega)]
set_option maxHeartbeats 2000000 in
theorem reduce_some {w : World} {a : Nat} {R : Nat → List Od} {p : Nat → Option Addr} {c : Nat → Nat} {O : Nat → Nat} (h : BkAt w a R p c O) (id n : Int) {k i : Nat} {d : Od} (hf : findR R id = some (k, i)) (hd : (R k)[i]? = some d) (hn1 : 1 ≤ n) (hn2 : n < d.units) (hu : d.units ≤ 1000000) :
    Calls Try.prog 14 #[.pointer (some ⟨a, 0, none⟩), .int .i64 id, .int .i64 n] w (RemPost a (upd R k ((R k).set i { d with units := d.units - n })) O { d with units := d.units - n } (.int .i64 0) w) := by
  obtain ⟨hk2', _, _, _, hil⟩ := findR_some hf
  have Hf := Lib.hid hf
  have Hd := Lib.hid hd
  clear hf hd
  have hin : inI n 1 d.units = true := by simp [inI]; omega
  have Hn := Lib.hid hin
  have hO1 := h.new w.heap.size (Nat.le_refl _)
  clear hin
  have hz : ((d.units - n) == 0) = false := beq_eq_false_iff_ne.2 (by omega)
  have h' := h.keptF ((Kept.refl _ w).alloc (.cells #[.int .i64 0, .int .i64 0, .int .i64 0, .int .i64 0, .int .i64 0] 31))
  go_enter Try.func14, Try.ntmps14
  go_wp2_with fail
  refine (find_any h' id).mono ?_
  rintro e w' hp
  obtain ⟨rfl, hk⟩ := hp.1 k i Hf.out
  clear hp
  have hk2 : Kept (fun _ => False) w w' := ((Kept.refl _ _).alloc _).trans hk
  have hb : w'.heap[w.heap.size]? = some (.cells #[.int .i64 0, .int .i64 0, .int .i64 0, .int .i64 0, .int .i64 0] 31 (0, 0)) := (hk.block _ (by simp) (fun h => h)).trans (block_alloc_new _ _)
  have c0 : w'.cell? ⟨w.heap.size, 0, none⟩ = some (.int .i64 0) := by rw [cell_of_block hb]; rfl
  have c1 : w'.cell? ⟨w.heap.size, 1, none⟩ = some (.int .i64 0) := by rw [cell_of_block hb]; rfl
  have c2 : w'.cell? ⟨w.heap.size, 2, none⟩ = some (.int .i64 0) := by rw [cell_of_block hb]; rfl
  have c3 : w'.cell? ⟨w.heap.size, 3, none⟩ = some (.int .i64 0) := by rw [cell_of_block hb]; rfl
  have c4 : w'.cell? ⟨w.heap.size, 4, none⟩ = some (.int .i64 0) := by rw [cell_of_block hb]; rfl
  have f0 := free_of_block hb
  have hs := lt_of_block hb
  have hR := h'.keptF hk
  have hrow := hR.row hk2'
  have hsl := hR.sl k hk2'
  have hrl : (R k).length ≤ 256 := by have := hR.few; have h2 : k = 0 ∨ k = 1 := by omega
                                      rcases h2 with rfl | rfl <;> omega
  obtain ⟨t, o, hpk⟩ := sl_some hsl (by omega)
  rw [hpk] at hsl hrow
  have hne : t ≠ w.heap.size := fun e => by have h1 := hR.ok k hk2' ⟨t, o, none⟩ hpk; rw [← e] at hO1; rw [hO1] at h1; omega
  obtain ⟨x0, x1, x2, x3, x4⟩ := od_cells hsl rfl Hd.out
  have Hpk := Lib.hid hpk
  clear hsl hpk h' h
  have hrl2 := hrl
  generalize (R k).length = rl at hil hrow hrl
  go_wp2_with fail
  refine (inI_any _ _ _ _).mono ?_
  rintro e w1 ⟨rfl, rfl⟩
  rw [Hn.out]
  have fx := free_of_sl (by have := hR.sl k hk2'; rw [Hpk.out] at this; exact this)
  clear hs
  go_upto_region 8 with fail
  obtain ⟨hS, gS⟩ := hR.store hk2' Hd.out Hpk.out (d.units - n)
  have hbS : (w'.setCell ⟨t, o + i * 5 + 4, none⟩ (.int .i64 (d.units - n))).heap[w.heap.size]? = _ := (Below.heap_setCell _ _ _ _ (fun e => hne e.symm)).trans hb
  have hslS := hS.sl k hk2'
  rw [upd_same, List.length_set, Hpk.out] at hslS
  generalize w'.setCell ⟨t, o + i * 5 + 4, none⟩ (.int .i64 (d.units - n)) = w2 at hS gS hbS hslS ⊢
  clear x0 x1 x2 x3 x4 c0 c1 c2 c3 c4 f0 hb fx hrow
  obtain ⟨x0, x1, x2, x3, x4⟩ := od_cells hslS (by rw [List.length_set]) (by rw [List.getElem?_set, if_pos rfl, if_pos (List.getElem?_eq_some_iff.1 Hd.out).1])
  dsimp only at x0 x1 x2 x3 x4
  have hsS := lt_of_block hbS
  have c0 : w2.cell? ⟨w.heap.size, 0, none⟩ = some (.int .i64 0) := by rw [cell_of_block hbS]; rfl
  have c1 : w2.cell? ⟨w.heap.size, 1, none⟩ = some (.int .i64 0) := by rw [cell_of_block hbS]; rfl
  have c2 : w2.cell? ⟨w.heap.size, 2, none⟩ = some (.int .i64 0) := by rw [cell_of_block hbS]; rfl
  have c3 : w2.cell? ⟨w.heap.size, 3, none⟩ = some (.int .i64 0) := by rw [cell_of_block hbS]; rfl
  have c4 : w2.cell? ⟨w.heap.size, 4, none⟩ = some (.int .i64 0) := by rw [cell_of_block hbS]; rfl
  have f0 := free_of_block hbS
  clear hslS
  go_upto_region 11 with fail
  have hkA : Kept (fun _ => False) w2 (w2.alloc (.cells #[.int .i64 d.id, .int .i64 d.owner, .int .i64 d.side, .int .i64 d.net, .int .i64 (d.units - n)] 31)) := (Kept.refl _ _).alloc _
  have hbA : (w2.alloc (.cells #[.int .i64 d.id, .int .i64 d.owner, .int .i64 d.side, .int .i64 d.net, .int .i64 (d.units - n)] 31)).heap[w.heap.size]? = _ := block_alloc hbS
  have hqA : (w2.alloc (.cells #[.int .i64 d.id, .int .i64 d.owner, .int .i64 d.side, .int .i64 d.net, .int .i64 (d.units - n)] 31)).heap[w2.heap.size]? = some (boxO { d with units := d.units - n }) := block_alloc_new _ _
  have hA := hS.keptF hkA
  have hgA : Grows3 O O w (w2.alloc (.cells #[.int .i64 d.id, .int .i64 d.owner, .int .i64 d.side, .int .i64 d.net, .int .i64 (d.units - n)] 31)) := ((Grows3.ofF hk2).trans gS).trans (Grows3.ofF hkA)
  generalize w2.heap.size = q at hqA ⊢
  generalize w2.alloc (.cells #[.int .i64 d.id, .int .i64 d.owner, .int .i64 d.side, .int .i64 d.net, .int .i64 (d.units - n)] 31) = w3 at hbA hqA hA hgA ⊢
  clear x0 x1 x2 x3 x4 c0 c1 c2 c3 c4 f0 hbS hsS
  have y0 : w3.cell? ⟨q, 0, none⟩ = some (.int .i64 d.id) := by rw [cell_of_block hqA]; rfl
  have y1 : w3.cell? ⟨q, 1, none⟩ = some (.int .i64 d.owner) := by rw [cell_of_block hqA]; rfl
  have y2 : w3.cell? ⟨q, 2, none⟩ = some (.int .i64 d.side) := by rw [cell_of_block hqA]; rfl
  have y3 : w3.cell? ⟨q, 3, none⟩ = some (.int .i64 d.net) := by rw [cell_of_block hqA]; rfl
  have y4 : w3.cell? ⟨q, 4, none⟩ = some (.int .i64 (d.units - n)) := by rw [cell_of_block hqA]; rfl
  have c0 : w3.cell? ⟨w.heap.size, 0, none⟩ = some (.int .i64 0) := by rw [cell_of_block hbA]; rfl
  have c1 : w3.cell? ⟨w.heap.size, 1, none⟩ = some (.int .i64 0) := by rw [cell_of_block hbA]; rfl
  have c2 : w3.cell? ⟨w.heap.size, 2, none⟩ = some (.int .i64 0) := by rw [cell_of_block hbA]; rfl
  have c3 : w3.cell? ⟨w.heap.size, 3, none⟩ = some (.int .i64 0) := by rw [cell_of_block hbA]; rfl
  have c4 : w3.cell? ⟨w.heap.size, 4, none⟩ = some (.int .i64 0) := by rw [cell_of_block hbA]; rfl
  have f0 := free_of_block hbA
  go_wp2
  obtain ⟨hb5, hk5⟩ := put5_law hbA { d with units := d.units - n }
  change bodyPost _ _ _ _ _ (put5 w3 w.heap.size { d with units := d.units - n })
  generalize put5 w3 w.heap.size { d with units := d.units - n } = wf at hb5 hk5 ⊢
  clear c0 c1 c2 c3 c4 f0 y0 y1 y2 y3 y4
  have c0 : wf.cell? ⟨w.heap.size, 0, none⟩ = some (.int .i64 d.id) := by rw [cell_of_block hb5]; rfl
  have c1 : wf.cell? ⟨w.heap.size, 1, none⟩ = some (.int .i64 d.owner) := by rw [cell_of_block hb5]; rfl
  have c2 : wf.cell? ⟨w.heap.size, 2, none⟩ = some (.int .i64 d.side) := by rw [cell_of_block hb5]; rfl
  have c3 : wf.cell? ⟨w.heap.size, 3, none⟩ = some (.int .i64 d.net) := by rw [cell_of_block hb5]; rfl
  have c4 : wf.cell? ⟨w.heap.size, 4, none⟩ = some (.int .i64 (d.units - n)) := by rw [cell_of_block hb5]; rfl
  refine bodyPost_ret (v := .tuple #[.agg #[.int .i64 d.id, .int .i64 d.owner, .int .i64 d.side, .int .i64 d.net, .int .i64 (d.units - n)], .int .i64 0]) (by simp [results, Try.results14, go_sem, c0, c1, c2, c3, c4]) rfl ?_
  refine ⟨p, c, O, rfl, hA.kept (hk5.mono fun j _ e => by rw [e]; exact hO1), ?_⟩
  exact hgA.trans' hk5 fun j hj => by omega
set_option maxHeartbeats 2000000 in
theorem reduce_all {w : World} {a : Nat} {R : Nat → List Od} {p : Nat → Option Addr} {c : Nat → Nat} {O : Nat → Nat} (h : BkAt w a R p c O) (id n : Int) {k i : Nat} {d : Od} (hf : findR R id = some (k, i)) (hd : (R k)[i]? = some d) (hn1 : 1 ≤ n) (hn2 : n = d.units) (hu : d.units ≤ 1000000) :
    Calls Try.prog 14 #[.pointer (some ⟨a, 0, none⟩), .int .i64 id, .int .i64 n] w (RemPost a (upd R k (delAt (R k) i)) O { d with units := d.units - n } (.int .i64 0) w) := by
  obtain ⟨hk2', _, _, _, hil⟩ := findR_some hf
  have Hf := Lib.hid hf
  have Hd := Lib.hid hd
  clear hf hd
  have hin : inI n 1 d.units = true := by simp [inI]; omega
  have Hn := Lib.hid hin
  have hO1 := h.new w.heap.size (Nat.le_refl _)
  clear hin
  have hz : ((d.units - n) == 0) = true := beq_iff_eq.2 (by omega)
  have hn3 : n ≤ d.units := by omega
  clear hn2
  have h' := h.keptF ((Kept.refl _ w).alloc (.cells #[.int .i64 0, .int .i64 0, .int .i64 0, .int .i64 0, .int .i64 0] 31))
  go_enter Try.func14, Try.ntmps14
  go_wp2_with fail
  refine (find_any h' id).mono ?_
  rintro e w' hp
  obtain ⟨rfl, hk⟩ := hp.1 k i Hf.out
  clear hp
  have hk2 : Kept (fun _ => False) w w' := ((Kept.refl _ _).alloc _).trans hk
  have hb : w'.heap[w.heap.size]? = some (.cells #[.int .i64 0, .int .i64 0, .int .i64 0, .int .i64 0, .int .i64 0] 31 (0, 0)) := (hk.block _ (by simp) (fun h => h)).trans (block_alloc_new _ _)
  have c0 : w'.cell? ⟨w.heap.size, 0, none⟩ = some (.int .i64 0) := by rw [cell_of_block hb]; rfl
  have c1 : w'.cell? ⟨w.heap.size, 1, none⟩ = some (.int .i64 0) := by rw [cell_of_block hb]; rfl
  have c2 : w'.cell? ⟨w.heap.size, 2, none⟩ = some (.int .i64 0) := by rw [cell_of_block hb]; rfl
  have c3 : w'.cell? ⟨w.heap.size, 3, none⟩ = some (.int .i64 0) := by rw [cell_of_block hb]; rfl
  have c4 : w'.cell? ⟨w.heap.size, 4, none⟩ = some (.int .i64 0) := by rw [cell_of_block hb]; rfl
  have f0 := free_of_block hb
  have hs := lt_of_block hb
  have hR := h'.keptF hk
  have hrow := hR.row hk2'
  have hsl := hR.sl k hk2'
  have hrl : (R k).length ≤ 256 := by have := hR.few; have h2 : k = 0 ∨ k = 1 := by omega
                                      rcases h2 with rfl | rfl <;> omega
  obtain ⟨t, o, hpk⟩ := sl_some hsl (by omega)
  rw [hpk] at hsl hrow
  have hne : t ≠ w.heap.size := fun e => by have h1 := hR.ok k hk2' ⟨t, o, none⟩ hpk; rw [← e] at hO1; rw [hO1] at h1; omega
  obtain ⟨x0, x1, x2, x3, x4⟩ := od_cells hsl rfl Hd.out
  have Hpk := Lib.hid hpk
  clear hsl hpk h' h
  have hrl2 := hrl
  generalize (R k).length = rl at hil hrow hrl
  go_wp2_with fail
  refine (inI_any _ _ _ _).mono ?_
  rintro e w1 ⟨rfl, rfl⟩
  rw [Hn.out]
  have fx := free_of_sl (by have := hR.sl k hk2'; rw [Hpk.out] at this; exact this)
  clear hs
  go_upto_region 8 with fail
  obtain ⟨hS, gS⟩ := hR.store hk2' Hd.out Hpk.out (d.units - n)
  have hbS : (w'.setCell ⟨t, o + i * 5 + 4, none⟩ (.int .i64 (d.units - n))).heap[w.heap.size]? = _ := (Below.heap_setCell _ _ _ _ (fun e => hne e.symm)).trans hb
  have hslS := hS.sl k hk2'
  rw [upd_same, List.length_set, Hpk.out] at hslS
  generalize w'.setCell ⟨t, o + i * 5 + 4, none⟩ (.int .i64 (d.units - n)) = w2 at hS gS hbS hslS ⊢
  clear x0 x1 x2 x3 x4 c0 c1 c2 c3 c4 f0 hb fx hrow
  obtain ⟨x0, x1, x2, x3, x4⟩ := od_cells hslS (by rw [List.length_set]) (by rw [List.getElem?_set, if_pos rfl, if_pos (List.getElem?_eq_some_iff.1 Hd.out).1])
  dsimp only at x0 x1 x2 x3 x4
  have hsS := lt_of_block hbS
  have c0 : w2.cell? ⟨w.heap.size, 0, none⟩ = some (.int .i64 0) := by rw [cell_of_block hbS]; rfl
  have c1 : w2.cell? ⟨w.heap.size, 1, none⟩ = some (.int .i64 0) := by rw [cell_of_block hbS]; rfl
  have c2 : w2.cell? ⟨w.heap.size, 2, none⟩ = some (.int .i64 0) := by rw [cell_of_block hbS]; rfl
  have c3 : w2.cell? ⟨w.heap.size, 3, none⟩ = some (.int .i64 0) := by rw [cell_of_block hbS]; rfl
  have c4 : w2.cell? ⟨w.heap.size, 4, none⟩ = some (.int .i64 0) := by rw [cell_of_block hbS]; rfl
  have f0 := free_of_block hbS
  clear hslS
  go_wp2_with fail
  have hkA : Kept (fun _ => False) w2 (w2.alloc (.cells #[.int .i64 d.id, .int .i64 d.owner, .int .i64 d.side, .int .i64 d.net, .int .i64 (d.units - n)] 31)) := (Kept.refl _ _).alloc _
  have hbA0 : (w2.alloc (.cells #[.int .i64 d.id, .int .i64 d.owner, .int .i64 d.side, .int .i64 d.net, .int .i64 (d.units - n)] 31)).heap[w.heap.size]? = _ := block_alloc hbS
  have hqA0 : (w2.alloc (.cells #[.int .i64 d.id, .int .i64 d.owner, .int .i64 d.side, .int .i64 d.net, .int .i64 (d.units - n)] 31)).heap[w2.heap.size]? = some (boxO { d with units := d.units - n }) := block_alloc_new _ _
  have hOq := hS.new w2.heap.size (Nat.le_refl _)
  have hA0 := hS.keptF hkA
  have hgA0 : Grows3 O O w (w2.alloc (.cells #[.int .i64 d.id, .int .i64 d.owner, .int .i64 d.side, .int .i64 d.net, .int .i64 (d.units - n)] 31)) := ((Grows3.ofF hk2).trans gS).trans (Grows3.ofF hkA)
  generalize w2.heap.size = q at hqA0 hOq ⊢
  generalize w2.alloc (.cells #[.int .i64 d.id, .int .i64 d.owner, .int .i64 d.side, .int .i64 d.net, .int .i64 (d.units - n)] 31) = w2' at hbA0 hqA0 hA0 hgA0 ⊢
  clear x0 x1 x2 x3 x4 c0 c1 c2 c3 c4 f0 hbS hsS
  have hl2 := (List.getElem?_eq_some_iff.1 Hd.out).1
  refine (remove_yes hA0 id (by rw [findR_set hk2' Hd.out]; exact Hf.out) (by rw [upd_same, List.getElem?_set, if_pos rfl, if_pos hl2])).mono ?_
  rintro e w3 ⟨p6, c6, O6, rfl, hA, gA⟩
  have hbA := (gA.kept.block w.heap.size (lt_of_block hbA0) (fun hG => hG hO1)).trans hbA0
  have hqA := (gA.kept.block q (lt_of_block hqA0) (fun hG => hG hOq)).trans hqA0
  have hO6 : O6 w.heap.size = 0 := (gA.old _ (lt_of_block hbA0)).trans hO1
  have hgA := hgA0.trans gA
  rw [upd_same, upd_upd3, delAt_set] at hA
  have y0 : w3.cell? ⟨q, 0, none⟩ = some (.int .i64 d.id) := by rw [cell_of_block hqA]; rfl
  have y1 : w3.cell? ⟨q, 1, none⟩ = some (.int .i64 d.owner) := by rw [cell_of_block hqA]; rfl
  have y2 : w3.cell? ⟨q, 2, none⟩ = some (.int .i64 d.side) := by rw [cell_of_block hqA]; rfl
  have y3 : w3.cell? ⟨q, 3, none⟩ = some (.int .i64 d.net) := by rw [cell_of_block hqA]; rfl
  have y4 : w3.cell? ⟨q, 4, none⟩ = some (.int .i64 (d.units - n)) := by rw [cell_of_block hqA]; rfl
  have c0 : w3.cell? ⟨w.heap.size, 0, none⟩ = some (.int .i64 0) := by rw [cell_of_block hbA]; rfl
  have c1 : w3.cell? ⟨w.heap.size, 1, none⟩ = some (.int .i64 0) := by rw [cell_of_block hbA]; rfl
  have c2 : w3.cell? ⟨w.heap.size, 2, none⟩ = some (.int .i64 0) := by rw [cell_of_block hbA]; rfl
  have c3 : w3.cell? ⟨w.heap.size, 3, none⟩ = some (.int .i64 0) := by rw [cell_of_block hbA]; rfl
  have c4 : w3.cell? ⟨w.heap.size, 4, none⟩ = some (.int .i64 0) := by rw [cell_of_block hbA]; rfl
  have f0 := free_of_block hbA
  go_wp2
  obtain ⟨hb5, hk5⟩ := put5_law hbA { d with units := d.units - n }
  change bodyPost _ _ _ _ _ (put5 w3 w.heap.size { d with units := d.units - n })
  generalize put5 w3 w.heap.size { d with units := d.units - n } = wf at hb5 hk5 ⊢
  clear c0 c1 c2 c3 c4 f0 y0 y1 y2 y3 y4
  have c0 : wf.cell? ⟨w.heap.size, 0, none⟩ = some (.int .i64 d.id) := by rw [cell_of_block hb5]; rfl
  have c1 : wf.cell? ⟨w.heap.size, 1, none⟩ = some (.int .i64 d.owner) := by rw [cell_of_block hb5]; rfl
  have c2 : wf.cell? ⟨w.heap.size, 2, none⟩ = some (.int .i64 d.side) := by rw [cell_of_block hb5]; rfl
  have c3 : wf.cell? ⟨w.heap.size, 3, none⟩ = some (.int .i64 d.net) := by rw [cell_of_block hb5]; rfl
  have c4 : wf.cell? ⟨w.heap.size, 4, none⟩ = some (.int .i64 (d.units - n)) := by rw [cell_of_block hb5]; rfl
  refine bodyPost_ret (v := .tuple #[.agg #[.int .i64 d.id, .int .i64 d.owner, .int .i64 d.side, .int .i64 d.net, .int .i64 (d.units - n)], .int .i64 0]) (by simp [results, Try.results14, go_sem, c0, c1, c2, c3, c4]) rfl ?_
  refine ⟨p6, c6, O6, rfl, hA.kept (hk5.mono fun j _ e => by rw [e]; exact hO6), ?_⟩
  exact hgA.trans' hk5 fun j hj => by omega
end Go.Proofs.Ytopfgcnehdjjpaa
