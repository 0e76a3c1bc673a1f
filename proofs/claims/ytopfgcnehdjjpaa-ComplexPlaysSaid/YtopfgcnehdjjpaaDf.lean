/- The document's book of complex orders: Reduce: the walks. -/
import Derived.Test.YtopfgcnehdjjpaaDe
namespace Go.Proofs.Ytopfgcnehdjjpaa
open Go.RowKit

theorem set5_cells {xs : List Od} {i : Nat} (hi : i < xs.length) (d : Od) :
    (((((xs.flatMap odC).set (i * 5) (.int .i64 d.id)).set (i * 5 + 1) (.int .i64 d.owner)).set (i * 5 + 2) (.int .i64 d.side)).set (i * 5 + 3) (.int .i64 d.net)).set (i * 5 + 4) (.int .i64 d.units) = (xs.set i d).flatMap odC := by
  apply List.ext_getElem?
  intro j
  obtain ⟨a, b, hb, rfl⟩ : ∃ a b, b < 5 ∧ j = a * 5 + b := ⟨j / 5, j % 5, by omega, by omega⟩
  simp only [List.getElem?_set, List.length_set, fm_get odC_len _ _ _ hb, oc_len]
  by_cases e : i = a
  · subst e
    rw [if_pos rfl, if_pos hi]
    match b, hb with
    | 0, _ =>
      rw [if_neg (by omega), if_neg (by omega), if_neg (by omega), if_neg (by omega), if_pos (by omega), if_pos (by omega)]; rfl
    | 1, _ =>
      rw [if_neg (by omega), if_neg (by omega), if_neg (by omega), if_pos (by omega), if_pos (by omega)]; rfl
    | 2, _ =>
      rw [if_neg (by omega), if_neg (by omega), if_pos (by omega), if_pos (by omega)]; rfl
    | 3, _ =>
      rw [if_neg (by omega), if_pos (by omega), if_pos (by omega)]; rfl
    | 4, _ =>
      rw [if_pos (by omega), if_pos (by omega)]; rfl
  · rw [if_neg (by omega), if_neg (by omega), if_neg (by omega), if_neg (by omega), if_neg (by omega), if_neg e]
theorem put_any' {w : World} {m : Nat} {R : Nat → List Od} {p : Nat → Option Addr} {c : Nat → Nat} (h : RbAt w m R p c) (side : Int) (k : Nat) (hk : k < 2) (hsd : side = (k : Int) + 1) {ys : List Od} {q : Option Addr} {cq n : Nat} (hn : n = ys.length) (hs : SlAt w 37 5 q n cq (ys.flatMap odC)) (hf : ∀ j, j < 2 → j ≠ k → (R j).length + ys.length ≤ 256) :
    Calls Try.prog 33 #[.pointer (some ⟨m, 0, none⟩), .int .i64 side, .slice q n cq] w (RbPut m (upd R k ys) (upd p k q) (upd c k cq) w) := by
  subst hn; exact put_any h side k hk hsd hs hf
theorem Fr.store5 {w0 w : World} {t o n cap i : Nat} {xs : List Od} (h : Fr 37 5 (xs.flatMap odC) w0 (some ⟨t, o, none⟩) n cap w) (hn : n = xs.length) (hi : i < n) (d : Od) :
    Fr 37 5 ((xs.set i d).flatMap odC) w0 (some ⟨t, o, none⟩) n cap (((((w.setCell ⟨t, o + i * 5, none⟩ (.int .i64 d.id)).setCell ⟨t, o + i * 5 + 1, none⟩ (.int .i64 d.owner)).setCell ⟨t, o + i * 5 + 2, none⟩ (.int .i64 d.side)).setCell ⟨t, o + i * 5 + 3, none⟩ (.int .i64 d.net)).setCell ⟨t, o + i * 5 + 4, none⟩ (.int .i64 d.units)) := by
  have hsl := ((((h.sl.store (j := i * 5) (by omega) (.int .i64 d.id)).store (j := i * 5 + 1) (by omega) (.int .i64 d.owner)).store (j := i * 5 + 2) (by omega) (.int .i64 d.side)).store (j := i * 5 + 3) (by omega) (.int .i64 d.net)).store (j := i * 5 + 4) (by omega) (.int .i64 d.units)
  rw [set5_cells (by omega)] at hsl
  have ht : ¬ t < w0.heap.size := by have := h.nw _ rfl; simpa using this
  refine ⟨hsl, ?_, h.nw⟩
  exact ((((h.k.setCell (fun hh => absurd hh ht) _).setCell (fun hh => absurd hh ht) _).setCell (fun hh => absurd hh ht) _).setCell (fun hh => absurd hh ht) _).setCell (fun hh => absurd hh ht) _

set_option maxHeartbeats 4000000 in
set_option maxRecDepth 100000 in
theorem rreduce_no {w : World} {m : Nat} {R : Nat → List Od} {p : Nat → Option Addr} {c : Nat → Nat} (h : RbAt w m R p c) (id u : Int) (hf : findR R id = none) :
    Calls Try.prog 15 #[.pointer (some ⟨m, 0, none⟩), .int .i64 id, .int .i64 u] w (RdPost zeroOd 5 w) := by
  have Hf := Lib.hid hf
  clear hf
  have h0 := h.keptF ((Kept.refl _ w).alloc (.cells #[.int .i64 0, .int .i64 0, .int .i64 0, .int .i64 0, .int .i64 0] 37))
  have hk0 : Kept (fun _ => False) w (w.alloc (.cells #[.int .i64 0, .int .i64 0, .int .i64 0, .int .i64 0, .int .i64 0] 37)) := (Kept.refl _ w).alloc _
  have hb0 : (w.alloc (.cells #[.int .i64 0, .int .i64 0, .int .i64 0, .int .i64 0, .int .i64 0] 37)).heap[w.heap.size]? = some (.cells #[.int .i64 0, .int .i64 0, .int .i64 0, .int .i64 0, .int .i64 0] 37 (0, 0)) := block_alloc_new _ _
  have hmw := lt_of_block h.st
  have hold : ∀ j, j < 2 → ∀ t, p j = some t → t.block < w.heap.size := fun j hj t ht => (h.sl j hj).lt t ht
  have Hold := Lib.hid hold
  clear hold h
  go_enter Try.func15, Try.ntmps15
  go_wp2_with fail
  generalize hrb : w.heap.size = rb at hb0 hmw ⊢
  have Hrb := Lib.hid hrb
  clear hrb
  generalize w.alloc (.cells #[.int .i64 0, .int .i64 0, .int .i64 0, .int .i64 0, .int .i64 0] 37) = w0 at h0 hk0 hb0 ⊢
  refine (rget_any h0 id).mono ?_
  rintro e w1 hp
  obtain ⟨rfl, hk1⟩ := hp.2 Hf.out
  clear hp
  go_upto_region 2 with fail
  have hk2 : Kept (fun _ => False) w0 (w1.alloc (.cells #[.int .i64 0, .int .i64 0, .int .i64 0, .int .i64 0, .int .i64 0] 37)) := hk1.alloc _
  have hb2 : (w1.alloc (.cells #[.int .i64 0, .int .i64 0, .int .i64 0, .int .i64 0, .int .i64 0] 37)).heap[rb]? = some (.cells #[.int .i64 0, .int .i64 0, .int .i64 0, .int .i64 0, .int .i64 0] 37 (0, 0)) := (hk2.block rb (lt_of_block hb0) (fun h => h)).trans hb0
  generalize w1.alloc (.cells #[.int .i64 0, .int .i64 0, .int .i64 0, .int .i64 0, .int .i64 0] 37) = w2 at hk2 hb2 ⊢
  clear hk1 hb0
  have c0 : w2.cell? ⟨rb, 0, none⟩ = some (.int .i64 0) := by rw [cell_of_block hb2]; rfl
  have c1 : w2.cell? ⟨rb, 1, none⟩ = some (.int .i64 0) := by rw [cell_of_block hb2]; rfl
  have c2 : w2.cell? ⟨rb, 2, none⟩ = some (.int .i64 0) := by rw [cell_of_block hb2]; rfl
  have c3 : w2.cell? ⟨rb, 3, none⟩ = some (.int .i64 0) := by rw [cell_of_block hb2]; rfl
  have c4 : w2.cell? ⟨rb, 4, none⟩ = some (.int .i64 0) := by rw [cell_of_block hb2]; rfl
  have f0 := free_of_block hb2
  have hs0 := lt_of_block hb2
  go_wp2
  obtain ⟨hb5, hk5⟩ := put5_law2 hb2 zeroOd
  change bodyPost _ _ _ _ _ (put5 w2 rb zeroOd)
  generalize put5 w2 rb zeroOd = wf at hb5 hk5 ⊢
  clear c0 c1 c2 c3 c4 f0
  have c0 : wf.cell? ⟨rb, 0, none⟩ = some (.int .i64 0) := by rw [cell_of_block hb5]; rfl
  have c1 : wf.cell? ⟨rb, 1, none⟩ = some (.int .i64 0) := by rw [cell_of_block hb5]; rfl
  have c2 : wf.cell? ⟨rb, 2, none⟩ = some (.int .i64 0) := by rw [cell_of_block hb5]; rfl
  have c3 : wf.cell? ⟨rb, 3, none⟩ = some (.int .i64 0) := by rw [cell_of_block hb5]; rfl
  have c4 : wf.cell? ⟨rb, 4, none⟩ = some (.int .i64 0) := by rw [cell_of_block hb5]; rfl
  refine bodyPost_ret (v := .tuple #[.agg #[.int .i64 0, .int .i64 0, .int .i64 0, .int .i64 0, .int .i64 0], .int .i64 5]) (by simp [results, Try.results15, go_sem, c0, c1, c2, c3, c4]) rfl ⟨rfl, ?_⟩
  exact (hk0.trans hk2).trans' (G := fun i => i = rb) hk5 (fun i hi e => by have := Hrb.out; omega)

set_option maxHeartbeats 4000000 in
set_option maxRecDepth 100000 in
theorem rreduce_bad {w : World} {m : Nat} {R : Nat → List Od} {p : Nat → Option Addr} {c : Nat → Nat} (h : RbAt w m R p c) (id u : Int) {k i : Nat} {d : Od} (hf : findR R id = some (k, i)) (hd : (R k)[i]? = some d) (hu : u < 1 ∨ d.units < u) :
    Calls Try.prog 15 #[.pointer (some ⟨m, 0, none⟩), .int .i64 id, .int .i64 u] w (RdPost zeroOd 1 w) := by
  obtain ⟨hk, _, _, _, hil⟩ := findR_some hf
  have hc : decide (u < 1) = true ∨ (decide (u < 1) = false ∧ decide (d.units < u) = true) := by
    by_cases h1 : u < 1
    · exact .inl (decide_eq_true h1)
    · exact .inr ⟨decide_eq_false h1, decide_eq_true (by omega)⟩
  have Hf := Lib.hid hf
  have Hd := Lib.hid hd
  clear hf hd hu
  have h0 := h.keptF ((Kept.refl _ w).alloc (.cells #[.int .i64 0, .int .i64 0, .int .i64 0, .int .i64 0, .int .i64 0] 37))
  have hk0 : Kept (fun _ => False) w (w.alloc (.cells #[.int .i64 0, .int .i64 0, .int .i64 0, .int .i64 0, .int .i64 0] 37)) := (Kept.refl _ w).alloc _
  have hb0 : (w.alloc (.cells #[.int .i64 0, .int .i64 0, .int .i64 0, .int .i64 0, .int .i64 0] 37)).heap[w.heap.size]? = some (.cells #[.int .i64 0, .int .i64 0, .int .i64 0, .int .i64 0, .int .i64 0] 37 (0, 0)) := block_alloc_new _ _
  have hmw := lt_of_block h.st
  have hold : ∀ j, j < 2 → ∀ t, p j = some t → t.block < w.heap.size := fun j hj t ht => (h.sl j hj).lt t ht
  have Hold := Lib.hid hold
  clear hold h
  go_enter Try.func15, Try.ntmps15
  go_wp2_with fail
  generalize hrb : w.heap.size = rb at hb0 hmw ⊢
  have Hrb := Lib.hid hrb
  clear hrb
  generalize w.alloc (.cells #[.int .i64 0, .int .i64 0, .int .i64 0, .int .i64 0, .int .i64 0] 37) = w0 at h0 hk0 hb0 ⊢
  refine (rget_any h0 id).mono ?_
  rintro e w1 hp
  obtain ⟨rfl, hk1⟩ := hp.1 k i d Hf.out Hd.out
  clear hp
  go_upto_region 2 with fail
  have hk2 : Kept (fun _ => False) w0 (w1.alloc (.cells #[.int .i64 d.id, .int .i64 d.owner, .int .i64 d.side, .int .i64 d.net, .int .i64 d.units] 37)) := hk1.alloc _
  have hb2 : (w1.alloc (.cells #[.int .i64 d.id, .int .i64 d.owner, .int .i64 d.side, .int .i64 d.net, .int .i64 d.units] 37)).heap[rb]? = some (.cells #[.int .i64 0, .int .i64 0, .int .i64 0, .int .i64 0, .int .i64 0] 37 (0, 0)) := (hk2.block rb (lt_of_block hb0) (fun h => h)).trans hb0
  have hq2 : (w1.alloc (.cells #[.int .i64 d.id, .int .i64 d.owner, .int .i64 d.side, .int .i64 d.net, .int .i64 d.units] 37)).heap[w1.heap.size]? = some (.cells #[.int .i64 d.id, .int .i64 d.owner, .int .i64 d.side, .int .i64 d.net, .int .i64 d.units] 37 (0, 0)) := block_alloc_new _ _
  have hqr : rb < w1.heap.size := Nat.lt_of_lt_of_le (lt_of_block hb0) hk1.size
  generalize w1.heap.size = q at hq2 hqr ⊢
  have h2 := h0.keptF hk2
  generalize w1.alloc (.cells #[.int .i64 d.id, .int .i64 d.owner, .int .i64 d.side, .int .i64 d.net, .int .i64 d.units] 37) = w2 at hk2 hb2 hq2 h2 ⊢
  have hk02 := hk0.trans hk2
  clear hk1 hb0 h0 hk0 hk2
  have q0 : w2.cell? ⟨q, 0, none⟩ = some (.int .i64 d.id) := by rw [cell_of_block hq2]; rfl
  have q1 : w2.cell? ⟨q, 1, none⟩ = some (.int .i64 d.owner) := by rw [cell_of_block hq2]; rfl
  have q2 : w2.cell? ⟨q, 2, none⟩ = some (.int .i64 d.side) := by rw [cell_of_block hq2]; rfl
  have q3 : w2.cell? ⟨q, 3, none⟩ = some (.int .i64 d.net) := by rw [cell_of_block hq2]; rfl
  have q4 : w2.cell? ⟨q, 4, none⟩ = some (.int .i64 d.units) := by rw [cell_of_block hq2]; rfl
  have hib : decide ((i : Int) < 0) = false := decide_eq_false (by omega)
  rcases hc with hc | ⟨hc1, hc2⟩
  · skip
    have c0 : w2.cell? ⟨rb, 0, none⟩ = some (.int .i64 0) := by rw [cell_of_block hb2]; rfl
    have c1 : w2.cell? ⟨rb, 1, none⟩ = some (.int .i64 0) := by rw [cell_of_block hb2]; rfl
    have c2 : w2.cell? ⟨rb, 2, none⟩ = some (.int .i64 0) := by rw [cell_of_block hb2]; rfl
    have c3 : w2.cell? ⟨rb, 3, none⟩ = some (.int .i64 0) := by rw [cell_of_block hb2]; rfl
    have c4 : w2.cell? ⟨rb, 4, none⟩ = some (.int .i64 0) := by rw [cell_of_block hb2]; rfl
    have f0 := free_of_block hb2
    have hs0 := lt_of_block hb2
    go_wp2
    obtain ⟨hb5, hk5⟩ := put5_law2 hb2 zeroOd
    change bodyPost _ _ _ _ _ (put5 w2 rb zeroOd)
    generalize put5 w2 rb zeroOd = wf at hb5 hk5 ⊢
    clear c0 c1 c2 c3 c4 f0
    have c0 : wf.cell? ⟨rb, 0, none⟩ = some (.int .i64 0) := by rw [cell_of_block hb5]; rfl
    have c1 : wf.cell? ⟨rb, 1, none⟩ = some (.int .i64 0) := by rw [cell_of_block hb5]; rfl
    have c2 : wf.cell? ⟨rb, 2, none⟩ = some (.int .i64 0) := by rw [cell_of_block hb5]; rfl
    have c3 : wf.cell? ⟨rb, 3, none⟩ = some (.int .i64 0) := by rw [cell_of_block hb5]; rfl
    have c4 : wf.cell? ⟨rb, 4, none⟩ = some (.int .i64 0) := by rw [cell_of_block hb5]; rfl
    refine bodyPost_ret (v := .tuple #[.agg #[.int .i64 0, .int .i64 0, .int .i64 0, .int .i64 0, .int .i64 0], .int .i64 1]) (by simp [results, Try.results15, go_sem, c0, c1, c2, c3, c4]) rfl ⟨rfl, ?_⟩
    exact hk02.trans' (G := fun i => i = rb) hk5 (fun i hi e => by have := Hrb.out; omega)
  · skip
    have c0 : w2.cell? ⟨rb, 0, none⟩ = some (.int .i64 0) := by rw [cell_of_block hb2]; rfl
    have c1 : w2.cell? ⟨rb, 1, none⟩ = some (.int .i64 0) := by rw [cell_of_block hb2]; rfl
    have c2 : w2.cell? ⟨rb, 2, none⟩ = some (.int .i64 0) := by rw [cell_of_block hb2]; rfl
    have c3 : w2.cell? ⟨rb, 3, none⟩ = some (.int .i64 0) := by rw [cell_of_block hb2]; rfl
    have c4 : w2.cell? ⟨rb, 4, none⟩ = some (.int .i64 0) := by rw [cell_of_block hb2]; rfl
    have f0 := free_of_block hb2
    have hs0 := lt_of_block hb2
    go_wp2
    obtain ⟨hb5, hk5⟩ := put5_law2 hb2 zeroOd
    change bodyPost _ _ _ _ _ (put5 w2 rb zeroOd)
    generalize put5 w2 rb zeroOd = wf at hb5 hk5 ⊢
    clear c0 c1 c2 c3 c4 f0
    have c0 : wf.cell? ⟨rb, 0, none⟩ = some (.int .i64 0) := by rw [cell_of_block hb5]; rfl
    have c1 : wf.cell? ⟨rb, 1, none⟩ = some (.int .i64 0) := by rw [cell_of_block hb5]; rfl
    have c2 : wf.cell? ⟨rb, 2, none⟩ = some (.int .i64 0) := by rw [cell_of_block hb5]; rfl
    have c3 : wf.cell? ⟨rb, 3, none⟩ = some (.int .i64 0) := by rw [cell_of_block hb5]; rfl
    have c4 : wf.cell? ⟨rb, 4, none⟩ = some (.int .i64 0) := by rw [cell_of_block hb5]; rfl
    refine bodyPost_ret (v := .tuple #[.agg #[.int .i64 0, .int .i64 0, .int .i64 0, .int .i64 0, .int .i64 0], .int .i64 1]) (by simp [results, Try.results15, go_sem, c0, c1, c2, c3, c4]) rfl ⟨rfl, ?_⟩
    exact hk02.trans' (G := fun i => i = rb) hk5 (fun i hi e => by have := Hrb.out; omega)

set_option maxHeartbeats 4000000 in
set_option maxRecDepth 100000 in
theorem rreduce_all {w : World} {m : Nat} {R : Nat → List Od} {p : Nat → Option Addr} {c : Nat → Nat} (h : RbAt w m R p c) (id u : Int) {k i : Nat} {d : Od} (hf : findR R id = some (k, i)) (hd : (R k)[i]? = some d) (hsd : d.side = (k : Int) + 1) (hu1 : 1 ≤ u) (hu2 : u = d.units) (hu : d.units ≤ 1000000) :
    Calls Try.prog 15 #[.pointer (some ⟨m, 0, none⟩), .int .i64 id, .int .i64 u] w (RRemPost m (upd R k (delAt (R k) i)) p { d with units := d.units - u } (.int .i64 0) w) := by
  obtain ⟨i0, hi0, hz0, hz1, hz2⟩ := info_parts Try.info37'
  obtain ⟨hk, _, _, _, hil⟩ := findR_some hf
  have hfew := h.few
  have hc1 : decide (u < 1) = false := decide_eq_false (by omega)
  have hc2 : decide (d.units < u) = false := decide_eq_false (by omega)
  have hz : (d.units - u == 0) = true := by simp; omega
  have hu3 : u ≤ d.units := by omega
  clear hu2
  have Hf := Lib.hid hf
  have Hd := Lib.hid hd
  have Hsd := Lib.hid hsd
  clear hf hd hsd
  have h0 := h.keptF ((Kept.refl _ w).alloc (.cells #[.int .i64 0, .int .i64 0, .int .i64 0, .int .i64 0, .int .i64 0] 37))
  have hk0 : Kept (fun _ => False) w (w.alloc (.cells #[.int .i64 0, .int .i64 0, .int .i64 0, .int .i64 0, .int .i64 0] 37)) := (Kept.refl _ w).alloc _
  have hb0 : (w.alloc (.cells #[.int .i64 0, .int .i64 0, .int .i64 0, .int .i64 0, .int .i64 0] 37)).heap[w.heap.size]? = some (.cells #[.int .i64 0, .int .i64 0, .int .i64 0, .int .i64 0, .int .i64 0] 37 (0, 0)) := block_alloc_new _ _
  have hmw := lt_of_block h.st
  have hold : ∀ j, j < 2 → ∀ t, p j = some t → t.block < w.heap.size := fun j hj t ht => (h.sl j hj).lt t ht
  have Hold := Lib.hid hold
  clear hold h
  go_enter Try.func15, Try.ntmps15
  go_wp2_with fail
  generalize hrb : w.heap.size = rb at hb0 hmw ⊢
  have Hrb := Lib.hid hrb
  clear hrb
  generalize w.alloc (.cells #[.int .i64 0, .int .i64 0, .int .i64 0, .int .i64 0, .int .i64 0] 37) = w0 at h0 hk0 hb0 ⊢
  refine (rget_any h0 id).mono ?_
  rintro e w1 hp
  obtain ⟨rfl, hk1⟩ := hp.1 k i d Hf.out Hd.out
  clear hp
  go_upto_region 2 with fail
  have hk2 : Kept (fun _ => False) w0 (w1.alloc (.cells #[.int .i64 d.id, .int .i64 d.owner, .int .i64 d.side, .int .i64 d.net, .int .i64 d.units] 37)) := hk1.alloc _
  have hb2 : (w1.alloc (.cells #[.int .i64 d.id, .int .i64 d.owner, .int .i64 d.side, .int .i64 d.net, .int .i64 d.units] 37)).heap[rb]? = some (.cells #[.int .i64 0, .int .i64 0, .int .i64 0, .int .i64 0, .int .i64 0] 37 (0, 0)) := (hk2.block rb (lt_of_block hb0) (fun h => h)).trans hb0
  have hq2 : (w1.alloc (.cells #[.int .i64 d.id, .int .i64 d.owner, .int .i64 d.side, .int .i64 d.net, .int .i64 d.units] 37)).heap[w1.heap.size]? = some (.cells #[.int .i64 d.id, .int .i64 d.owner, .int .i64 d.side, .int .i64 d.net, .int .i64 d.units] 37 (0, 0)) := block_alloc_new _ _
  have hqr : rb < w1.heap.size := Nat.lt_of_lt_of_le (lt_of_block hb0) hk1.size
  generalize w1.heap.size = q at hq2 hqr ⊢
  have h2 := h0.keptF hk2
  generalize w1.alloc (.cells #[.int .i64 d.id, .int .i64 d.owner, .int .i64 d.side, .int .i64 d.net, .int .i64 d.units] 37) = w2 at hk2 hb2 hq2 h2 ⊢
  have hk02 := hk0.trans hk2
  clear hk1 hb0 h0 hk0 hk2
  have q0 : w2.cell? ⟨q, 0, none⟩ = some (.int .i64 d.id) := by rw [cell_of_block hq2]; rfl
  have q1 : w2.cell? ⟨q, 1, none⟩ = some (.int .i64 d.owner) := by rw [cell_of_block hq2]; rfl
  have q2 : w2.cell? ⟨q, 2, none⟩ = some (.int .i64 d.side) := by rw [cell_of_block hq2]; rfl
  have q3 : w2.cell? ⟨q, 3, none⟩ = some (.int .i64 d.net) := by rw [cell_of_block hq2]; rfl
  have q4 : w2.cell? ⟨q, 4, none⟩ = some (.int .i64 d.units) := by rw [cell_of_block hq2]; rfl
  have hib : decide ((i : Int) < 0) = false := decide_eq_false (by omega)
  have hq3 : (w2.setCell ⟨q, 4, none⟩ (.int .i64 (d.units - u))).heap[q]? = some (.cells #[.int .i64 d.id, .int .i64 d.owner, .int .i64 d.side, .int .i64 d.net, .int .i64 (d.units - u)] 37 (0, 0)) := by rw [block_setCell hq2 4 _]; rfl
  have hkq : Kept (fun b => b = q) w2 (w2.setCell ⟨q, 4, none⟩ (.int .i64 (d.units - u))) := Kept.setCell (F := fun b => b = q) (Kept.refl _ _) (fun _ => rfl) _
  have hold2 : ∀ j, j < 2 → ∀ t, p j = some t → t.block < rb := fun j hj t ht => by have := Hold.out j hj t ht; have := Hrb.out; omega
  have h3 := h2.kept hkq (by omega) (fun j hj t ht => by have := hold2 j hj t ht; omega)
  have hb3 := (hkq.block rb (lt_of_block hb2) (by omega)).trans hb2
  have hk03 : Kept (fun _ => False) w (w2.setCell ⟨q, 4, none⟩ (.int .i64 (d.units - u))) := hk02.trans' (G := fun b => b = q) hkq (fun i hi e => by have := Hrb.out; omega)
  have fq := free_of_block hq2
  have hrb2 := lt_of_block hb2
  have hrbq := lt_of_block hq2
  have Hold2 := Lib.hid hold2
  clear hq2 h2 hb2 hk02 hkq hold2
  go_upto_region 7 with fail
  generalize w2.setCell ⟨q, 4, none⟩ (.int .i64 (d.units - u)) = w3 at hq3 h3 hb3 hk03 ⊢
  clear q0 q1 q2 q3 q4 fq
  have hqs3 := lt_of_block hq3
  have q0 : w3.cell? ⟨q, 0, none⟩ = some (.int .i64 d.id) := by rw [cell_of_block hq3]; rfl
  have q1 : w3.cell? ⟨q, 1, none⟩ = some (.int .i64 d.owner) := by rw [cell_of_block hq3]; rfl
  have q2 : w3.cell? ⟨q, 2, none⟩ = some (.int .i64 d.side) := by rw [cell_of_block hq3]; rfl
  have q3 : w3.cell? ⟨q, 3, none⟩ = some (.int .i64 d.net) := by rw [cell_of_block hq3]; rfl
  have q4 : w3.cell? ⟨q, 4, none⟩ = some (.int .i64 (d.units - u)) := by rw [cell_of_block hq3]; rfl
  go_wp2_with fail
  refine (rremove_yes h3 id Hf.out Hd.out Hsd.out).mono ?_
  rintro e w4 ⟨p', c', rfl, h4, hk4, hnw4⟩
  have hb4 := (hk4.block rb (lt_of_block hb3) (by omega)).trans hb3
  have hq4 := (hk4.block q (lt_of_block hq3) (by omega)).trans hq3
  clear q0 q1 q2 q3 q4
  have q0 : w4.cell? ⟨q, 0, none⟩ = some (.int .i64 d.id) := by rw [cell_of_block hq4]; rfl
  have q1 : w4.cell? ⟨q, 1, none⟩ = some (.int .i64 d.owner) := by rw [cell_of_block hq4]; rfl
  have q2 : w4.cell? ⟨q, 2, none⟩ = some (.int .i64 d.side) := by rw [cell_of_block hq4]; rfl
  have q3 : w4.cell? ⟨q, 3, none⟩ = some (.int .i64 d.net) := by rw [cell_of_block hq4]; rfl
  have q4 : w4.cell? ⟨q, 4, none⟩ = some (.int .i64 (d.units - u)) := by rw [cell_of_block hq4]; rfl
  have c0 : w4.cell? ⟨rb, 0, none⟩ = some (.int .i64 0) := by rw [cell_of_block hb4]; rfl
  have c1 : w4.cell? ⟨rb, 1, none⟩ = some (.int .i64 0) := by rw [cell_of_block hb4]; rfl
  have c2 : w4.cell? ⟨rb, 2, none⟩ = some (.int .i64 0) := by rw [cell_of_block hb4]; rfl
  have c3 : w4.cell? ⟨rb, 3, none⟩ = some (.int .i64 0) := by rw [cell_of_block hb4]; rfl
  have c4 : w4.cell? ⟨rb, 4, none⟩ = some (.int .i64 0) := by rw [cell_of_block hb4]; rfl
  have f0 := free_of_block hb4
  have hs0 := lt_of_block hb4
  go_wp2
  obtain ⟨hb5, hk5⟩ := put5_law2 hb4 { d with units := d.units - u }
  change bodyPost _ _ _ _ _ (put5 w4 rb { d with units := d.units - u })
  generalize put5 w4 rb { d with units := d.units - u } = wf at hb5 hk5 ⊢
  clear c0 c1 c2 c3 c4 f0
  have c0 : wf.cell? ⟨rb, 0, none⟩ = some (.int .i64 d.id) := by rw [cell_of_block hb5]; rfl
  have c1 : wf.cell? ⟨rb, 1, none⟩ = some (.int .i64 d.owner) := by rw [cell_of_block hb5]; rfl
  have c2 : wf.cell? ⟨rb, 2, none⟩ = some (.int .i64 d.side) := by rw [cell_of_block hb5]; rfl
  have c3 : wf.cell? ⟨rb, 3, none⟩ = some (.int .i64 d.net) := by rw [cell_of_block hb5]; rfl
  have c4 : wf.cell? ⟨rb, 4, none⟩ = some (.int .i64 (d.units - u)) := by rw [cell_of_block hb5]; rfl
  refine bodyPost_ret (v := .tuple #[.agg #[.int .i64 d.id, .int .i64 d.owner, .int .i64 d.side, .int .i64 d.net, .int .i64 (d.units - u)], .int .i64 0]) (by simp [results, Try.results15, go_sem, c0, c1, c2, c3, c4]) rfl ⟨p', c', rfl, h4.kept (F := fun i => i = rb) hk5 (by omega) (fun j hj t' ht' e => ?_), ?_, hnw4.le hk03.size⟩
  · rcases hnw4 j hj t' ht' with ⟨j', hj', h'⟩ | h'
    · have := Hold2.out j' hj' t' h'; omega
    · have := lt_of_block hb3; omega
  · exact ((hk03.mono (fun _ _ h => h.elim)).trans hk4).trans' (G := fun i => i = rb) hk5 (fun i hi e => by have := Hrb.out; omega)

set_option maxHeartbeats 4000000 in
set_option maxRecDepth 100000 in
theorem rreduce_some {w : World} {m : Nat} {R : Nat → List Od} {p : Nat → Option Addr} {c : Nat → Nat} (h : RbAt w m R p c) (id u : Int) {k i : Nat} {d : Od} (hf : findR R id = some (k, i)) (hd : (R k)[i]? = some d) (hsd : d.side = (k : Int) + 1) (hu1 : 1 ≤ u) (hu2 : u < d.units) (hu : d.units ≤ 1000000) :
    Calls Try.prog 15 #[.pointer (some ⟨m, 0, none⟩), .int .i64 id, .int .i64 u] w (RRemPost m (upd R k ((R k).set i { d with units := d.units - u })) p { d with units := d.units - u } (.int .i64 0) w) := by
  obtain ⟨i0, hi0, hz0, hz1, hz2⟩ := info_parts Try.info37'
  obtain ⟨hk, _, _, _, hil⟩ := findR_some hf
  have hfew := h.few
  have hc1 : decide (u < 1) = false := decide_eq_false (by omega)
  have hc2 : decide (d.units < u) = false := decide_eq_false (by omega)
  have hz : (d.units - u == 0) = false := by simp; omega
  have Hf := Lib.hid hf
  have Hd := Lib.hid hd
  have Hsd := Lib.hid hsd
  clear hf hd hsd
  have h0 := h.keptF ((Kept.refl _ w).alloc (.cells #[.int .i64 0, .int .i64 0, .int .i64 0, .int .i64 0, .int .i64 0] 37))
  have hk0 : Kept (fun _ => False) w (w.alloc (.cells #[.int .i64 0, .int .i64 0, .int .i64 0, .int .i64 0, .int .i64 0] 37)) := (Kept.refl _ w).alloc _
  have hb0 : (w.alloc (.cells #[.int .i64 0, .int .i64 0, .int .i64 0, .int .i64 0, .int .i64 0] 37)).heap[w.heap.size]? = some (.cells #[.int .i64 0, .int .i64 0, .int .i64 0, .int .i64 0, .int .i64 0] 37 (0, 0)) := block_alloc_new _ _
  have hmw := lt_of_block h.st
  have hold : ∀ j, j < 2 → ∀ t, p j = some t → t.block < w.heap.size := fun j hj t ht => (h.sl j hj).lt t ht
  have Hold := Lib.hid hold
  clear hold h
  go_enter Try.func15, Try.ntmps15
  go_wp2_with fail
  generalize hrb : w.heap.size = rb at hb0 hmw ⊢
  have Hrb := Lib.hid hrb
  clear hrb
  generalize w.alloc (.cells #[.int .i64 0, .int .i64 0, .int .i64 0, .int .i64 0, .int .i64 0] 37) = w0 at h0 hk0 hb0 ⊢
  refine (rget_any h0 id).mono ?_
  rintro e w1 hp
  obtain ⟨rfl, hk1⟩ := hp.1 k i d Hf.out Hd.out
  clear hp
  go_upto_region 2 with fail
  have hk2 : Kept (fun _ => False) w0 (w1.alloc (.cells #[.int .i64 d.id, .int .i64 d.owner, .int .i64 d.side, .int .i64 d.net, .int .i64 d.units] 37)) := hk1.alloc _
  have hb2 : (w1.alloc (.cells #[.int .i64 d.id, .int .i64 d.owner, .int .i64 d.side, .int .i64 d.net, .int .i64 d.units] 37)).heap[rb]? = some (.cells #[.int .i64 0, .int .i64 0, .int .i64 0, .int .i64 0, .int .i64 0] 37 (0, 0)) := (hk2.block rb (lt_of_block hb0) (fun h => h)).trans hb0
  have hq2 : (w1.alloc (.cells #[.int .i64 d.id, .int .i64 d.owner, .int .i64 d.side, .int .i64 d.net, .int .i64 d.units] 37)).heap[w1.heap.size]? = some (.cells #[.int .i64 d.id, .int .i64 d.owner, .int .i64 d.side, .int .i64 d.net, .int .i64 d.units] 37 (0, 0)) := block_alloc_new _ _
  have hqr : rb < w1.heap.size := Nat.lt_of_lt_of_le (lt_of_block hb0) hk1.size
  generalize w1.heap.size = q at hq2 hqr ⊢
  have h2 := h0.keptF hk2
  generalize w1.alloc (.cells #[.int .i64 d.id, .int .i64 d.owner, .int .i64 d.side, .int .i64 d.net, .int .i64 d.units] 37) = w2 at hk2 hb2 hq2 h2 ⊢
  have hk02 := hk0.trans hk2
  clear hk1 hb0 h0 hk0 hk2
  have q0 : w2.cell? ⟨q, 0, none⟩ = some (.int .i64 d.id) := by rw [cell_of_block hq2]; rfl
  have q1 : w2.cell? ⟨q, 1, none⟩ = some (.int .i64 d.owner) := by rw [cell_of_block hq2]; rfl
  have q2 : w2.cell? ⟨q, 2, none⟩ = some (.int .i64 d.side) := by rw [cell_of_block hq2]; rfl
  have q3 : w2.cell? ⟨q, 3, none⟩ = some (.int .i64 d.net) := by rw [cell_of_block hq2]; rfl
  have q4 : w2.cell? ⟨q, 4, none⟩ = some (.int .i64 d.units) := by rw [cell_of_block hq2]; rfl
  have hib : decide ((i : Int) < 0) = false := decide_eq_false (by omega)
  have hq3 : (w2.setCell ⟨q, 4, none⟩ (.int .i64 (d.units - u))).heap[q]? = some (.cells #[.int .i64 d.id, .int .i64 d.owner, .int .i64 d.side, .int .i64 d.net, .int .i64 (d.units - u)] 37 (0, 0)) := by rw [block_setCell hq2 4 _]; rfl
  have hkq : Kept (fun b => b = q) w2 (w2.setCell ⟨q, 4, none⟩ (.int .i64 (d.units - u))) := Kept.setCell (F := fun b => b = q) (Kept.refl _ _) (fun _ => rfl) _
  have hold2 : ∀ j, j < 2 → ∀ t, p j = some t → t.block < rb := fun j hj t ht => by have := Hold.out j hj t ht; have := Hrb.out; omega
  have h3 := h2.kept hkq (by omega) (fun j hj t ht => by have := hold2 j hj t ht; omega)
  have hb3 := (hkq.block rb (lt_of_block hb2) (by omega)).trans hb2
  have hk03 : Kept (fun _ => False) w (w2.setCell ⟨q, 4, none⟩ (.int .i64 (d.units - u))) := hk02.trans' (G := fun b => b = q) hkq (fun i hi e => by have := Hrb.out; omega)
  have fq := free_of_block hq2
  have hrb2 := lt_of_block hb2
  have hrbq := lt_of_block hq2
  have Hold2 := Lib.hid hold2
  clear hq2 h2 hb2 hk02 hkq hold2
  go_upto_region 7 with fail
  generalize w2.setCell ⟨q, 4, none⟩ (.int .i64 (d.units - u)) = w3 at hq3 h3 hb3 hk03 ⊢
  clear q0 q1 q2 q3 q4 fq
  have hqs3 := lt_of_block hq3
  have q0 : w3.cell? ⟨q, 0, none⟩ = some (.int .i64 d.id) := by rw [cell_of_block hq3]; rfl
  have q1 : w3.cell? ⟨q, 1, none⟩ = some (.int .i64 d.owner) := by rw [cell_of_block hq3]; rfl
  have q2 : w3.cell? ⟨q, 2, none⟩ = some (.int .i64 d.side) := by rw [cell_of_block hq3]; rfl
  have q3 : w3.cell? ⟨q, 3, none⟩ = some (.int .i64 d.net) := by rw [cell_of_block hq3]; rfl
  have q4 : w3.cell? ⟨q, 4, none⟩ = some (.int .i64 (d.units - u)) := by rw [cell_of_block hq3]; rfl
  generalize hn : (R k).length = n at hil
  have Hn := Lib.hid hn
  have hn256 : n ≤ 256 := by have h3 : k = 0 ∨ k = 1 := by omega
                             rcases h3 with e | e <;> (subst e; omega)
  have hsl := h3.sl k hk
  rw [hn] at hsl
  obtain ⟨t, o, hpk⟩ := sl_some hsl (by omega)
  rw [hpk] at hsl
  have Hpk := Lib.hid hpk
  have hlc := hsl.2.1
  clear hpk hn
  go_wp2_with fail
  have hqa : (w3.alloc (.cells #[] 37)).heap[q]? = some (.cells #[.int .i64 d.id, .int .i64 d.owner, .int .i64 d.side, .int .i64 d.net, .int .i64 (d.units - u)] 37 (0, 0)) := block_alloc hq3
  have h3a := h3.keptF ((Kept.refl _ w3).alloc (.cells #[] 37))
  refine (side_any h3a _ k hk Hsd.out).mono ?_
  rintro e w' ⟨rfl, rfl⟩
  rw [Hpk.out, Hn.out]
  have hsla := hsl.alloc (.cells #[] 37)
  go_upto_region 11 with (at_builtin; refine wpList_append_new rfl (.tmp 41) (.tmp 45) 27 rfl 37 i0 _ 5 40 Try.underlying27 hi0 hz0 hz1 hz2 rfl (by decide) (some ⟨w3.heap.size, 0, none⟩) 0 rfl (Fr.lit 37 5 w3).sl (some ⟨t, o, none⟩) n (c k) ((R k).flatMap odC) rfl hsla (od_one _) (by unfold maxLen; omega) (by omega) ?_; intro p4 c4 w4 hsl4 hg4 hb4')
  have F4 : Fr 37 5 ((R k).flatMap odC) w3 p4 n c4 w4 := Fr.app0 (Fr.lit 37 5 w3) hsl4 hg4 hb4'
  clear hsl4 hg4 hb4' hsla hqa h3a q0 q1 q2 q3 q4 hsl
  have hq4 := (F4.k.block q (lt_of_block hq3) (fun h => h)).trans hq3
  have q0 : w4.cell? ⟨q, 0, none⟩ = some (.int .i64 d.id) := by rw [cell_of_block hq4]; rfl
  have q1 : w4.cell? ⟨q, 1, none⟩ = some (.int .i64 d.owner) := by rw [cell_of_block hq4]; rfl
  have q2 : w4.cell? ⟨q, 2, none⟩ = some (.int .i64 d.side) := by rw [cell_of_block hq4]; rfl
  have q3 : w4.cell? ⟨q, 3, none⟩ = some (.int .i64 d.net) := by rw [cell_of_block hq4]; rfl
  have q4 : w4.cell? ⟨q, 4, none⟩ = some (.int .i64 (d.units - u)) := by rw [cell_of_block hq4]; rfl
  obtain ⟨t4, o4, rfl⟩ := sl_some F4.sl (by omega)
  have hlc4 := F4.sl.2.1
  obtain ⟨x0, x1, x2, x3, x4⟩ := rd_cells F4.sl Hn.out.symm Hd.out
  have g0 := F4.sl.free
  have b1 : (0 : Int) ≤ (i : Int) := by omega
  have b2 : (i : Int) < (n : Int) := by omega
  have HF4 := Lib.hid F4
  clear F4
  go_upto_region 12 with fail
  have F5 := HF4.out.store5 Hn.out.symm hil { d with units := d.units - u }
  dsimp only at F5
  generalize (((((w4.setCell ⟨t4, o4 + i * 5, none⟩ (.int .i64 d.id)).setCell ⟨t4, o4 + i * 5 + 1, none⟩ (.int .i64 d.owner)).setCell ⟨t4, o4 + i * 5 + 2, none⟩ (.int .i64 d.side)).setCell ⟨t4, o4 + i * 5 + 3, none⟩ (.int .i64 d.net)).setCell ⟨t4, o4 + i * 5 + 4, none⟩ (.int .i64 (d.units - u))) = w5 at F5 ⊢
  clear x0 x1 x2 x3 x4 g0 hq4 HF4
  have hq5 := (F5.k.block q (lt_of_block hq3) (fun h => h)).trans hq3
  have h5 := h3.keptF F5.k
  have hb5' := (F5.k.block rb (lt_of_block hb3) (fun h => h)).trans hb3
  have q0 : w5.cell? ⟨q, 0, none⟩ = some (.int .i64 d.id) := by rw [cell_of_block hq5]; rfl
  have q1 : w5.cell? ⟨q, 1, none⟩ = some (.int .i64 d.owner) := by rw [cell_of_block hq5]; rfl
  have q2 : w5.cell? ⟨q, 2, none⟩ = some (.int .i64 d.side) := by rw [cell_of_block hq5]; rfl
  have q3 : w5.cell? ⟨q, 3, none⟩ = some (.int .i64 d.net) := by rw [cell_of_block hq5]; rfl
  have q4 : w5.cell? ⟨q, 4, none⟩ = some (.int .i64 (d.units - u)) := by rw [cell_of_block hq5]; rfl
  have Hys : Hid (n = ((R k).set i { d with units := d.units - u }).length) := by show _ = _; rw [List.length_set, Hn.out]
  have Hfw : Hid (∀ j, j < 2 → j ≠ k → (R j).length + ((R k).set i { d with units := d.units - u }).length ≤ 256) := fun j hj hne => by
    have h1 := Hys.out; have h2 := Hn.out
    have h3 : (k = 0 ∧ j = 1) ∨ (k = 1 ∧ j = 0) := by omega
    rcases h3 with ⟨e1, e2⟩ | ⟨e1, e2⟩ <;> (subst e1; subst e2; omega)
  go_wp2_with fail
  refine (put_any' h5 _ k hk Hsd.out Hys.out F5.sl Hfw.out).mono ?_
  rintro e w6 ⟨rfl, h6, hk6⟩
  have hb6 := (hk6.block rb (lt_of_block hb5') (by omega)).trans hb5'
  have hq6 := (hk6.block q (lt_of_block hq5) (by omega)).trans hq5
  have Hnw : Hid (Newer p (upd p k (some ⟨t4, o4, none⟩)) w) := (Newer.upd F5.nw).le hk03.size
  have Hpr := Lib.hid (notAt (k := k) F5.nw (lt_of_block hb3) Hold.out Hrb.out)
  have hk5' := F5.k
  clear q0 q1 q2 q3 q4 F5 h5 hq5 hb5' hq3 hb3
  have q0 : w6.cell? ⟨q, 0, none⟩ = some (.int .i64 d.id) := by rw [cell_of_block hq6]; rfl
  have q1 : w6.cell? ⟨q, 1, none⟩ = some (.int .i64 d.owner) := by rw [cell_of_block hq6]; rfl
  have q2 : w6.cell? ⟨q, 2, none⟩ = some (.int .i64 d.side) := by rw [cell_of_block hq6]; rfl
  have q3 : w6.cell? ⟨q, 3, none⟩ = some (.int .i64 d.net) := by rw [cell_of_block hq6]; rfl
  have q4 : w6.cell? ⟨q, 4, none⟩ = some (.int .i64 (d.units - u)) := by rw [cell_of_block hq6]; rfl
  have c0 : w6.cell? ⟨rb, 0, none⟩ = some (.int .i64 0) := by rw [cell_of_block hb6]; rfl
  have c1 : w6.cell? ⟨rb, 1, none⟩ = some (.int .i64 0) := by rw [cell_of_block hb6]; rfl
  have c2 : w6.cell? ⟨rb, 2, none⟩ = some (.int .i64 0) := by rw [cell_of_block hb6]; rfl
  have c3 : w6.cell? ⟨rb, 3, none⟩ = some (.int .i64 0) := by rw [cell_of_block hb6]; rfl
  have c4 : w6.cell? ⟨rb, 4, none⟩ = some (.int .i64 0) := by rw [cell_of_block hb6]; rfl
  have f0 := free_of_block hb6
  have hs0 := lt_of_block hb6
  go_wp2
  obtain ⟨hb5, hk5⟩ := put5_law2 hb6 { d with units := d.units - u }
  change bodyPost _ _ _ _ _ (put5 w6 rb { d with units := d.units - u })
  generalize put5 w6 rb { d with units := d.units - u } = wf at hb5 hk5 ⊢
  clear c0 c1 c2 c3 c4 f0
  have c0 : wf.cell? ⟨rb, 0, none⟩ = some (.int .i64 d.id) := by rw [cell_of_block hb5]; rfl
  have c1 : wf.cell? ⟨rb, 1, none⟩ = some (.int .i64 d.owner) := by rw [cell_of_block hb5]; rfl
  have c2 : wf.cell? ⟨rb, 2, none⟩ = some (.int .i64 d.side) := by rw [cell_of_block hb5]; rfl
  have c3 : wf.cell? ⟨rb, 3, none⟩ = some (.int .i64 d.net) := by rw [cell_of_block hb5]; rfl
  have c4 : wf.cell? ⟨rb, 4, none⟩ = some (.int .i64 (d.units - u)) := by rw [cell_of_block hb5]; rfl
  refine bodyPost_ret (v := .tuple #[.agg #[.int .i64 d.id, .int .i64 d.owner, .int .i64 d.side, .int .i64 d.net, .int .i64 (d.units - u)], .int .i64 0]) (by simp [results, Try.results15, go_sem, c0, c1, c2, c3, c4]) rfl ⟨_, _, rfl, h6.kept (F := fun i => i = rb) hk5 (by omega) Hpr.out, ?_, Hnw.out⟩
  exact (((hk03.trans hk5').mono (fun _ _ h => h.elim)).trans hk6).trans' (G := fun i => i = rb) hk5 (fun i hi e => by have := Hrb.out; omega)
end Go.Proofs.Ytopfgcnehdjjpaa
