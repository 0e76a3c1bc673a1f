/- The document's book of complex orders: Get: the walk. -/
import Derived.Test.YtopfgcnehdjjpaaDa
namespace Go.Proofs.Ytopfgcnehdjjpaa
open Go.RowKit

theorem put5_law2 {w : World} {n : Nat} {u0 u1 u2 u3 u4 : Value} (hb : w.heap[n]? = some (.cells #[u0, u1, u2, u3, u4] 37 (0, 0))) (d : Od) :
    (put5 w n d).heap[n]? = some (.cells #[.int .i64 d.id, .int .i64 d.owner, .int .i64 d.side, .int .i64 d.net, .int .i64 d.units] 37 (0, 0)) ∧ Kept (fun i => i = n) w (put5 w n d) := by
  constructor
  · unfold put5
    rw [block_setCell (block_setCell (block_setCell (block_setCell (block_setCell hb 0 _) 1 _) 2 _) 3 _) 4 _]; rfl
  · unfold put5
    refine Kept.setCell (F := fun i => i = n) ?_ (fun _ => rfl) _
    refine Kept.setCell (F := fun i => i = n) ?_ (fun _ => rfl) _
    refine Kept.setCell (F := fun i => i = n) ?_ (fun _ => rfl) _
    refine Kept.setCell (F := fun i => i = n) ?_ (fun _ => rfl) _
    exact Kept.setCell (F := fun i => i = n) (Kept.refl _ _) (fun _ => rfl) _
theorem rd_cells {w : World} {t o n cap k : Nat} {xs : List Od} {d : Od} (h : SlAt w 37 5 (some ⟨t, o, none⟩) n cap (xs.flatMap odC)) (hn : n = xs.length) (hd : xs[k]? = some d) :
    w.cell? ⟨t, o + k * 5, none⟩ = some (.int .i64 d.id) ∧ w.cell? ⟨t, o + k * 5 + 1, none⟩ = some (.int .i64 d.owner) ∧ w.cell? ⟨t, o + k * 5 + 2, none⟩ = some (.int .i64 d.side) ∧ w.cell? ⟨t, o + k * 5 + 3, none⟩ = some (.int .i64 d.net) ∧ w.cell? ⟨t, o + k * 5 + 4, none⟩ = some (.int .i64 d.units) := by
  have hk : k < xs.length := (List.getElem?_eq_some_iff.1 hd).1
  have hc : ∀ j, j < 5 → w.cell? ⟨t, o + (k * 5 + j), none⟩ = (odC d)[j]? := fun j hj => by rw [h.cell (by omega), fm_get odC_len _ _ _ hj, hd]; rfl
  exact ⟨hc 0 (by decide), hc 1 (by decide), hc 2 (by decide), hc 3 (by decide), hc 4 (by decide)⟩
def RGYes (d : Od) (i : Nat) (w : World) (e : Ending) (w' : World) : Prop :=
  e = .returned (.tuple #[.agg #[.int .i64 d.id, .int .i64 d.owner, .int .i64 d.side, .int .i64 d.net, .int .i64 d.units], .int .i64 i]) ∧ Kept (fun _ => False) w w'
def RGNo (w : World) (e : Ending) (w' : World) : Prop := e = .returned (.tuple #[.agg #[.int .i64 0, .int .i64 0, .int .i64 0, .int .i64 0, .int .i64 0], .int .i64 (-1)]) ∧ Kept (fun _ => False) w w'
def RGPost (R : Nat → List Od) (id : Int) (w : World) (e : Ending) (w' : World) : Prop := (∀ k i d, findR R id = some (k, i) → (R k)[i]? = some d → RGYes d i w e w') ∧ (findR R id = none → RGNo w e w')
def RgRel (R : Nat → List Od) (id : Int) (w0 : World) (sv : Value) (wr : World) : Prop := ∃ k : Nat, k ≤ 2 ∧ sv = .int .i64 ((k : Int) + 1) ∧ (1 ≤ k → idxN (R 0) id = none) ∧ (2 ≤ k → idxN (R 1) id = none) ∧ wr = w0
def RiRel (xs : List Od) (id : Int) (w0 : World) (iv : Value) (wr : World) : Prop := ∃ i : Nat, i ≤ xs.length ∧ iv = .int .i64 i ∧ (∀ o ∈ xs.take i, o.id ≠ id) ∧ wr = w0

set_option maxHeartbeats 4000000 in
theorem rget_any {w : World} {m : Nat} {R : Nat → List Od} {p : Nat → Option Addr} {c : Nat → Nat} (h : RbAt w m R p c) (id : Int) :
    Calls Try.prog 20 #[.pointer (some ⟨m, 0, none⟩), .int .i64 id] w (RGPost R id w) := by
  have h0 := h.keptF ((Kept.refl _ w).alloc (.cells #[.int .i64 0, .int .i64 0, .int .i64 0, .int .i64 0, .int .i64 0] 37))
  have hb0 : (w.alloc (.cells #[.int .i64 0, .int .i64 0, .int .i64 0, .int .i64 0, .int .i64 0] 37)).heap[w.heap.size]? = some (.cells #[.int .i64 0, .int .i64 0, .int .i64 0, .int .i64 0, .int .i64 0] 37 (0, 0)) := block_alloc_new _ _
  have hk0 : Kept (fun _ => False) w (w.alloc (.cells #[.int .i64 0, .int .i64 0, .int .i64 0, .int .i64 0, .int .i64 0] 37)) := (Kept.refl _ _).alloc _
  have hold : ∀ k, k < 2 → ∀ t, p k = some t → t.block < w.heap.size := fun k hk t ht => (h.sl k hk).lt t ht
  have Hold := Lib.hid hold
  have hfew := h.few
  clear hold
  go_enter Try.func20, Try.ntmps20
  go_wp2
  generalize hrb : w.heap.size = rb at hb0 ⊢
  have Hrb := Lib.hid hrb
  clear hrb
  generalize w.alloc (.cells #[.int .i64 0, .int .i64 0, .int .i64 0, .int .i64 0, .int .i64 0] 37) = w0 at h0 hb0 hk0 ⊢
  have hstart : RgRel R id w0 (.int .i64 1) w0 := ⟨0, by omega, rfl, (fun h => by omega), (fun h => by omega), rfl⟩
  go_loopw [6] (fun sv wr => RgRel R id w0 sv wr) (fun sv _ => 4 - (intOf sv).toNat)
  case atStart => exact hstart
  case round =>
    obtain ⟨k, hk, rfl, hn0, hn1, rfl⟩ := hrel
    clear hstart
    have HN0 := Lib.hid hn0
    have HN1 := Lib.hid hn1
    clear hn0 hn1
    match k, hk with
    | 0, _ =>
      go_wp2_with fail
      refine (side_any h0 _ 0 (by decide) (by rfl)).mono ?_
      rintro e w' ⟨rfl, rfl⟩
      go_wp2_with fail
      have hst2 : RiRel (R 0) id wr (.int .i64 0) wr := ⟨0, Nat.zero_le _, rfl, fun o ho => by simp at ho, rfl⟩
      go_loopw [8] (fun iv wr' => RiRel (R 0) id wr iv wr') (fun iv _ => (R 0).length - (intOf iv).toNat)
      case atStart => exact hst2
      case round =>
        obtain ⟨i, hi, rfl, hno, hwe⟩ := hrel
        subst hwe
        clear hst2
        have Hno := Lib.hid hno
        clear hno
        have hsl := h0.sl 0 (by decide)
        by_cases hlt : i < (R 0).length
        · obtain ⟨t, o, hpk⟩ := sl_some hsl (by omega)
          have htl := Hold.out 0 (by decide) _ hpk
          rw [Hrb.out] at htl
          rw [hpk] at hsl ⊢
          have hd : (R 0)[i]? = some ((R 0)[i]) := List.getElem?_eq_getElem hlt
          obtain ⟨x0, x1, x2, x3, x4⟩ := rd_cells hsl rfl hd
          generalize (R 0)[i] = d at hd x0 x1 x2 x3 x4
          have Hd := Lib.hid hd
          have hne : t ≠ rb := by have h1 : t < rb := htl; omega
          clear hd hsl hpk htl
          by_cases hid : d.id = id
          · have hb : (d.id == id) = true := by simpa using hid
            have Hid' := Lib.hid hid
            have hfi : idxN (R 0) id = some i := idxN_at Hno.out Hd.out Hid'.out
            have hfin : findR R id = some (0, i) := by
              rw [findR, hfi]
            have Hfin := Lib.hid hfin
            clear hid hfi hfin
            have c0 : wr.cell? ⟨rb, 0, none⟩ = some (.int .i64 0) := by rw [cell_of_block hb0]; rfl
            have c1 : wr.cell? ⟨rb, 1, none⟩ = some (.int .i64 0) := by rw [cell_of_block hb0]; rfl
            have c2 : wr.cell? ⟨rb, 2, none⟩ = some (.int .i64 0) := by rw [cell_of_block hb0]; rfl
            have c3 : wr.cell? ⟨rb, 3, none⟩ = some (.int .i64 0) := by rw [cell_of_block hb0]; rfl
            have c4 : wr.cell? ⟨rb, 4, none⟩ = some (.int .i64 0) := by rw [cell_of_block hb0]; rfl
            have f0 := free_of_block hb0
            have hs0 := lt_of_block hb0
            go_wp2
            obtain ⟨hb5, hk5⟩ := put5_law2 hb0 d
            change bodyPost _ _ _ _ _ (put5 wr rb d)
            generalize put5 wr rb d = wf at hb5 hk5 ⊢
            clear c0 c1 c2 c3 c4 f0 x0 x1 x2 x3 x4
            have c0 : wf.cell? ⟨rb, 0, none⟩ = some (.int .i64 d.id) := by rw [cell_of_block hb5]; rfl
            have c1 : wf.cell? ⟨rb, 1, none⟩ = some (.int .i64 d.owner) := by rw [cell_of_block hb5]; rfl
            have c2 : wf.cell? ⟨rb, 2, none⟩ = some (.int .i64 d.side) := by rw [cell_of_block hb5]; rfl
            have c3 : wf.cell? ⟨rb, 3, none⟩ = some (.int .i64 d.net) := by rw [cell_of_block hb5]; rfl
            have c4 : wf.cell? ⟨rb, 4, none⟩ = some (.int .i64 d.units) := by rw [cell_of_block hb5]; rfl
            refine bodyPost_ret (v := .tuple #[.agg #[.int .i64 d.id, .int .i64 d.owner, .int .i64 d.side, .int .i64 d.net, .int .i64 d.units], .int .i64 i]) (by simp [results, Try.results20, go_sem, c0, c1, c2, c3, c4]) rfl ⟨fun k' i' d' h1 h2 => ?_, fun h1 => by rw [Hfin.out] at h1; cases h1⟩
            rw [Hfin.out] at h1
            cases h1
            rw [Hd.out] at h2
            cases h2
            exact ⟨rfl, hk0.trans' (G := fun i => i = rb) hk5 (fun i hi e => by rw [Hrb.out] at hi; omega)⟩
          · have hb : (d.id == id) = false := by simpa using hid
            have Hid' : Hid (¬ d.id = id) := hid
            clear hid
            go_wp2
            exact ⟨⟨i + 1, by omega, by go_num, take_not Hno.out Hd.out Hid'.out, rfl⟩, by simp [intOf]; omega⟩
        · obtain rfl : i = (R 0).length := by omega
          have hnn : idxN (R 0) id = none := idxN_none (by have := Hno.out; rwa [List.take_length] at this)
          have Hnn := Lib.hid hnn
          clear hnn hsl
          go_wp2
          exact ⟨⟨1, by omega, rfl, fun _ => Hnn.out, fun h => by omega, rfl⟩, by simp [intOf]⟩
    | 1, _ =>
      go_wp2_with fail
      refine (side_any h0 _ 1 (by decide) (by rfl)).mono ?_
      rintro e w' ⟨rfl, rfl⟩
      go_wp2_with fail
      have hst2 : RiRel (R 1) id wr (.int .i64 0) wr := ⟨0, Nat.zero_le _, rfl, fun o ho => by simp at ho, rfl⟩
      go_loopw [8] (fun iv wr' => RiRel (R 1) id wr iv wr') (fun iv _ => (R 1).length - (intOf iv).toNat)
      case atStart => exact hst2
      case round =>
        obtain ⟨i, hi, rfl, hno, hwe⟩ := hrel
        subst hwe
        clear hst2
        have Hno := Lib.hid hno
        clear hno
        have hsl := h0.sl 1 (by decide)
        by_cases hlt : i < (R 1).length
        · obtain ⟨t, o, hpk⟩ := sl_some hsl (by omega)
          have htl := Hold.out 1 (by decide) _ hpk
          rw [Hrb.out] at htl
          rw [hpk] at hsl ⊢
          have hd : (R 1)[i]? = some ((R 1)[i]) := List.getElem?_eq_getElem hlt
          obtain ⟨x0, x1, x2, x3, x4⟩ := rd_cells hsl rfl hd
          generalize (R 1)[i] = d at hd x0 x1 x2 x3 x4
          have Hd := Lib.hid hd
          have hne : t ≠ rb := by have h1 : t < rb := htl; omega
          clear hd hsl hpk htl
          by_cases hid : d.id = id
          · have hb : (d.id == id) = true := by simpa using hid
            have Hid' := Lib.hid hid
            have hfi : idxN (R 1) id = some i := idxN_at Hno.out Hd.out Hid'.out
            have hfin : findR R id = some (1, i) := by
              rw [findR, HN0.out (by omega), hfi]
            have Hfin := Lib.hid hfin
            clear hid hfi hfin
            have c0 : wr.cell? ⟨rb, 0, none⟩ = some (.int .i64 0) := by rw [cell_of_block hb0]; rfl
            have c1 : wr.cell? ⟨rb, 1, none⟩ = some (.int .i64 0) := by rw [cell_of_block hb0]; rfl
            have c2 : wr.cell? ⟨rb, 2, none⟩ = some (.int .i64 0) := by rw [cell_of_block hb0]; rfl
            have c3 : wr.cell? ⟨rb, 3, none⟩ = some (.int .i64 0) := by rw [cell_of_block hb0]; rfl
            have c4 : wr.cell? ⟨rb, 4, none⟩ = some (.int .i64 0) := by rw [cell_of_block hb0]; rfl
            have f0 := free_of_block hb0
            have hs0 := lt_of_block hb0
            go_wp2
            obtain ⟨hb5, hk5⟩ := put5_law2 hb0 d
            change bodyPost _ _ _ _ _ (put5 wr rb d)
            generalize put5 wr rb d = wf at hb5 hk5 ⊢
            clear c0 c1 c2 c3 c4 f0 x0 x1 x2 x3 x4
            have c0 : wf.cell? ⟨rb, 0, none⟩ = some (.int .i64 d.id) := by rw [cell_of_block hb5]; rfl
            have c1 : wf.cell? ⟨rb, 1, none⟩ = some (.int .i64 d.owner) := by rw [cell_of_block hb5]; rfl
            have c2 : wf.cell? ⟨rb, 2, none⟩ = some (.int .i64 d.side) := by rw [cell_of_block hb5]; rfl
            have c3 : wf.cell? ⟨rb, 3, none⟩ = some (.int .i64 d.net) := by rw [cell_of_block hb5]; rfl
            have c4 : wf.cell? ⟨rb, 4, none⟩ = some (.int .i64 d.units) := by rw [cell_of_block hb5]; rfl
            refine bodyPost_ret (v := .tuple #[.agg #[.int .i64 d.id, .int .i64 d.owner, .int .i64 d.side, .int .i64 d.net, .int .i64 d.units], .int .i64 i]) (by simp [results, Try.results20, go_sem, c0, c1, c2, c3, c4]) rfl ⟨fun k' i' d' h1 h2 => ?_, fun h1 => by rw [Hfin.out] at h1; cases h1⟩
            rw [Hfin.out] at h1
            cases h1
            rw [Hd.out] at h2
            cases h2
            exact ⟨rfl, hk0.trans' (G := fun i => i = rb) hk5 (fun i hi e => by rw [Hrb.out] at hi; omega)⟩
          · have hb : (d.id == id) = false := by simpa using hid
            have Hid' : Hid (¬ d.id = id) := hid
            clear hid
            go_wp2
            exact ⟨⟨i + 1, by omega, by go_num, take_not Hno.out Hd.out Hid'.out, rfl⟩, by simp [intOf]; omega⟩
        · obtain rfl : i = (R 1).length := by omega
          have hnn : idxN (R 1) id = none := idxN_none (by have := Hno.out; rwa [List.take_length] at this)
          have Hnn := Lib.hid hnn
          clear hnn hsl
          go_wp2
          exact ⟨⟨2, by omega, rfl, fun _ => HN0.out (by omega), fun h => Hnn.out, rfl⟩, by simp [intOf]⟩
    | 2, _ =>
      have hfin : findR R id = none := by rw [findR, HN0.out (by omega)]; show (match idxN (R 1) id with | some i => some (1, i) | none => none) = none; rw [HN1.out (by omega)]
      have Hfin := Lib.hid hfin
      clear hfin
      have c0 : wr.cell? ⟨rb, 0, none⟩ = some (.int .i64 0) := by rw [cell_of_block hb0]; rfl
      have c1 : wr.cell? ⟨rb, 1, none⟩ = some (.int .i64 0) := by rw [cell_of_block hb0]; rfl
      have c2 : wr.cell? ⟨rb, 2, none⟩ = some (.int .i64 0) := by rw [cell_of_block hb0]; rfl
      have c3 : wr.cell? ⟨rb, 3, none⟩ = some (.int .i64 0) := by rw [cell_of_block hb0]; rfl
      have c4 : wr.cell? ⟨rb, 4, none⟩ = some (.int .i64 0) := by rw [cell_of_block hb0]; rfl
      have f0 := free_of_block hb0
      have hs0 := lt_of_block hb0
      go_wp2
      obtain ⟨hb5, hk5⟩ := put5_law2 hb0 zeroOd
      change bodyPost _ _ _ _ _ (put5 wr rb zeroOd)
      generalize put5 wr rb zeroOd = wf at hb5 hk5 ⊢
      clear c0 c1 c2 c3 c4 f0
      have c0 : wf.cell? ⟨rb, 0, none⟩ = some (.int .i64 0) := by rw [cell_of_block hb5]; rfl
      have c1 : wf.cell? ⟨rb, 1, none⟩ = some (.int .i64 0) := by rw [cell_of_block hb5]; rfl
      have c2 : wf.cell? ⟨rb, 2, none⟩ = some (.int .i64 0) := by rw [cell_of_block hb5]; rfl
      have c3 : wf.cell? ⟨rb, 3, none⟩ = some (.int .i64 0) := by rw [cell_of_block hb5]; rfl
      have c4 : wf.cell? ⟨rb, 4, none⟩ = some (.int .i64 0) := by rw [cell_of_block hb5]; rfl
      refine bodyPost_ret (v := .tuple #[.agg #[.int .i64 0, .int .i64 0, .int .i64 0, .int .i64 0, .int .i64 0], .int .i64 (-1)]) (by simp [results, Try.results20, go_sem, c0, c1, c2, c3, c4]) rfl ⟨fun k' i' d' h1 h2 => by (rw [Hfin.out] at h1; cases h1), fun _ => ⟨rfl, hk0.trans' (G := fun i => i = rb) hk5 (fun i hi e => by rw [Hrb.out] at hi; omega)⟩⟩
end Go.Proofs.Ytopfgcnehdjjpaa
