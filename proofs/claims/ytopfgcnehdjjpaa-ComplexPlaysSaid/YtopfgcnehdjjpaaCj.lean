/- The book of complex orders: Row, Front: the walks. -/
import Derived.Test.YtopfgcnehdjjpaaCi
import Derived.Lib.SliceRun
namespace Go.Proofs.Ytopfgcnehdjjpaa
open Go.RowKit

theorem SlAt.clip {w : World} {E size : Nat} {a : Option Addr} {len cap : Nat} {xs : List Value} (h : SlAt w E size a len cap xs) : SlAt w E size a len len xs := by
  obtain ⟨h1, h2, h3⟩ := h
  refine ⟨h1, Nat.le_refl _, ?_⟩
  rcases h3 with ⟨h3, h4⟩ | ⟨t', o', arr, ha, hb, hs, hx⟩
  · exact .inl ⟨h3, by omega⟩
  · exact .inr ⟨t', o', arr, ha, hb, Nat.le_trans (Nat.add_le_add_left (Nat.mul_le_mul_right _ h2) _) hs, hx⟩
theorem clip_any (a : Option Addr) (len cap : Nat) (hlc : len ≤ cap) (w : World) :
    Calls Try.prog 37 #[.slice a len cap] w fun e w' => w = w' ∧ e = .returned (.slice a len len) := by
  go_enter Try.func37, Try.ntmps37
  go_wp2
  go_ret
  exact ⟨rfl, rfl⟩
def ClPost (xs : List Od) (w : World) (e : Ending) (w' : World) : Prop := ∃ p c, e = .returned (.slice p xs.length c) ∧ Fr 31 5 (xs.flatMap odC) w p xs.length c w'
theorem clone_any (p : Option Addr) (cap : Nat) (xs : List Od) (w : World) (h : SlAt w 31 5 p xs.length cap (xs.flatMap odC)) (h256 : xs.length ≤ 256) :
    Calls Try.prog 38 #[.slice p xs.length cap] w (ClPost xs w) := by
  obtain ⟨i0, hi0, hz0, hz1, hz2⟩ := info_parts Try.info31'
  have q61 : ∀ (w : World) (a : Option Addr) (n c n' c' : Nat), (binOp .eql 61 (.slice a n c) (.slice none n' c')).run Try.prog w = .ok (.bool a.isNone) w := fun w a n c n' c' => Lib.run_eql_slice_nil w _ _ a n c n' c' Try.underlying61
  cases p with
  | none =>
    have h0 : xs.length = 0 := by
      rcases h.2.2 with ⟨_, h2⟩ | ⟨t, o, arr, ha, _⟩
      · have := h.2.1; omega
      · cases ha
    obtain rfl : xs = [] := List.eq_nil_of_length_eq_zero h0
    clear h h0
    go_enter Try.func38, Try.ntmps38
    go_wp2
    go_ret
    exact ⟨none, 0, rfl, Fr.nil _ _ _⟩
  | some a =>
    go_enter Try.func38, Try.ntmps38
    go_wp2_with (at_builtin; refine wpList_append_new rfl (.tmp 5) (.tmp 6) 61 rfl 31 i0 _ 5 40 Try.underlying61 hi0 hz0 hz1 hz2 rfl (by decide) (some ⟨w.heap.size, 0, none⟩) 0 rfl (Fr.lit 31 5 w).sl (some a) xs.length cap (xs.flatMap odC) rfl (h.alloc _) (od_one xs) (by unfold maxLen; omega) (by omega) ?_; intro p' c' w' hsl hg hb)
    go_ret
    exact ⟨p', c', rfl, Fr.app0 (Fr.lit 31 5 w) hsl hg hb⟩
def RowPost (xs : List Od) (w : World) (e : Ending) (w' : World) : Prop := ∃ p, e = .returned (.slice p xs.length xs.length) ∧ Fr 31 5 (xs.flatMap odC) w p xs.length xs.length w'
theorem row_any {w : World} {a : Nat} {R : Nat → List Od} {p : Nat → Option Addr} {c : Nat → Nat} {O : Nat → Nat} (h : BkAt w a R p c O) (side : Int) (k : Nat) (hk : k < 2) (hpl : placeI side = k) :
    Calls Try.prog 26 #[.pointer (some ⟨a, 0, none⟩), .int .i64 side] w (RowPost (R k) w) := by
  have Hpl := Lib.hid hpl
  clear hpl
  have hrow := h.row hk
  have hrl : (R k).length ≤ 256 := by have := h.few; have h2 : k = 0 ∨ k = 1 := by omega
                                      rcases h2 with rfl | rfl <;> omega
  go_enter Try.func26, Try.ntmps26
  go_wp2_with fail
  refine (place_any _ _).mono ?_
  rintro e w' ⟨rfl, rfl⟩
  rw [Hpl.out]
  go_wp2_with fail
  refine (clone_any (p k) (c k) (R k) _ (h.sl k hk) hrl).mono ?_
  rintro e w1 ⟨p1, c1, rfl, hf1⟩
  have hlc := hf1.sl.2.1
  clear hrow
  go_wp2_with fail
  refine (clip_any p1 _ c1 hlc _).mono ?_
  rintro e w' ⟨rfl, rfl⟩
  go_wp2
  go_ret
  exact ⟨p1, rfl, hf1.sl.clip, hf1.k, hf1.nw⟩
theorem row_no {w : World} (a : Nat) (side : Int) (hpl : placeI side = -1) :
    Calls Try.prog 26 #[.pointer (some ⟨a, 0, none⟩), .int .i64 side] w fun e w' => w = w' ∧ e = .returned (.slice none 0 0) := by
  have Hpl := Lib.hid hpl
  clear hpl
  go_enter Try.func26, Try.ntmps26
  go_wp2_with fail
  refine (place_any _ _).mono ?_
  rintro e w' ⟨rfl, rfl⟩
  rw [Hpl.out]
  go_wp2
  go_ret
  exact ⟨rfl, rfl⟩

theorem front_no {w : World} {a : Nat} {R : Nat → List Od} {p : Nat → Option Addr} {c : Nat → Nat} {O : Nat → Nat} (h : BkAt w a R p c O) (side : Int) (k : Nat) (hk : k < 2) (hpl : placeI side = k) (hn : R k = []) :
    Calls Try.prog 17 #[.pointer (some ⟨a, 0, none⟩), .int .i64 side] w (GPost zeroOd false w) := by
  have h' := h.keptF ((Kept.refl _ w).alloc (.cells #[.int .i64 0, .int .i64 0, .int .i64 0, .int .i64 0, .int .i64 0] 31))
  have Hn := Lib.hid hn
  clear hn
  go_enter Try.func17, Try.ntmps17
  go_wp2_with fail
  refine (row_any h' side k hk hpl).mono ?_
  rintro e w' ⟨p1, rfl, hf1⟩
  have hk := hf1.k
  rw [Hn.out]
  clear hf1
  have hk2 : Kept (fun _ => False) w w' := ((Kept.refl _ _).alloc _).trans hk
  have hb : w'.heap[w.heap.size]? = some (.cells #[.int .i64 0, .int .i64 0, .int .i64 0, .int .i64 0, .int .i64 0] 31 (0, 0)) := (hk.block _ (by simp) (fun h => h)).trans (block_alloc_new _ _)
  have c0 : w'.cell? ⟨w.heap.size, 0, none⟩ = some (.int .i64 0) := by rw [cell_of_block hb]; rfl
  have c1 : w'.cell? ⟨w.heap.size, 1, none⟩ = some (.int .i64 0) := by rw [cell_of_block hb]; rfl
  have c2 : w'.cell? ⟨w.heap.size, 2, none⟩ = some (.int .i64 0) := by rw [cell_of_block hb]; rfl
  have c3 : w'.cell? ⟨w.heap.size, 3, none⟩ = some (.int .i64 0) := by rw [cell_of_block hb]; rfl
  have c4 : w'.cell? ⟨w.heap.size, 4, none⟩ = some (.int .i64 0) := by rw [cell_of_block hb]; rfl
  have f0 := free_of_block hb
  have hs := lt_of_block hb
  go_wp2
  obtain ⟨hb5, hk5⟩ := put5_law hb zeroOd
  change bodyPost _ _ _ _ _ (put5 w' w.heap.size zeroOd)
  generalize put5 w' w.heap.size zeroOd = wf at hb5 hk5 ⊢
  clear c0 c1 c2 c3 c4 f0
  have c0 : wf.cell? ⟨w.heap.size, 0, none⟩ = some (.int .i64 0) := by rw [cell_of_block hb5]; rfl
  have c1 : wf.cell? ⟨w.heap.size, 1, none⟩ = some (.int .i64 0) := by rw [cell_of_block hb5]; rfl
  have c2 : wf.cell? ⟨w.heap.size, 2, none⟩ = some (.int .i64 0) := by rw [cell_of_block hb5]; rfl
  have c3 : wf.cell? ⟨w.heap.size, 3, none⟩ = some (.int .i64 0) := by rw [cell_of_block hb5]; rfl
  have c4 : wf.cell? ⟨w.heap.size, 4, none⟩ = some (.int .i64 0) := by rw [cell_of_block hb5]; rfl
  refine bodyPost_ret (v := .tuple #[.agg #[.int .i64 0, .int .i64 0, .int .i64 0, .int .i64 0, .int .i64 0], .bool false]) (by simp [results, Try.results17, go_sem, c0, c1, c2, c3, c4]) rfl ⟨rfl, ?_⟩
  exact hk2.trans' (G := fun i => i = w.heap.size) hk5 (fun i hi e => by omega)
theorem front_yes {w : World} {a : Nat} {R : Nat → List Od} {p : Nat → Option Addr} {c : Nat → Nat} {O : Nat → Nat} (h : BkAt w a R p c O) (side : Int) (k : Nat) (hk : k < 2) (hpl : placeI side = k) {d : Od} (hd : (R k)[0]? = some d) :
    Calls Try.prog 17 #[.pointer (some ⟨a, 0, none⟩), .int .i64 side] w (GPost d true w) := by
  have h' := h.keptF ((Kept.refl _ w).alloc (.cells #[.int .i64 0, .int .i64 0, .int .i64 0, .int .i64 0, .int .i64 0] 31))
  have hrl : (R k).length ≤ 256 := by have := h.few; have h2 : k = 0 ∨ k = 1 := by omega
                                      rcases h2 with rfl | rfl <;> omega
  have hl0 : 0 < (R k).length := (List.getElem?_eq_some_iff.1 hd).1
  have Hd := Lib.hid hd
  clear hd
  go_enter Try.func17, Try.ntmps17
  go_wp2_with fail
  refine (row_any h' side k hk hpl).mono ?_
  rintro e w' ⟨p1, rfl, hf1⟩
  have hk := hf1.k
  obtain ⟨t, o, rfl⟩ := sl_some hf1.sl hl0
  have htn := hf1.nw _ rfl
  simp only [World.size_alloc] at htn
  have hne : t ≠ w.heap.size := by omega
  obtain ⟨x0, x1, x2, x3, x4⟩ := od_cells hf1.sl rfl Hd.out
  simp only [Nat.zero_mul, Nat.add_zero] at x0 x1 x2 x3 x4
  have hk2 : Kept (fun _ => False) w w' := ((Kept.refl _ _).alloc _).trans hk
  have hb : w'.heap[w.heap.size]? = some (.cells #[.int .i64 0, .int .i64 0, .int .i64 0, .int .i64 0, .int .i64 0] 31 (0, 0)) := (hk.block _ (by simp) (fun h => h)).trans (block_alloc_new _ _)
  have c0 : w'.cell? ⟨w.heap.size, 0, none⟩ = some (.int .i64 0) := by rw [cell_of_block hb]; rfl
  have c1 : w'.cell? ⟨w.heap.size, 1, none⟩ = some (.int .i64 0) := by rw [cell_of_block hb]; rfl
  have c2 : w'.cell? ⟨w.heap.size, 2, none⟩ = some (.int .i64 0) := by rw [cell_of_block hb]; rfl
  have c3 : w'.cell? ⟨w.heap.size, 3, none⟩ = some (.int .i64 0) := by rw [cell_of_block hb]; rfl
  have c4 : w'.cell? ⟨w.heap.size, 4, none⟩ = some (.int .i64 0) := by rw [cell_of_block hb]; rfl
  have f0 := free_of_block hb
  have hs := lt_of_block hb
  clear hf1 h' h
  generalize (R k).length = n at hl0 hrl ⊢
  go_wp2
  obtain ⟨hb5, hk5⟩ := put5_law hb d
  change bodyPost _ _ _ _ _ (put5 w' w.heap.size d)
  generalize put5 w' w.heap.size d = wf at hb5 hk5 ⊢
  clear c0 c1 c2 c3 c4 f0 x0 x1 x2 x3 x4
  have c0 : wf.cell? ⟨w.heap.size, 0, none⟩ = some (.int .i64 d.id) := by rw [cell_of_block hb5]; rfl
  have c1 : wf.cell? ⟨w.heap.size, 1, none⟩ = some (.int .i64 d.owner) := by rw [cell_of_block hb5]; rfl
  have c2 : wf.cell? ⟨w.heap.size, 2, none⟩ = some (.int .i64 d.side) := by rw [cell_of_block hb5]; rfl
  have c3 : wf.cell? ⟨w.heap.size, 3, none⟩ = some (.int .i64 d.net) := by rw [cell_of_block hb5]; rfl
  have c4 : wf.cell? ⟨w.heap.size, 4, none⟩ = some (.int .i64 d.units) := by rw [cell_of_block hb5]; rfl
  refine bodyPost_ret (v := .tuple #[.agg #[.int .i64 d.id, .int .i64 d.owner, .int .i64 d.side, .int .i64 d.net, .int .i64 d.units], .bool true]) (by simp [results, Try.results17, go_sem, c0, c1, c2, c3, c4]) rfl ⟨rfl, ?_⟩
  exact hk2.trans' (G := fun i => i = w.heap.size) hk5 (fun i hi e => by omega)
end Go.Proofs.Ytopfgcnehdjjpaa
