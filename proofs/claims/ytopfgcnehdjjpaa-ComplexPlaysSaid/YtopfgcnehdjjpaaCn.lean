/- The walk of 'known'. -/
import Derived.Test.YtopfgcnehdjjpaaCm
namespace Go.Proofs.Ytopfgcnehdjjpaa
open Go.RowKit

def FinPost (w : World) (e : Ending) (w' : World) : Prop := e = .returned (.bool true) ∧ Kept (fun _ => False) w w'
theorem kept_new3 {O O' : Nat → Nat} {w w1 w' : World} (h : Kept (fun _ => False) w w1) (hO : ∀ i, i < w.heap.size → O i = 0) (hg : Grows3 O O' w1 w') : Kept (fun _ => False) w w' :=
  h.trans' hg.kept fun i hi hG => hG (hO i hi)
theorem insert_ok' {w : World} {a : Nat} {R R' : Nat → List Od} {p : Nat → Option Addr} {c : Nat → Nat} {O : Nat → Nat} (h : BkAt w a R p c O) (d : Od) (hr : Right d) (hf : findR R d.id = none) (hlen : (R 0).length + (R 1).length < 256)
    {pos : Nat} (hs : Splits (R (sideN d)) d pos) (hR : upd R (sideN d) (insAt (R (sideN d)) pos d) = R') (i0 i1 i2 i3 i4 : Int) (e0 : i0 = d.id) (e1 : i1 = d.owner) (e2 : i2 = d.side) (e3 : i3 = d.net) (e4 : i4 = d.units) :
    Calls Try.prog 9 #[.pointer (some ⟨a, 0, none⟩), .agg #[.int .i64 i0, .int .i64 i1, .int .i64 i2, .int .i64 i3, .int .i64 i4]] w (BookPost a R' O (.int .i64 0) w) := by
  subst hR e0 e1 e2 e3 e4; exact insert_ok h d hr hf hlen hs
def d1 : Od := ⟨1, 0, 2, -3, 4⟩
def d2 : Od := ⟨2, 0, 2, -5, 2⟩
def B0 : Nat → List Od := fun _ => []
def B1 : Nat → List Od := upd B0 1 [d1]
def B2 : Nat → List Od := upd B1 1 [d2, d1]
def B3 : Nat → List Od := upd B2 1 [d1]
theorem splits_nil (d : Od) : Splits [] d 0 := ⟨Nat.le_refl _, fun i x h => by omega, fun i x _ h => by simp at h⟩
theorem splits1 : Splits (B1 (sideN d2)) d2 0 := ⟨by decide, fun i x h => by omega, fun i x _ h => by
  have : B1 (sideN d2) = [d1] := by decide
  rw [this] at h
  match i, h with
  | 0, h => cases h; decide
  | i + 1, h => simp at h⟩

set_option maxHeartbeats 4000000 in
set_option maxRecDepth 100000 in
theorem known_any (w : World) : Calls Try.prog 7 #[] w (FinPost w) := by
  go_enter Try.func7, Try.ntmps7
  go_wp2_with fail
  refine (new_any w).mono ?_
  rintro e w1 ⟨a, O, rfl, h1, hk, hO⟩
  have HO := Lib.hid hO
  clear hO
  go_wp2_with fail
  refine (insert_ok' (R' := B1) h1 d1 ⟨by decide, by decide, by decide, by decide, by decide, by decide⟩ rfl (by decide) (pos := 0) (splits_nil d1) rfl _ _ _ _ _ rfl rfl rfl rfl rfl).mono ?_
  rintro e w2 ⟨p2, c2, O2, rfl, h2, g2⟩
  go_wp2_with fail
  refine (insert_ok' (R' := B2) h2 d2 ⟨by decide, by decide, by decide, by decide, by decide, by decide⟩ (by decide) (by decide) (pos := 0) splits1 (by funext j; simp only [B1, B2, upd]; rfl) _ _ _ _ _ rfl rfl rfl rfl rfl).mono ?_
  rintro e w3 ⟨p3, c3, O3, rfl, h3, g3⟩
  go_wp2_with fail
  refine (front_yes h3 2 1 (by decide) (by decide) (d := d2) (by decide)).mono ?_
  rintro e w4 ⟨rfl, k4⟩
  have h4 := h3.keptF k4
  simp only [d2]
  go_upto_region 7 with fail
  have hg5 : Grows3 O3 O3 w4 (w4.alloc (.cells #[.int .i64 2, .int .i64 0, .int .i64 2, .int .i64 (-5), .int .i64 2] 31)) := Grows3.ofF ((Kept.refl _ _).alloc _)
  have h5 := h4.keptF ((Kept.refl _ w4).alloc (.cells #[.int .i64 2, .int .i64 0, .int .i64 2, .int .i64 (-5), .int .i64 2] 31))
  have hq5 : (w4.alloc (.cells #[.int .i64 2, .int .i64 0, .int .i64 2, .int .i64 (-5), .int .i64 2] 31)).heap[w4.heap.size]? = some (.cells #[.int .i64 2, .int .i64 0, .int .i64 2, .int .i64 (-5), .int .i64 2] 31 (0, 0)) := block_alloc_new _ _
  have hO5 := h4.new w4.heap.size (Nat.le_refl _)
  generalize w4.heap.size = q at hq5 hO5 ⊢
  generalize w4.alloc (.cells #[.int .i64 2, .int .i64 0, .int .i64 2, .int .i64 (-5), .int .i64 2] 31) = w5 at hg5 h5 hq5 ⊢
  go_wp2_with fail
  refine (reduce_all h5 2 2 (k := 1) (i := 0) (d := d2) (by decide) (by decide) (by decide) (by decide) (by decide)).mono ?_
  rintro e w6 ⟨p6, c6, O6, rfl, h6, g6⟩
  have e6 : upd B2 1 (delAt (B2 1) 0) = B3 := by funext j; simp only [B3]; rfl
  rw [e6] at h6
  have hq6 := (g6.kept.block q (lt_of_block hq5) (fun hG => hG hO5)).trans hq5
  have hO6 := (g6.old q (lt_of_block hq5)).trans hO5
  rw [show d2.id = 2 from rfl, show d2.owner = 0 from rfl, show d2.side = 2 from rfl, show d2.net = -5 from rfl, show d2.units - 2 = 0 from rfl]
  go_upto_region 8 with fail
  have hg7 : Grows3 O6 O6 w6 (w6.alloc (.cells #[.int .i64 2, .int .i64 0, .int .i64 2, .int .i64 (-5), .int .i64 0] 31)) := Grows3.ofF ((Kept.refl _ _).alloc _)
  have h7 := h6.keptF ((Kept.refl _ w6).alloc (.cells #[.int .i64 2, .int .i64 0, .int .i64 2, .int .i64 (-5), .int .i64 0] 31))
  have hr7 : (w6.alloc (.cells #[.int .i64 2, .int .i64 0, .int .i64 2, .int .i64 (-5), .int .i64 0] 31)).heap[w6.heap.size]? = some (.cells #[.int .i64 2, .int .i64 0, .int .i64 2, .int .i64 (-5), .int .i64 0] 31 (0, 0)) := block_alloc_new _ _
  have hq7 : (w6.alloc (.cells #[.int .i64 2, .int .i64 0, .int .i64 2, .int .i64 (-5), .int .i64 0] 31)).heap[q]? = _ := block_alloc hq6
  generalize w6.heap.size = r at hr7 ⊢
  generalize w6.alloc (.cells #[.int .i64 2, .int .i64 0, .int .i64 2, .int .i64 (-5), .int .i64 0] 31) = w7 at hg7 h7 hr7 hq7 ⊢
  go_wp2_with fail
  refine (reduce_no h7 2 1 (by decide)).mono ?_
  rintro e w8 ⟨rfl, k8⟩
  have h8 := h7.keptF k8
  have hq8 := (k8.block q (lt_of_block hq7) (fun h => h)).trans hq7
  have hr8 := (k8.block r (lt_of_block hr7) (fun h => h)).trans hr7
  simp only [zeroOd]
  go_upto_region 9 with fail
  have k9 : Kept (fun _ => False) w8 (w8.alloc (.cells #[.int .i64 0, .int .i64 0, .int .i64 0, .int .i64 0, .int .i64 0] 31)) := (Kept.refl _ _).alloc _
  have h9 := h8.keptF k9
  have hq9 := (k9.block q (lt_of_block hq8) (fun h => h)).trans hq8
  have hr9 := (k9.block r (lt_of_block hr8) (fun h => h)).trans hr8
  have K9 : Kept (fun _ => False) w (w8.alloc (.cells #[.int .i64 0, .int .i64 0, .int .i64 0, .int .i64 0, .int .i64 0] 31)) :=
    ((kept_new3 hk HO.out (g2.trans (g3.trans ((Grows3.ofF k4).trans (hg5.trans (g6.trans hg7)))))).trans k8).trans k9
  generalize w8.alloc (.cells #[.int .i64 0, .int .i64 0, .int .i64 0, .int .i64 0, .int .i64 0] 31) = w9 at h9 hq9 hr9 K9 ⊢
  have y0 : w9.cell? ⟨q, 0, none⟩ = some (.int .i64 2) := by rw [cell_of_block hq9]; rfl
  have y4 : w9.cell? ⟨r, 4, none⟩ = some (.int .i64 0) := by rw [cell_of_block hr9]; rfl
  go_wp2_with fail
  refine (len_any h9).mono ?_
  rintro e w10 ⟨rfl, n10, rfl⟩
  rw [show (B3 0).length + (B3 1).length = 1 by decide]
  go_wp2_with fail
  refine (row_any (h9.keptF ((Kept.refl _ _).drewN n10)) 2 1 (by decide) (by decide)).mono ?_
  rintro e w11 ⟨p11, rfl, hf11⟩
  have k11 := hf11.k
  rw [show (B3 1).length = 1 by decide]
  clear hf11
  go_wp2_with fail
  refine (takes_any ⟨0, 0, 1, 5, 0⟩ 5 _).mono ?_
  rintro e w12 ⟨rfl, k12⟩
  rw [show takesB ⟨0, 0, 1, 5, 0⟩ 5 = true by decide]
  go_wp2_with fail
  refine (ahead_any ⟨9, 0, 1, 5, 0⟩ ⟨1, 0, 1, 4, 0⟩ _).mono ?_
  rintro e w13 ⟨rfl, k13⟩
  rw [show decide (cmpI ⟨9, 0, 1, 5, 0⟩ ⟨1, 0, 1, 4, 0⟩ < 0) = true by decide]
  go_wp2_with fail
  go_ret
  exact ⟨rfl, (((K9.drewN _).trans k11).trans k12).trans k13⟩
end Go.Proofs.Ytopfgcnehdjjpaa
