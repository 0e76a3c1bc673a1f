/- Alloc: the known case 8. -/
import Derived.Test.YtgbdnodkbdkaeaaAx
namespace Go.Proofs.Ytgbdnodkbdkaeaa
open Go Go.RowKit

def two : List Lg := [⟨1, 1, 1⟩, ⟨2, -1, 1⟩]
def ones (n : Nat) : List Tb := List.replicate n [(1, 1)]
theorem two_at {w : World} {b : Nat} (h : w.heap[b]? = some (.cells #[.int .i64 1, .int .i64 1, .int .i64 1, .int .i64 2, .int .i64 (-1), .int .i64 1] 43 (0, 0))) : LgAt w b 0 two := fun j hj => by
  have h2 : j = 0 ∨ j = 1 := by simp [two] at hj; omega
  rcases h2 with rfl | rfl <;> (refine ⟨?_, ?_, ?_⟩ <;> (rw [cell_of_block h]; rfl))
def tpC (t : Tp) : List Value := [.int .i64 t.bid, .int .i64 t.bq, .int .i64 t.ask, .int .i64 t.aq, .bool t.bc, .bool t.ac]
theorem tops_at {w : World} {b : Nat} (t u : Tp) (h : w.heap[b]? = some (.cells #[.int .i64 t.bid, .int .i64 t.bq, .int .i64 t.ask, .int .i64 t.aq, .bool t.bc, .bool t.ac, .int .i64 u.bid, .int .i64 u.bq, .int .i64 u.ask, .int .i64 u.aq, .bool u.bc, .bool u.ac] 45 (0, 0))) : TpAt w b 0 [t, u] := fun j hj => by
  have h2 : j = 0 ∨ j = 1 := by simp at hj; omega
  rcases h2 with rfl | rfl <;> (refine ⟨?_, ?_, ?_, ?_, ?_, ?_⟩ <;> (rw [cell_of_block h]; rfl))
theorem one_at {w : World} {b : Nat} (h : w.heap[b]? = some (.cells #[.int .i64 1, .int .i64 1] 47 (0, 0))) : StAt w b 0 [(1, 1)] := fun j hj => by
  obtain rfl : j = 0 := by simp at hj; omega
  exact ⟨by rw [cell_of_block h]; rfl, by rw [cell_of_block h]; rfl⟩
theorem ones_at {w : World} {b b1 b2 : Nat} (h1 : w.heap[b1]? = some (.cells #[.int .i64 1, .int .i64 1] 47 (0, 0))) (h2 : w.heap[b2]? = some (.cells #[.int .i64 1, .int .i64 1] 47 (0, 0)))
    (h : w.heap[b]? = some (.cells #[.slice (some ⟨b1, 0, none⟩) 1 1, .slice (some ⟨b2, 0, none⟩) 1 1] 49 (0, 0))) : TbAt w b 0 (ones 2) := fun j hj => by
  have h3 : j = 0 ∨ j = 1 := by simp [ones] at hj; omega
  rcases h3 with rfl | rfl
  · exact ⟨b1, 0, 1, by rw [cell_of_block h]; rfl, lt_of_block h1, one_at h1⟩
  · exact ⟨b2, 0, 1, by rw [cell_of_block h]; rfl, lt_of_block h2, one_at h2⟩
theorem goodT_one : GoodT [(1, 1)] := by
  refine ⟨⟨by simp, by simp⟩, rfl, fun j hj => ?_⟩
  have h : j = 0 := by simp at hj; omega
  subst h
  exact ⟨by decide, by decide, by decide, by decide⟩
theorem gen5 {Φ : World → Prop} {w : World} {o0 o1 o2 o3 o4 : Obj} (h : ∀ W : World, W.heap[w.heap.size]? = some o0 → W.heap[w.heap.size + 1]? = some o1 → W.heap[w.heap.size + 1 + 1]? = some o2 → W.heap[w.heap.size + 1 + 1 + 1]? = some o3 → W.heap[w.heap.size + 1 + 1 + 1 + 1]? = some o4 → Kept (fun _ => False) w W → Φ W) :
    Φ (((((w.alloc o0).alloc o1).alloc o2).alloc o3).alloc o4) := by
  have n1 : (w.alloc o0).heap.size = w.heap.size + 1 := by simp
  have n2 : ((w.alloc o0).alloc o1).heap.size = w.heap.size + 1 + 1 := by simp
  have n3 : (((w.alloc o0).alloc o1).alloc o2).heap.size = w.heap.size + 1 + 1 + 1 := by simp
  have n4 : ((((w.alloc o0).alloc o1).alloc o2).alloc o3).heap.size = w.heap.size + 1 + 1 + 1 + 1 := by simp
  refine h _ ?_ ?_ ?_ ?_ ?_ (((((Kept.refl _ w).alloc _).alloc _).alloc _).alloc _ |>.alloc _)
  · exact block_alloc (block_alloc (block_alloc (block_alloc (block_new3 _ _))))
  · rw [← n1]; exact block_alloc (block_alloc (block_alloc (block_new3 _ _)))
  · rw [← n2]; exact block_alloc (block_alloc (block_new3 _ _))
  · rw [← n3]; exact block_alloc (block_new3 _ _)
  · rw [← n4]; exact block_new3 _ _
theorem ones_get (n j : Nat) (h : j < n) : tbAt (ones n) j = [(1, 1)] := by simp [tbAt, ones, List.getD_eq_getElem?_getD, h]
theorem ones_len (n : Nat) : (ones n).length = n := by simp [ones]
theorem good_ones (n : Nat) : GoodG (ones n) := fun j hj => by rw [ones_get n j (by rwa [ones_len] at hj)]; exact goodT_one
def kt : List Tp := [⟨10, 1, 13, 1, false, false⟩, ⟨5, 1, 8, 1, true, false⟩]
theorem k7 : pricesP two kt (ones 2) 7 = some [13, 6] := by decide +kernel
theorem k8 : pricesP two kt (ones 2) 8 = none := by decide +kernel
theorem kr : rightB two kt (ones 2) 7 [13, 6] = true := by decide +kernel
theorem PsS.at {w : World} {a : Option Addr} {ps : List Int} (h : PsS w a ps) (hn : 1 ≤ ps.length) : ∃ b off, a = some ⟨b, off, none⟩ ∧ PsAt w b off ps := by
  rcases h with rfl | h
  · simp at hn
  · exact h
set_option maxRecDepth 100000 in
set_option maxHeartbeats 2000000 in
theorem known_any (w : World) : Calls Try.prog 8 #[] w (BlPost true w) := by
  go_enter Try.func8, Try.ntmps8
  go_upto_region 4 with fail
  refine gen5 (Φ := fun W => Code.wp _ _ _ _ W) ?_
  intro W h0 h1 h2 h3 h4 hk
  generalize w.heap.size = q at h0 h1 h2 h3 h4 ⊢
  have hl := two_at h0
  have ht := tops_at ⟨10, 1, 13, 1, false, false⟩ ⟨5, 1, 8, 1, true, false⟩ h1
  have hg := ones_at h2 h3 h4
  have hp7 := prices_all (la := some ⟨q, 0, none⟩) (ta := some ⟨q + 1, 0, none⟩) (ga := some ⟨q + 1 + 1 + 1 + 1, 0, none⟩) (lc := 2) (tc := 2) (gc := 2) (ls := two) (ts := kt) (gs := ones 2) 7 (by unfold I64; omega) (by decide) (by decide) (by decide) (by decide) (good_ones 2) (.inr ⟨q, 0, rfl, hl⟩) (.inr ⟨_, 0, rfl, ht⟩) (.inr ⟨_, 0, rfl, hg⟩)
  rw [k7] at hp7
  have Hp7 : Hid (Calls Try.prog 11 #[.slice (some ⟨q, 0, none⟩) 2 2, .slice (some ⟨q + 1, 0, none⟩) 2 2, .slice (some ⟨q + 1 + 1 + 1 + 1, 0, none⟩) 2 2, .int .i64 7] W (PrPost (some [13, 6]) W)) := hp7
  have Hl := Lib.hid hl
  have Ht : Hid (TpAt W (q + 1) 0 kt) := ht
  have Hg := Lib.hid hg
  clear hp7 hl ht hg h0 h1 h2 h3 h4
  go_wp2_with fail
  refine Hp7.out.mono ?_
  rintro e w1 ⟨k1, ⟨h, _⟩ | ⟨l, a, hla, rfl, hsl⟩⟩
  · cases h
  obtain rfl : [13, 6] = l := by simpa using hla
  obtain ⟨pb, po, rfl, hps⟩ := hsl.ps.at (by decide)
  have hk1 := hk.trans k1
  have hp8 := prices_all (w := w1) (la := some ⟨q, 0, none⟩) (ta := some ⟨q + 1, 0, none⟩) (ga := some ⟨q + 1 + 1 + 1 + 1, 0, none⟩) (lc := 2) (tc := 2) (gc := 2) (ls := two) (ts := kt) (gs := ones 2) 8 (by unfold I64; omega) (by decide) (by decide) (by decide) (by decide) (good_ones 2) (.inr ⟨q, 0, rfl, Hl.out.kept k1⟩) (.inr ⟨_, 0, rfl, Ht.out.kept k1⟩) (.inr ⟨_, 0, rfl, Hg.out.kept k1⟩)
  rw [k8] at hp8
  have Hp8 : Hid (Calls Try.prog 11 #[.slice (some ⟨q, 0, none⟩) 2 2, .slice (some ⟨q + 1, 0, none⟩) 2 2, .slice (some ⟨q + 1 + 1 + 1 + 1, 0, none⟩) 2 2, .int .i64 8] w1 (PrPost none w1)) := hp8
  have Hps := Lib.hid hps
  have K1 := Lib.hid k1
  clear hp8 hla hsl hps Hp7 hk k1
  go_wp2_with fail
  refine Hp8.out.mono ?_
  rintro e w2 ⟨k2, ⟨_, rfl⟩ | ⟨l, a, h, _⟩⟩
  rotate_left
  · cases h
  have hk2 := hk1.trans k2
  have hps2 := Hps.out.kept k2
  have p0 : w2.cell? ⟨pb, po, none⟩ = some (.int .i64 13) := hps2 0 (by decide)
  have p1 : w2.cell? ⟨pb, po + 1, none⟩ = some (.int .i64 6) := hps2 1 (by decide)
  have hr := right_any (lc := 2) (tc := 2) (gc := 2) (pc := 2) (ls := two) (ts := kt) (gs := ones 2) (ps := [13, 6]) 7 (by decide) (by decide) rfl rfl rfl (by decide) (good_ones 2) (Hl.out.kept (K1.out.trans k2)) (Ht.out.kept (K1.out.trans k2)) (Hg.out.kept (K1.out.trans k2)) hps2
  rw [kr] at hr
  have Hr : Hid (Calls Try.prog 15 #[.slice (some ⟨q, 0, none⟩) 2 2, .slice (some ⟨q + 1, 0, none⟩) 2 2, .slice (some ⟨q + 1 + 1 + 1 + 1, 0, none⟩) 2 2, .int .i64 7, .slice (some ⟨pb, po, none⟩) 2 2] w2 (BlPost true w2)) := hr
  clear hr hps2 Hp8 Hps k2 hk1 Hl Ht Hg K1
  go_wp2_with fail
  refine Hr.out.mono ?_
  rintro e w3 ⟨rfl, k3⟩
  have hk3 := hk2.trans k3
  go_wp2
  go_ret
  exact ⟨rfl, hk3⟩
end Go.Proofs.Ytgbdnodkbdkaeaa
