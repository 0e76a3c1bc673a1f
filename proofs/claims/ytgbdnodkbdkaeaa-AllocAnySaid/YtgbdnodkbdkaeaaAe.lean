/- Alloc: a price's step in a table: Table.of (func 55), by the law of a range over a function. -/
import Derived.Test.YtgbdnodkbdkaeaaAd
namespace Go.Proofs.Ytgbdnodkbdkaeaa
open Go Go.RowKit Go.Shelf
attribute [local go_sem] Oper.semAt_some

/-- The last of the first r steps whose From is not above p. -/
def lastAt (xs : List (Int × Int)) (p : Int) : Nat → Int
  | 0 => -1
  | r + 1 => if (xs.getD r (0, 0)).1 ≤ p then (r : Int) else lastAt xs p r
theorem lastAt_skip (xs : List (Int × Int)) (p : Int) (r : Nat) : ∀ d, (∀ j, r ≤ j → j < r + d → p < (xs.getD j (0, 0)).1) → lastAt xs p (r + d) = lastAt xs p r
  | 0, _ => rfl
  | d + 1, h => by
    have h1 := h (r + d) (by omega) (by omega)
    show (if (xs.getD (r + d) (0, 0)).1 ≤ p then _ else lastAt xs p (r + d)) = _
    rw [if_neg (by omega)]
    exact lastAt_skip xs p r d fun j a b => h j a (by omega)
theorem mem_come {xs : List (Int × Int)} {r j : Nat} (h1 : r ≤ j) (h2 : j < xs.length) : (j, xs.getD j (0, 0)) ∈ come xs r := by
  simp only [come, List.mem_map, List.mem_range]
  exact ⟨xs.length - 1 - j, by omega, by rw [show xs.length - 1 - (xs.length - 1 - j) = j by omega]⟩
theorem lastAt_come {xs : List (Int × Int)} {p : Int} {r : Nat} (hr : r ≤ xs.length) (h : ∀ q ∈ come xs r, p < q.2.1) : lastAt xs p xs.length = lastAt xs p r := by
  have := lastAt_skip xs p r (xs.length - r) fun j a b => h _ (mem_come a (by omega))
  rwa [show r + (xs.length - r) = xs.length by omega] at this

theorem block_new2 (w : World) (o : Obj) : (w.alloc o).heap[w.heap.size]? = some o := by
  show (w.heap.push o)[w.heap.size]? = _
  simp
theorem backward_in (F : Fence) (n : Nat) (h62 : F.fn 62) (hro : F.round = none) (a : Option Addr) (len cap : Nat) (w : World) :
    CallsIn F n Try.prog 62 #[.slice a len cap] w fun e w' => e = .returned (.func (.func 64) #[] #[.pointer (some ⟨w.heap.size, 0, none⟩)]) ∧ w' = w.alloc (.cells #[.slice a len cap] 49) := by
  refine callsIn_of_wp Try.func62 rfl h62 ?_ hro
  simp only [Try.ntmps62, List.size_toArray, List.length_cons, List.length_nil, Nat.reduceAdd, Nat.reduceSub, Array.replicate_succ, Array.replicate_zero, List.push_toArray, List.append_toArray, List.nil_append, List.cons_append]
  gi_wp2
  go_ret
  exact ⟨rfl, rfl⟩

theorem StAt.below {n₀ : Nat} {A B : World} {b off : Nat} {xs : List (Int × Int)} (hb : b < n₀) (h : Below n₀ A B) (hs : StAt A b off xs) : StAt B b off xs := fun j hj =>
  ⟨(h.cell (p := ⟨b, off + j * 2, none⟩) hb).trans (hs j hj).1, (h.cell (p := ⟨b, off + j * 2 + 1, none⟩) hb).trans (hs j hj).2⟩
theorem back_stops (F : Fence) (n : Nat) (h64 : F.fn 64) (hro : F.round = none) (hn : 1 ≤ n) (Bs n₀ b off cap : Nat) (xs : List (Int × Int)) (hreach : (xs.length : Int) ≤ 1000) (w : World) (hBs : Bs < w.heap.size) (hn₀ : n₀ = w.heap.size) (hb : b < n₀)
    (hc : w.cell? ⟨Bs, 0, none⟩ = some (.slice (some ⟨b, off, none⟩) xs.length cap)) (hI : StAt w b off xs) :
    SeqStopsK F n Try.prog 64 #[.pointer (some ⟨Bs, 0, none⟩)] (fun x : Nat × Int × Int => #[.int .i64 (x.1 : Int), .agg #[.int .i64 x.2.1, .int .i64 x.2.2]]) (Below n₀) (fun ys => ys = come xs 0)
      (fun pre => ∃ r, r ≤ xs.length ∧ pre = come xs r) xs.length w := fun l J Jx W hW _ _ hY h0 => by
  have hc' := (hW.cell (p := ⟨Bs, 0, none⟩) hBs).trans hc
  subst hn₀
  exact back1_in F n h64 hro hn l Bs _ b off xs.length cap xs rfl hreach hb J Jx hY W hc' hBs (hI.below hb hW) h0

set_option maxRecDepth 100000 in
set_option maxHeartbeats 4000000 in
theorem of_in (F : Fence) (n : Nat) (h55 : F.fn 55) (h62 : F.fn 62) (h64 : F.fn 64) (hro : F.round = none) (hn : 3 ≤ n) (b off cap : Nat) (xs : List (Int × Int)) (p : Int) (hreach : (xs.length : Int) ≤ 1000) (w : World) (hb : b < w.heap.size) (hI : StAt w b off xs) :
    CallsIn F n Try.prog 55 #[.slice (some ⟨b, off, none⟩) xs.length cap, .int .i64 p] w fun e W' => e = .returned (.int .i64 (lastAt xs p xs.length)) ∧ Below w.heap.size w W' := by
  have h1 : 1 ≤ n := by omega
  obtain ⟨len, hlen⟩ : ∃ len, xs.length = len := ⟨_, rfl⟩
  rw [hlen]
  refine callsIn_of_wp_marks Try.func55 rfl h55 ?_ hro
  simp only [Try.ntmps55, List.size_toArray, List.length_cons, List.length_nil, Nat.reduceAdd, Nat.reduceSub, Array.replicate_succ, Array.replicate_zero, List.push_toArray, List.append_toArray, List.nil_append, List.cons_append]
  gi_wp2_with (gi_at_call 62; refine (backward_in F (n - 1) h62 hro _ _ _ _).mono ?_; rintro e w' ⟨rfl, rfl⟩)
  have bP := ((Boxed.new w 2 (.int .i64 p)).alloc (.cells #[.int .i64 0] 3)).alloc (.cells #[.slice (some ⟨b, off, none⟩) len cap] 49)
  have bR := (Boxed.new (w.alloc (.cells #[.int .i64 p] 2)) 3 (.int .i64 0)).alloc (.cells #[.slice (some ⟨b, off, none⟩) len cap] 49)
  have bS := Boxed.new ((w.alloc (.cells #[.int .i64 p] 2)).alloc (.cells #[.int .i64 0] 3)) 49 (.slice (some ⟨b, off, none⟩) len cap)
  simp only [World.size_alloc] at bR bS
  have hB0 : Below w.heap.size w (((w.alloc (.cells #[.int .i64 p] 2)).alloc (.cells #[.int .i64 0] 3)).alloc (.cells #[.slice (some ⟨b, off, none⟩) len cap] 49)) := (((Below.refl _ w).alloc (Nat.le_refl _) _).alloc (by simp) _).alloc (by simp; omega) _
  have hsz : (((w.alloc (.cells #[.int .i64 p] 2)).alloc (.cells #[.int .i64 0] 3)).alloc (.cells #[.slice (some ⟨b, off, none⟩) len cap] 49)).heap.size = w.heap.size + 3 := by simp
  obtain ⟨W0, hW0⟩ : ∃ W0, ((w.alloc (.cells #[.int .i64 p] 2)).alloc (.cells #[.int .i64 0] 3)).alloc (.cells #[.slice (some ⟨b, off, none⟩) len cap] 49) = W0 := ⟨_, rfl⟩
  rw [hW0] at bP bR bS hB0 hsz ⊢
  clear hW0
  refine wpIn_rangeFunc_ownH hro h1 (gf := 64) (lb := #[.pointer (some ⟨w.heap.size + 1 + 1, 0, none⟩)]) rfl h64 (enters_of Try.func64 (by kernel_rfl) rfl)
    (back_stops F (n - 1) h64 hro (by omega) (w.heap.size + 1 + 1) W0.heap.size b off cap xs hreach W0 (by omega) rfl (by omega) (by rw [hlen]; exact bS.cell) (hI.below hb hB0)) belowK_t (belowK_b (Nat.le_refl _)) (Below.refl _ _) (fun _ => rfl)
    (fun pre W => ((∀ q ∈ pre, p < q.2.1) ∧ (Boxed W w.heap.size 2 (.int .i64 p) ∧ Boxed W (w.heap.size + 1) 3 (.int .i64 0) ∧ Boxed W (w.heap.size + 1 + 1) 49 (.slice (some ⟨b, off, none⟩) len cap))) ∧ Below w.heap.size w W)
    (fun c pre W => (c = .ret ∧ ∃ ini last, pre = ini ++ [last] ∧ (∀ q ∈ ini, p < q.2.1) ∧ last.2.1 ≤ p ∧ W.cell? ⟨w.heap.size + 1, 0, none⟩ = some (.int .i64 (last.1 : Int))) ∧ Below w.heap.size w W)
    (OwnFrom.and (Own.from (fun s A B row hs hg hr => ⟨hs.1, boxed_own _ _ (fun (_ : List (Nat × Int × Int)) => Value.int .i64 p) s A B row hs.2.1 hg hr, boxed_own _ _ (fun (_ : List (Nat × Int × Int)) => Value.int .i64 0) s A B row hs.2.2.1 hg hr, boxed_own _ _ (fun (_ : List (Nat × Int × Int)) => Value.slice (some ⟨b, off, none⟩) len cap) s A B row hs.2.2.2 hg hr⟩) _) (ownFrom_below (Nat.le_refl _) (by omega)))
    (fun c => OwnFrom.and (Own.from (fun s A B row hs hg hr => by obtain ⟨hc, ini, last, e1, e2, e3, e4⟩ := hs; exact ⟨hc, ini, last, e1, e2, e3, cell_kept e4 hg hr⟩) _) (ownFrom_below (Nat.le_refl _) (by omega)))
    ⟨⟨by simp, bP, bR, bS⟩, hB0⟩
    (fun x a' W => ∃ Bx, w.heap.size + 2 < Bx ∧ W.cell? ⟨Bx, 0, none⟩ = some (.int .i64 x.2.1) ∧ a' = { tmps := #[.slice (some ⟨b, off, none⟩) len cap, .int .i64 p, undef, .pointer (some ⟨w.heap.size, 0, none⟩), .pointer (some ⟨w.heap.size + 1, 0, none⟩), .int .i64 (x.1 : Int), .pointer (some ⟨Bx, 0, none⟩), .slice (some ⟨b, off, none⟩) len cap, .func (.func 64) #[] #[.pointer (some ⟨w.heap.size + 1 + 1, 0, none⟩)], .int .i64 (x.1 : Int), .agg #[.int .i64 x.2.1, .int .i64 x.2.2], undef, undef, undef, undef, undef], defers := [] })
    (fun x a' _ X Y row hs hg hr => by obtain ⟨Bx, h1, h2, h3⟩ := hs; exact ⟨Bx, h1, cell_kept h2 hg (fun r e => (hr r e).2), h3⟩)
    ?assign ?body ?done ?stop
  case assign =>
    rintro l pre x W K ⟨⟨hp, bP1, bR1, bS1⟩, hB1⟩ hK
    have hlt := bS1.lt
    gi_wp2
    exact hK _ _ ((KeepsOthers.alloc _ _).from _) ((Below.refl _ W).alloc (by omega) _) ⟨⟨hp, bP1.alloc _, bR1.alloc _, bS1.alloc _⟩, hB1.alloc hB1.size _⟩ ⟨W.heap.size, by omega, by rw [cell_of_block (block_new2 W _)]; rfl, rfl⟩
  case body =>
    rintro l pre x a' W hl ⟨r, hr⟩ ⟨⟨hp, bP1, bR1, bS1⟩, hB1⟩ ⟨Bx, hBx, cX, rfl⟩ hlt
    have cP := bP1.cell
    have cR := bR1.cell
    have fR := bR1.frozen
    by_cases hx : x.2.1 ≤ p
    · gi_wp2
      exact ⟨(KeepsOthers.setCell _ _ _).from _, ⟨rfl, pre, x, rfl, hp, hx, World.cell?_setCell_same' _ _ _ (by rw [cR]; rfl)⟩, hB1.setCell (p := ⟨w.heap.size + 1, 0, none⟩) (by show w.heap.size ≤ w.heap.size + 1; omega) _⟩
    · have hx' : p < x.2.1 := by omega
      have hnew : Hid (∀ q ∈ pre ++ [x], p < q.2.1) := fun q hq => (List.mem_append.1 hq).elim (hp q) (fun e => by simp at e; subst e; exact hx')
      gi_wp2
      exact ⟨KeepsFrom.refl _ _, Below.refl _ _, ⟨⟨fun a b c h => hnew.out (a, b, c) (by first | exact h | simpa using h), bP1, bR1, bS1⟩, hB1⟩⟩
  case done =>
    rintro D ys W hD rfl ⟨⟨hne, bP1, bR1, bS1⟩, hB⟩ hK
    have cR := bR1.cell
    have fR := bR1.frozen
    have hE : Hid (lastAt xs p len = -1) := by show _ = _; rw [← hlen, lastAt_come (Nat.zero_le _) hne]; rfl
    gi_wp2
    have hK' := (KeepsOthers.setCell W ⟨w.heap.size + 1, 0, none⟩ (.int .i64 (-1))).same D _ hK rfl
    refine ⟨by simp, .inl ⟨_, _, rfl, run_takeDeferred hK', ?_⟩⟩
    have hc5 := cell_kept (World.cell?_setCell_same' W ⟨w.heap.size + 1, 0, none⟩ (.int .i64 (-1)) (by rw [cR]; rfl)) (grownBy_putObj' _ D (.deferred none)) (fun r e => by cases e; exact ⟨_, hK', rfl⟩)
    refine ⟨.int .i64 (-1), ?_, by rw [hE.out], (hB.setCell (p := ⟨w.heap.size + 1, 0, none⟩) (by show w.heap.size ≤ w.heap.size + 1; omega) _).trans (belowK_b (w := w) (Nat.le_refl _) _ D _ _ (by omega) hK' rfl rfl)⟩
    simp [results, Try.f55, go_sem, hc5]
  case stop =>
    rintro D c pre W hD ⟨r, hr, rfl⟩ ⟨⟨rfl, ini, last, e1, e2, e3, hcr⟩, hB⟩ hK
    have hrl : r < xs.length := by
      rcases Nat.lt_or_ge r xs.length with h | h
      · exact h
      · exfalso
        have h0 : (come xs r).length = 0 := by rw [come_length]; omega
        rw [e1] at h0; simp at h0
    rw [come_succ xs hrl] at e1
    obtain ⟨rfl, e5⟩ := List.append_inj' e1 rfl
    obtain rfl : (r, xs.getD r (0, 0)) = last := by simpa using e5
    have hE : Hid (lastAt xs p len = (r : Int)) := by
      show _ = _
      rw [← hlen, lastAt_come (Nat.succ_le_of_lt hrl) e2]
      exact if_pos e3
    clear e1 e2 e3 e5
    gi_wp2
    refine ⟨by simp, .inl ⟨_, _, rfl, run_takeDeferred hK, ?_⟩⟩
    have hc5 := cell_kept hcr (grownBy_putObj' _ D (.deferred none)) (fun r e => by cases e; exact ⟨_, hK, rfl⟩)
    refine ⟨.int .i64 (r : Int), ?_, by rw [hE.out], hB.trans (belowK_b (w := w) (Nat.le_refl _) W D _ _ (by omega) hK rfl rfl)⟩
    simp [results, Try.f55, go_sem, hc5]
end Go.Proofs.Ytgbdnodkbdkaeaa
