/- Alloc: tables that come in, opened: a slice of slices of steps; how long they may be. -/
import Derived.Test.YtgbdnodkbdkaeaaBa
import Derived.OpenShut
import Derived.SizedLaws
namespace Go.Proofs.Ytgbdnodkbdkaeaa
open Go Go.RowKit

theorem weights_all {H : Type} {P : Program} {e : TypeId} {k : Nat} : ∀ {l : List (DataW H)} {d : DataW H}, d ∈ l → k ∈ d.weights P e → k ∈ DataW.weightsAll P e l
  | [], _, h, _ => by cases h
  | d0 :: l, d, h, hk => by
    simp only [DataW.weightsAll, List.mem_append]
    rcases List.mem_cons.1 h with rfl | h
    · exact .inl hk
    · exact .inr (weights_all h hk)
theorem slice_weight {H : Type} {enc : TypeId × Value → H} {P : Program} {w : World} {base fuel : Nat} {spare : Nat → Bool} {held : Bool} {t e : TypeId} {cs : List Value} {x : DataW H × List MemPlace} {a : Addr} {len cap R : Nat} (ht : P.underlying t = some (.slice e)) (h : DataW.trod enc P w base spare held fuel t cs = some x)
    (hcs : cs = [.slice (some a) len cap]) (hw : ∀ k ∈ x.1.weights P t, k ≤ R) : len * P.bytesOf e ≤ R := by
  rcases Deep.open_slice ht h with ⟨h0, _⟩ | ⟨a', len', cap', m, n, D, Pl, h1, _, hl, hm, hmm, hx, _⟩
  · rw [hcs] at h0; simp at h0
  · rw [hcs] at h1
    simp at h1
    obtain ⟨_, rfl, _⟩ := h1
    subst hx
    have := hw ((len + (m - len)) * P.bytesOf e) (by simp [DataW.weights, ht])
    exact Nat.le_trans (Nat.mul_le_mul_right _ (by omega)) this
/-- A slice of slices, opened at each index. -/
theorem open_sls {H : Type} {enc : TypeId × Value → H} {P : Program} {w : World} {base fuel : Nat} {spare : Nat → Bool} {held : Bool} {t e : TypeId} {cs : List Value} {x : DataW H × List MemPlace} {R : Nat} (ht : P.underlying t = some (.slice e)) (hC : P.cellsOf e = 1) (h : DataW.trod enc P w base spare held fuel t cs = some x) (hw : ∀ k ∈ x.1.weights P t, k ≤ R) :
    cs = [.slice none 0 0] ∨ ∃ (a : Addr) (len cap : Nat), cs = [.slice (some a) len cap] ∧ len ≤ cap ∧ cap ≤ maxLen ∧
      ∀ i, i < len → ∃ (v : Value) (y : DataW H × List MemPlace) (n : Nat), w.cell? (a.add i) = some v ∧ DataW.trod enc P w base spare held n e [v] = some y ∧ ∀ k ∈ y.1.weights P e, k ≤ R := by
  rcases Deep.open_slice ht h with ⟨h0, _⟩ | ⟨a, len, cap, m, n, D, Pl, hcs, _, hl, hm, hmm, hx, hi⟩
  · exact .inl h0
  · refine .inr ⟨a, len, cap, hcs, hl, hm, fun i hil => ?_⟩
    have him : i < m := by rw [hmm]; split <;> omega
    obtain ⟨cs', hc, ht'⟩ := hi i him
    rw [hC] at hc
    obtain ⟨_, hcl, hat⟩ := World.cells?_some hc
    have hcell := hat 0 (by omega)
    obtain ⟨v, l, rfl, hl2⟩ : ∃ v l, cs' = v :: l ∧ l.length = 0 := by
      cases cs' with
      | nil => simp at hcl
      | cons v l => exact ⟨v, l, rfl, by simpa using hcl⟩
    obtain rfl := List.eq_nil_of_length_eq_zero hl2
    refine ⟨v, _, n, ?_, ht', fun k hk => hw k ?_⟩
    · have h5 : (a.add (i * 1)).add 0 = a.add i := by rw [Nat.mul_one, Deep.add_add]; rfl
      rw [h5] at hcell
      simpa using hcell
    · subst hx
      simp only [DataW.weights, ht, List.mem_cons, List.mem_append]
      exact .inr (.inl (weights_all (List.mem_map.2 ⟨i, List.mem_range.2 hil, rfl⟩) hk))
def StS (w : World) (a : Option Addr) (xs : Tb) : Prop := xs = [] ∨ ∃ b o, a = some ⟨b, o, none⟩ ∧ StAt w b o xs ∧ b < w.heap.size
theorem StS.kept {A B : World} {a : Option Addr} {xs : Tb} (h : Kept (fun _ => False) A B) (hs : StS A a xs) : StS B a xs := by
  rcases hs with h1 | ⟨b, o, h1, h2, h3⟩
  · exact .inl h1
  · exact .inr ⟨b, o, h1, h2.kept h3 h, Nat.lt_of_lt_of_le h3 h.size⟩
def TaAt (w : World) (b off : Nat) (gs : List Tb) : Prop := ∀ j, j < gs.length → ∃ a1 c1, w.cell? ⟨b, off + j, none⟩ = some (.slice a1 (tbAt gs j).length c1) ∧ (tbAt gs j).length * 16 ≤ reachBytes ∧ StS w a1 (tbAt gs j)
theorem TaAt.kept {A B : World} {b off : Nat} {gs : List Tb} (h : Kept (fun _ => False) A B) (hs : TaAt A b off gs) : TaAt B b off gs := fun j hj => by
  obtain ⟨a1, c1, h1, h2, h3⟩ := hs j hj
  exact ⟨a1, c1, cell_kept2 h h1, h2, h3.kept h⟩
def TaS (w : World) (a : Option Addr) (gs : List Tb) : Prop := gs = [] ∨ ∃ b off, a = some ⟨b, off, none⟩ ∧ TaAt w b off gs
theorem TaS.kept {A B : World} {a : Option Addr} {gs : List Tb} (h : Kept (fun _ => False) A B) (hs : TaS A a gs) : TaS B a gs := by
  rcases hs with h1 | ⟨b, off, h1, h2⟩
  · exact .inl h1
  · exact .inr ⟨b, off, h1, h2.kept h⟩
set_option maxRecDepth 100000 in
theorem open_tab {H : Type} {enc : TypeId × Value → H} {w : World} {base n : Nat} {spare : Nat → Bool} {held : Bool} {v : Value} {y : DataW H × List MemPlace} (hf : DataW.trod enc Try.prog w base spare held n 49 [v] = some y) (hw : ∀ k ∈ y.1.weights Try.prog 49, k ≤ reachBytes) :
    ∃ (xs : Tb) (a : Option Addr) (c : Nat), v = .slice a xs.length c ∧ xs.length * 16 ≤ reachBytes ∧ StS w a xs := by
  have hone : Deep.oneCellFields Try.prog _ = true := (by kernel_rfl : Deep.oneCellFields Try.prog #[{ name := "From", type := 2, offset := 0, embedded := false, tag := "", pkgPath := "", byteOffset := 0 }, { name := "By", type := 2, offset := 1, embedded := false, tag := "", pkgPath := "", byteOffset := 8 }] = true)
  have hC : Try.prog.cellsOf 47 = 2 := by kernel_rfl
  have hB : Try.prog.bytesOf 47 = 16 := by kernel_rfl
  rcases open_recs Try.underlying49 Try.underlying47 hone hC hf with hcs | ⟨x, len, cap, hcs, hl, hm, hat⟩
  · obtain rfl : v = .slice none 0 0 := by simpa using hcs
    exact ⟨[], none, 0, rfl, by simp, .inl rfl⟩
  · have hwt := slice_weight Try.underlying49 hf hcs hw
    rw [hB] at hwt
    obtain rfl : v = .slice (some x) len cap := by simpa using hcs
    have c0 : ∀ i, i < len → ∃ z : Int, w.cell? (x.add (i * 2 + 0)) = some (.int .i64 z) := fun i hi => by
      obtain ⟨v, y, n, hc, hy⟩ := hat i hi 0 _ rfl
      obtain ⟨z, hz, _⟩ := DataW.trod_int Try.underlying2 hy
      obtain rfl : v = .int .i64 z := by simpa using hz
      exact ⟨z, hc⟩
    have c1 : ∀ i, i < len → ∃ z : Int, w.cell? (x.add (i * 2 + 1)) = some (.int .i64 z) := fun i hi => by
      obtain ⟨v, y, n, hc, hy⟩ := hat i hi 1 _ rfl
      obtain ⟨z, hz, _⟩ := DataW.trod_int Try.underlying2 hy
      obtain rfl : v = .int .i64 z := by simpa using hz
      exact ⟨z, hc⟩
    refine ⟨(List.range len).map fun i => if hi : i < len then ((c0 i hi).choose, (c1 i hi).choose) else (0, 0), some x, cap, by simp, by simpa using hwt, ?_⟩
    rcases Nat.eq_zero_or_pos len with rfl | hpos
    · exact .inl rfl
    have h0 := (c0 0 hpos).choose_spec
    obtain ⟨h2, h3⟩ := plain_of_cell (a := x) (by simpa using h0)
    have hx : ∀ j, x.add j = ⟨x.block, x.off + j, none⟩ := fun j => by rw [h2]; exact addr_add _ _ _
    refine .inr ⟨x.block, x.off, by rw [← h2], fun i hi => ?_, h3⟩
    replace hi : i < len := by simpa using hi
    have hget : ((List.range len).map fun i => if hi : i < len then ((c0 i hi).choose, (c1 i hi).choose) else (0, 0)).getD i (0, 0) = ((c0 i hi).choose, (c1 i hi).choose) := by
      simp [List.getD_eq_getElem?_getD, hi]
    rw [hget]
    exact ⟨(congrArg w.cell? (hx (i * 2 + 0))).symm.trans (c0 i hi).choose_spec, (congrArg w.cell? (hx (i * 2 + 1))).symm.trans (c1 i hi).choose_spec⟩
set_option maxRecDepth 100000 in
theorem open_tabs {H : Type} {enc : TypeId × Value → H} {w : World} {base b0 : Nat} {spare : Nat → Bool} {held : Bool} {r : Reach} {v : Value} {d : DataW H} {p : List MemPlace} (hv : Value.okWide Try.prog w r b0 24 v) (h : DataW.Trod enc Try.prog w base spare held 24 v d p) (hw : ∀ k ∈ d.weights Try.prog 24, k ≤ reachBytes) :
    ∃ (a : Option Addr) (len cap : Nat), v = .slice a len cap ∧ (len ≤ maxLen ∧ len ≤ cap ∧ len * 24 ≤ reachBytes) ∧ ∃ gs : List Tb, gs.length = len ∧ TaS w a gs := by
  obtain ⟨a, len, cap, rfl⟩ := WideShapes.okWide_slice Try.underlying24 hv
  obtain ⟨fuel, hf⟩ := h
  have hC : Try.prog.cellsOf 49 = 1 := by kernel_rfl
  have hB : Try.prog.bytesOf 49 = 24 := by kernel_rfl
  rcases open_sls Try.underlying24 hC hf hw with hcs | ⟨x, l, c, hcs, hl, hm, hat⟩
  · simp [Value.cells] at hcs
    obtain ⟨rfl, rfl, rfl⟩ := hcs
    exact ⟨none, 0, 0, rfl, ⟨by unfold maxLen; omega, Nat.le_refl _, by simp⟩, [], rfl, .inl rfl⟩
  · have hwt := slice_weight Try.underlying24 hf hcs hw
    rw [hB] at hwt
    simp [Value.cells] at hcs
    obtain ⟨rfl, rfl, rfl⟩ := hcs
    have he : ∀ i, i < len → ∃ (xs : Tb) (a : Option Addr) (c : Nat), w.cell? (x.add i) = some (.slice a xs.length c) ∧ xs.length * 16 ≤ reachBytes ∧ StS w a xs := fun i hi => by
      obtain ⟨v, y, n, hc, hy, hyw⟩ := hat i hi
      obtain ⟨xs, a, c, rfl, h1, h2⟩ := open_tab hy hyw
      exact ⟨xs, a, c, hc, h1, h2⟩
    refine ⟨some x, len, cap, rfl, ⟨Nat.le_trans hl hm, hl, hwt⟩, (List.range len).map fun i => if hi : i < len then (he i hi).choose else [], by simp, ?_⟩
    rcases Nat.eq_zero_or_pos len with rfl | hpos
    · exact .inl rfl
    obtain ⟨a0, k0, h0, _⟩ := (he 0 hpos).choose_spec
    obtain ⟨h2, h3⟩ := plain_of_cell (a := x) h0
    have hx : ∀ j, x.add j = ⟨x.block, x.off + j, none⟩ := fun j => by rw [h2]; exact addr_add _ _ _
    refine .inr ⟨x.block, x.off, by rw [← h2], fun i hi => ?_⟩
    replace hi : i < len := by simpa using hi
    have hget : tbAt ((List.range len).map fun i => if hi : i < len then (he i hi).choose else []) i = (he i hi).choose := by
      simp [tbAt, List.getD_eq_getElem?_getD, hi]
    rw [hget]
    obtain ⟨a1, k1, g1, g2, g3⟩ := (he i hi).choose_spec
    exact ⟨a1, k1, (congrArg w.cell? (hx i)).symm.trans g1, g2, g3⟩
end Go.Proofs.Ytgbdnodkbdkaeaa
