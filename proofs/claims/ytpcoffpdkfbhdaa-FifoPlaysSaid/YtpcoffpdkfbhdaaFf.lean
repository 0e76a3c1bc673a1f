/- The walks of the arena: rows and cells are laid. -/
import Derived.Test.YtpcoffpdkfbhdaaFe
import Derived.Test.YtpcoffpdkfbhdaaShelf
import Derived.Laws.MakeOwn
namespace Go.Proofs.Ytpcoffpdkfbhdaa
open Go.RowKit

theorem mul_one (n : Nat) (hn : n ≤ 4096) (w : World) : Calls Try.prog 23 #[.int .u64 1, .int .u64 n] w fun e w' => w = w' ∧ e = .returned (.tuple #[.int .u64 0, .int .u64 n]) := by
  refine (Try.bits_Mul 1 n (by decide) (by omega) w).mono ?_
  rintro e w' ⟨rfl, rfl⟩
  refine ⟨rfl, ?_⟩
  rw [show 1 * n / 18446744073709551616 = 0 by omega, show 1 * n % 18446744073709551616 = n by omega]
  rfl

theorem Try.info52 : (Try.prog.info? 52).map (fun i => (i.zero, i.size, i.bytes)) = some (some (.agg #[.int .i64 0, .int .i64 0, .int .i64 0, .int .i64 0]), 4, 32) := by kernel_rfl
theorem Try.info56 : (Try.prog.info? 56).map (fun i => (i.zero, i.size, i.bytes)) = some (some (.agg #[.int .i64 0, .int .i64 0, .int .i64 0]), 3, 24) := by kernel_rfl

/-- The new row so far: the first m elements are laid. -/
def RepAt (g E sz n : Nat) (x : Nat → Value) (m : Nat) (w : World) : Prop := ∃ f, FlatAt w g E (n * sz) f ∧ ∀ j, j < m * sz → f j = x (j % sz)

theorem RepAt.cs {g E sz n m : Nat} {x : Nat → Value} {w : World} (h : RepAt g E sz n x m w) (c : Nat) (hc : c ≤ m) (hm : m ≤ n) (hsz : 0 < sz) :
    ∀ j v, ((List.range (c * sz)).map fun j => x (j % sz))[j]? = some v → w.cell? ((⟨g, 0, none⟩ : Addr).add j) = some v := by
  obtain ⟨f, hf, hx⟩ := h
  intro j v hj
  have hlt : j < c * sz := by
    have := (List.getElem?_eq_some_iff.1 hj).1; simpa using this
  have h1 : c * sz ≤ m * sz := Nat.mul_le_mul_right _ hc
  have h2 : m * sz ≤ n * sz := Nat.mul_le_mul_right _ hm
  rw [addr_add, Nat.zero_add, hf.cell (by omega), hx j (by omega)]
  simpa [hlt] using hj
theorem RepAt.step {g E sz n m c : Nat} {x : Nat → Value} {w : World} (hsz : 0 < sz) {f : Nat → Value} (hx : ∀ j, j < m * sz → f j = x (j % sz))
    (h : FlatAt w g E (n * sz) (fun j => if m * sz ≤ j ∧ j < m * sz + ((List.range (c * sz)).map fun j => x (j % sz)).length then ((List.range (c * sz)).map fun j => x (j % sz)).getD (j - m * sz) undef else f j)) :
    RepAt g E sz n x (m + c) w := by
  refine ⟨_, h, fun j hj => ?_⟩
  rw [Nat.add_mul] at hj
  by_cases e : m * sz ≤ j ∧ j < m * sz + ((List.range (c * sz)).map fun j => x (j % sz)).length
  · rw [if_pos e]
    simp at e
    have : j - m * sz < c * sz := by omega
    simp [List.getD, this]
    congr 1
    conv => rhs; rw [show j = (j - m * sz) + m * sz by omega]
    rw [Nat.add_mul_mod_self_right]
  · rw [if_neg e]
    simp at e
    exact hx j (by omega)

def repCPost (n : Nat) (x : Nat → Value) (w : World) (e : Ending) (w' : World) : Prop :=
  ∃ g, e = .returned (.slice (some ⟨g, 0, none⟩) n n) ∧ FlatAt w' g 52 (n * 4) (fun j => x (j % 4)) ∧ w.heap.size ≤ g ∧ Below w.heap.size w w'
def repCRel (n g : Nat) (x : Nat → Value) (w0 : World) (s8 : Value) (wr : World) : Prop :=
  ∃ m : Nat, 1 ≤ m ∧ m ≤ n ∧ s8 = .int .i64 m ∧ RepAt g 52 4 n x m wr ∧ Below w0.heap.size w0 wr
set_option maxHeartbeats 800000 in
set_option maxRecDepth 100000 in
theorem repC_any (xb n : Nat) (x : Nat → Value) (hx1 : ∀ j, (x j).oneCell' = true) (w : World) (hn : 1 ≤ n) (hn2 : n ≤ 4096) (hxb : xb < w.heap.size) (hx : FlatAt w xb 52 4 x) :
    Calls Try.prog 16 #[.slice (some ⟨xb, 0, none⟩) 1 1, .int .i64 n] w (repCPost n x w) := by
  obtain ⟨i0, hi0, hz0, hz1, hz2⟩ := info_parts Try.info52
  have hmk : (Instr.makeSlice 49 (.int .i64 n) (.int .i64 n)).run Try.prog w = .ok (.slice (some ⟨w.heap.size, 0, none⟩) n n) (w.alloc (.cells (madeCells #[Value.int .i64 0, .int .i64 0, .int .i64 0, .int .i64 0] (n * 4)) 52)) := by
    have := run_make (P := Try.prog) w 49 52 i0 _ Try.underlying49 hi0 hz0 .i64 .i64 n n (by omega) (by omega) (by rw [hz2]; omega) (by omega)
    rw [hz1] at this
    simpa [Value.cells] using this
  have hfl : FlatAt (w.alloc (.cells (madeCells #[Value.int .i64 0, .int .i64 0, .int .i64 0, .int .i64 0] (n * 4)) 52)) w.heap.size 52 (n * 4) (fun _ => .int .i64 0) := by
    refine ⟨_, block_alloc_new _ _, by simp [madeCells], fun j hj => ?_⟩
    have h4 : j % 4 < 4 := Nat.mod_lt _ (by decide)
    simp [madeCells, hj]
    generalize j % 4 = q at h4
    match q, h4 with
    | 0, _ | 1, _ | 2, _ | 3, _ => rfl
  have hxW : FlatAt (w.alloc (.cells (madeCells #[Value.int .i64 0, .int .i64 0, .int .i64 0, .int .i64 0] (n * 4)) 52)) xb 52 4 x := hx.kept (Below.heap_alloc _ _ _ hxb)
  have hbW : Below w.heap.size w (w.alloc (.cells (madeCells #[Value.int .i64 0, .int .i64 0, .int .i64 0, .int .i64 0] (n * 4)) 52)) := (Below.refl _ _).alloc (Nat.le_refl _) _
  have hmin : Nat.min 1 n = 1 := Nat.min_eq_left hn
  have Hmin := Lib.hid hmin
  clear hmin
  have hcs : ∀ j v, ((List.range (1 * 4)).map fun j => x (j % 4))[j]? = some v → (w.alloc (.cells (madeCells #[Value.int .i64 0, .int .i64 0, .int .i64 0, .int .i64 0] (n * 4)) 52)).cell? ((⟨xb, 0, none⟩ : Addr).add j) = some v := by
    intro j v hj
    have hlt : j < 4 := by have := (List.getElem?_eq_some_iff.1 hj).1; simpa using this
    rw [addr_add, Nat.zero_add, hxW.cell hlt]
    simpa [hlt, Nat.mod_eq_of_lt hlt] using hj
  have hcs1 : ∀ v ∈ (List.range (1 * 4)).map fun j => x (j % 4), v.oneCell' = true := by
    intro v hv
    obtain ⟨j, _, rfl⟩ := List.mem_map.1 hv
    exact hx1 _
  have Hcs := Lib.hid hcs
  have Hcs1 := Lib.hid hcs1
  clear hcs hcs1 hxW
  go_enter Try.func16, Try.ntmps16
  go_wp2_with fail
  refine (mul_one n hn2 w).mono ?_
  rintro e w' ⟨rfl, rfl⟩
  generalize hL : (List.range (1 * 4)).map (fun j => x (j % 4)) = L at Hcs Hcs1
  have HL := Lib.hid hL
  have hLl : L.length = 4 := by rw [← hL]; simp
  have HLl := Lib.hid hLl
  clear hL hLl
  go_wp2_with (with_reducible refine copy_here (.tmp 31) (.tmp 32) ?_; refine wpList_copy_flat rfl (.tmp 31) (.tmp 32) 49 49 rfl 52 i0 4 Try.underlying49 hi0 hz1 w.heap.size 0 n n ⟨xb, 0, none⟩ 1 1 rfl rfl (n * 4) 52 (fun _ => .int .i64 0) hfl L (by rw [Hmin.out, HLl.out]) Hcs.out (by rw [HLl.out]; omega) Hcs1.out ?_; intro w1 hf1 hk1; rw [Hmin.out])
  have hstart : repCRel n w.heap.size x w (.int .i64 1) w1 := by
    refine ⟨1, by omega, hn, rfl, ⟨_, hf1, fun j hj => ?_⟩, hbW.trans (hk1.below (by simp) fun k hk => by omega)⟩
    have : j < 4 := by omega
    rw [if_pos ⟨Nat.zero_le _, by rw [HLl.out]; omega⟩, ← HL.out]
    simp [List.getD, this, Nat.mod_eq_of_lt]
  clear hf1 hk1 hfl hbW hmk Hcs Hcs1 HL HLl Hmin
  generalize hg : w.heap.size = g at hstart
  have Hg := Lib.hid hg
  clear hg
  go_loopw [8] (fun s8 wr => repCRel n g x w s8 wr) (fun s8 _ => n - (intOf s8).toNat)
  case atStart => exact hstart
  case round =>
    obtain ⟨m, hm1, hmn, rfl, hrep, hbel⟩ := hrel
    clear hstart
    by_cases hlt : m < n
    · obtain ⟨c, hc⟩ : ∃ c, Nat.min m (n - m) = c := ⟨_, rfl⟩
      have hc1 : c ≤ m := hc ▸ Nat.min_le_left _ _
      have hc2 : c ≤ n - m := hc ▸ Nat.min_le_right _ _
      have hc3 : 1 ≤ c := hc ▸ (Nat.le_min.2 ⟨hm1, by omega⟩)
      have hmn' : (m + c) * 4 ≤ n * 4 := Nat.mul_le_mul_right _ (by omega)
      have hcs := hrep.cs c hc1 hmn (by decide)
      have hcs1 : ∀ v ∈ (List.range (c * 4)).map fun j => x (j % 4), v.oneCell' = true := by
        intro v hv
        obtain ⟨j, _, rfl⟩ := List.mem_map.1 hv
        exact hx1 _
      obtain ⟨f, hf, hfx⟩ := hrep
      have hstep : ∀ w', FlatAt w' g 52 (n * 4) (fun j => if m * 4 ≤ j ∧ j < m * 4 + ((List.range (c * 4)).map fun j => x (j % 4)).length then ((List.range (c * 4)).map fun j => x (j % 4)).getD (j - m * 4) undef else f j) → RepAt g 52 4 n x (m + c) w' :=
        fun w' h => RepAt.step (by decide) hfx h
      have Hc := Lib.hid hc
      have Hcs := Lib.hid hcs
      have Hcs1 := Lib.hid hcs1
      have Hf := Lib.hid hf
      have Hstep := Lib.hid hstep
      have hsz := hbel.size
      have hgw := Hg.out
      have Hgw := Lib.hid hgw
      have hgf := hf.lt
      clear hc hcs hcs1 hf hfx hstep hgw
      generalize hL : (List.range (c * 4)).map (fun j => x (j % 4)) = L at Hcs Hcs1 Hstep
      have hLl : L.length = c * 4 := by rw [← hL]; simp
      have HLl := Lib.hid hLl
      clear hL hLl
      have hnm : ¬ n = m := by omega
      have hsum : IntKind.i64.wrap ((m : Int) + (c : Int)) = (m : Int) + c := IntWalk.i64_in _ (by omega)
      go_wp2_with fail
      go_region_law ((refine step_copy_flat rfl (.tmp 41) (.tmp 44) 49 49 rfl 52 i0 4 Try.underlying49 hi0 hz1 g (m * 4) (n - m) (n - m) ⟨g, 0, none⟩ m n (by simp [Act.eval, Act.put]) (by simp [Act.eval, Act.put]) (n * 4) 52 f (Hf.out.kept rfl) L (by rw [Hc.out, HLl.out]) Hcs.out (by rw [HLl.out]; omega) Hcs1.out ?_; intro w1 hf1 hk1; rw [Hc.out]))
      all_goals
        go_wp2
        have hk1' : Kept (fun i => i = g) wr w1 := ⟨hk1.os, hk1.tape, hk1.output, hk1.size, hk1.block⟩
        clear hsum
        refine ⟨?_, by simp [intOf, Act.put]; omega⟩
        repeat apply Exists.intro
        exact ⟨⟨m + c, by omega, by omega, by go_num, Hstep.out _ hf1, hbel.trans (hk1'.below hsz fun k hk => by rw [hk, Hgw.out]; exact Nat.le_refl _)⟩, rfl⟩
    · obtain rfl : m = n := by omega
      obtain ⟨f, hf, hfx⟩ := hrep
      have hfin := hf.congr hfx
      have Hfin := Lib.hid hfin
      clear hfin hf hfx
      go_wp2
      go_ret
      exact ⟨g, rfl, Hfin.out, by rw [Hg.out]; exact Nat.le_refl _, hbel⟩

def repEPost (n : Nat) (x : Nat → Value) (w : World) (e : Ending) (w' : World) : Prop :=
  ∃ g, e = .returned (.slice (some ⟨g, 0, none⟩) n n) ∧ FlatAt w' g 56 (n * 3) (fun j => x (j % 3)) ∧ w.heap.size ≤ g ∧ Below w.heap.size w w'
def repERel (n g : Nat) (x : Nat → Value) (w0 : World) (s8 : Value) (wr : World) : Prop :=
  ∃ m : Nat, 1 ≤ m ∧ m ≤ n ∧ s8 = .int .i64 m ∧ RepAt g 56 3 n x m wr ∧ Below w0.heap.size w0 wr
set_option maxHeartbeats 800000 in
set_option maxRecDepth 100000 in
theorem repE_any (xb n : Nat) (x : Nat → Value) (hx1 : ∀ j, (x j).oneCell' = true) (w : World) (hn : 1 ≤ n) (hn2 : n ≤ 4096) (hxb : xb < w.heap.size) (hx : FlatAt w xb 56 3 x) :
    Calls Try.prog 17 #[.slice (some ⟨xb, 0, none⟩) 1 1, .int .i64 n] w (repEPost n x w) := by
  obtain ⟨i0, hi0, hz0, hz1, hz2⟩ := info_parts Try.info56
  have hmk : (Instr.makeSlice 53 (.int .i64 n) (.int .i64 n)).run Try.prog w = .ok (.slice (some ⟨w.heap.size, 0, none⟩) n n) (w.alloc (.cells (madeCells #[Value.int .i64 0, .int .i64 0, .int .i64 0] (n * 3)) 56)) := by
    have := run_make (P := Try.prog) w 53 56 i0 _ Try.underlying53 hi0 hz0 .i64 .i64 n n (by omega) (by omega) (by rw [hz2]; omega) (by omega)
    rw [hz1] at this
    simpa [Value.cells] using this
  have hfl : FlatAt (w.alloc (.cells (madeCells #[Value.int .i64 0, .int .i64 0, .int .i64 0] (n * 3)) 56)) w.heap.size 56 (n * 3) (fun _ => .int .i64 0) := by
    refine ⟨_, block_alloc_new _ _, by simp [madeCells], fun j hj => ?_⟩
    have h4 : j % 3 < 3 := Nat.mod_lt _ (by decide)
    simp [madeCells, hj]
    generalize j % 3 = q at h4
    match q, h4 with
    | 0, _ | 1, _ | 2, _ => rfl
  have hxW : FlatAt (w.alloc (.cells (madeCells #[Value.int .i64 0, .int .i64 0, .int .i64 0] (n * 3)) 56)) xb 56 3 x := hx.kept (Below.heap_alloc _ _ _ hxb)
  have hbW : Below w.heap.size w (w.alloc (.cells (madeCells #[Value.int .i64 0, .int .i64 0, .int .i64 0] (n * 3)) 56)) := (Below.refl _ _).alloc (Nat.le_refl _) _
  have hmin : Nat.min 1 n = 1 := Nat.min_eq_left hn
  have Hmin := Lib.hid hmin
  clear hmin
  have hcs : ∀ j v, ((List.range (1 * 3)).map fun j => x (j % 3))[j]? = some v → (w.alloc (.cells (madeCells #[Value.int .i64 0, .int .i64 0, .int .i64 0] (n * 3)) 56)).cell? ((⟨xb, 0, none⟩ : Addr).add j) = some v := by
    intro j v hj
    have hlt : j < 3 := by have := (List.getElem?_eq_some_iff.1 hj).1; simpa using this
    rw [addr_add, Nat.zero_add, hxW.cell hlt]
    simpa [hlt, Nat.mod_eq_of_lt hlt] using hj
  have hcs1 : ∀ v ∈ (List.range (1 * 3)).map fun j => x (j % 3), v.oneCell' = true := by
    intro v hv
    obtain ⟨j, _, rfl⟩ := List.mem_map.1 hv
    exact hx1 _
  have Hcs := Lib.hid hcs
  have Hcs1 := Lib.hid hcs1
  clear hcs hcs1 hxW
  go_enter Try.func17, Try.ntmps17
  go_wp2_with fail
  refine (mul_one n hn2 w).mono ?_
  rintro e w' ⟨rfl, rfl⟩
  generalize hL : (List.range (1 * 3)).map (fun j => x (j % 3)) = L at Hcs Hcs1
  have HL := Lib.hid hL
  have hLl : L.length = 3 := by rw [← hL]; simp
  have HLl := Lib.hid hLl
  clear hL hLl
  go_wp2_with (with_reducible refine copy_here (.tmp 31) (.tmp 32) ?_; refine wpList_copy_flat rfl (.tmp 31) (.tmp 32) 53 53 rfl 56 i0 3 Try.underlying53 hi0 hz1 w.heap.size 0 n n ⟨xb, 0, none⟩ 1 1 rfl rfl (n * 3) 56 (fun _ => .int .i64 0) hfl L (by rw [Hmin.out, HLl.out]) Hcs.out (by rw [HLl.out]; omega) Hcs1.out ?_; intro w1 hf1 hk1; rw [Hmin.out])
  have hstart : repERel n w.heap.size x w (.int .i64 1) w1 := by
    refine ⟨1, by omega, hn, rfl, ⟨_, hf1, fun j hj => ?_⟩, hbW.trans (hk1.below (by simp) fun k hk => by omega)⟩
    have : j < 3 := by omega
    rw [if_pos ⟨Nat.zero_le _, by rw [HLl.out]; omega⟩, ← HL.out]
    simp [List.getD, this, Nat.mod_eq_of_lt]
  clear hf1 hk1 hfl hbW hmk Hcs Hcs1 HL HLl Hmin
  generalize hg : w.heap.size = g at hstart
  have Hg := Lib.hid hg
  clear hg
  go_loopw [8] (fun s8 wr => repERel n g x w s8 wr) (fun s8 _ => n - (intOf s8).toNat)
  case atStart => exact hstart
  case round =>
    obtain ⟨m, hm1, hmn, rfl, hrep, hbel⟩ := hrel
    clear hstart
    by_cases hlt : m < n
    · obtain ⟨c, hc⟩ : ∃ c, Nat.min m (n - m) = c := ⟨_, rfl⟩
      have hc1 : c ≤ m := hc ▸ Nat.min_le_left _ _
      have hc2 : c ≤ n - m := hc ▸ Nat.min_le_right _ _
      have hc3 : 1 ≤ c := hc ▸ (Nat.le_min.2 ⟨hm1, by omega⟩)
      have hmn' : (m + c) * 3 ≤ n * 3 := Nat.mul_le_mul_right _ (by omega)
      have hcs := hrep.cs c hc1 hmn (by decide)
      have hcs1 : ∀ v ∈ (List.range (c * 3)).map fun j => x (j % 3), v.oneCell' = true := by
        intro v hv
        obtain ⟨j, _, rfl⟩ := List.mem_map.1 hv
        exact hx1 _
      obtain ⟨f, hf, hfx⟩ := hrep
      have hstep : ∀ w', FlatAt w' g 56 (n * 3) (fun j => if m * 3 ≤ j ∧ j < m * 3 + ((List.range (c * 3)).map fun j => x (j % 3)).length then ((List.range (c * 3)).map fun j => x (j % 3)).getD (j - m * 3) undef else f j) → RepAt g 56 3 n x (m + c) w' :=
        fun w' h => RepAt.step (by decide) hfx h
      have Hc := Lib.hid hc
      have Hcs := Lib.hid hcs
      have Hcs1 := Lib.hid hcs1
      have Hf := Lib.hid hf
      have Hstep := Lib.hid hstep
      have hsz := hbel.size
      have hgw := Hg.out
      have Hgw := Lib.hid hgw
      have hgf := hf.lt
      clear hc hcs hcs1 hf hfx hstep hgw
      generalize hL : (List.range (c * 3)).map (fun j => x (j % 3)) = L at Hcs Hcs1 Hstep
      have hLl : L.length = c * 3 := by rw [← hL]; simp
      have HLl := Lib.hid hLl
      clear hL hLl
      have hnm : ¬ n = m := by omega
      have hsum : IntKind.i64.wrap ((m : Int) + (c : Int)) = (m : Int) + c := IntWalk.i64_in _ (by omega)
      go_wp2_with fail
      go_region_law ((refine step_copy_flat rfl (.tmp 41) (.tmp 44) 53 53 rfl 56 i0 3 Try.underlying53 hi0 hz1 g (m * 3) (n - m) (n - m) ⟨g, 0, none⟩ m n (by simp [Act.eval, Act.put]) (by simp [Act.eval, Act.put]) (n * 3) 56 f (Hf.out.kept rfl) L (by rw [Hc.out, HLl.out]) Hcs.out (by rw [HLl.out]; omega) Hcs1.out ?_; intro w1 hf1 hk1; rw [Hc.out]))
      all_goals
        go_wp2
        have hk1' : Kept (fun i => i = g) wr w1 := ⟨hk1.os, hk1.tape, hk1.output, hk1.size, hk1.block⟩
        clear hsum
        refine ⟨?_, by simp [intOf, Act.put]; omega⟩
        repeat apply Exists.intro
        exact ⟨⟨m + c, by omega, by omega, by go_num, Hstep.out _ hf1, hbel.trans (hk1'.below hsz fun k hk => by rw [hk, Hgw.out]; exact Nat.le_refl _)⟩, rfl⟩
    · obtain rfl : m = n := by omega
      obtain ⟨f, hf, hfx⟩ := hrep
      have hfin := hf.congr hfx
      have Hfin := Lib.hid hfin
      clear hfin hf hfx
      go_wp2
      go_ret
      exact ⟨g, rfl, Hfin.out, by rw [Hg.out]; exact Nat.le_refl _, hbel⟩
end Go.Proofs.Ytpcoffpdkfbhdaa
