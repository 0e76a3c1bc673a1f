/- Words for worlds: what a call keeps, cells out of blocks. -/
import Derived.Test.YtgbdnodkbdkaeaaRows
import Derived.WalkKit
import Derived.Lib.Hide
import Derived.WalkSpells
import Derived.Deep.QuietTactic
import Derived.BigQuiet
import Derived.Deep.RegionLaw
import Derived.Deep.DeepCutAuto
import Derived.StillTailTactics
import Derived.Deep.RegionHeld3
import Derived.ArgAppend
import Derived.Deep.AppendLies
namespace Go.Proofs.Ytgbdnodkbdkaeaa
open Go.RowKit

/-- What was there and does not lie in 'F' is as it was; the streams are as they were. -/
structure Kept (F : Nat → Prop) (w w' : World) : Prop where
  os : w'.os = w.os
  tape : w'.tape = w.tape
  output : w'.output = w.output
  size : w.heap.size ≤ w'.heap.size
  block : ∀ k, k < w.heap.size → ¬ F k → w'.heap[k]? = w.heap[k]?

theorem Kept.refl (F : Nat → Prop) (w : World) : Kept F w w := ⟨rfl, rfl, rfl, Nat.le_refl _, fun _ _ _ => rfl⟩
theorem Kept.trans' {F G : Nat → Prop} {a b c : World} (h : Kept F a b) (k : Kept G b c) (hFG : ∀ i, i < a.heap.size → G i → F i) : Kept F a c :=
  ⟨k.os.trans h.os, k.tape.trans h.tape, k.output.trans h.output, Nat.le_trans h.size k.size,
   fun i hi hF => (k.block i (Nat.lt_of_lt_of_le hi h.size) (fun hG => hF (hFG i hi hG))).trans (h.block i hi hF)⟩
theorem Kept.trans {F : Nat → Prop} {a b c : World} (h : Kept F a b) (k : Kept F b c) : Kept F a c := h.trans' k fun _ _ h => h
theorem Kept.mono {F G : Nat → Prop} {a b : World} (h : Kept F a b) (hFG : ∀ i, i < a.heap.size → F i → G i) : Kept G a b :=
  ⟨h.os, h.tape, h.output, h.size, fun i hi hG => h.block i hi fun hF => hG (hFG i hi hF)⟩
theorem Kept.drew {F : Nat → Prop} {a w : World} (h : Kept F a w) : Kept F a w.drew := ⟨h.os, h.tape, h.output, h.size, h.block⟩
theorem Kept.drewN {F : Nat → Prop} {a w : World} (h : Kept F a w) (n : Nat) : Kept F a (w.drewN n) := ⟨h.os, h.tape, h.output, h.size, h.block⟩
theorem Kept.alloc {F : Nat → Prop} {a w : World} (h : Kept F a w) (o : Obj) : Kept F a (w.alloc o) :=
  h.trans ⟨rfl, rfl, rfl, by simp, fun k hk _ => Below.heap_alloc _ _ _ hk⟩
theorem Kept.setCell {F : Nat → Prop} {a w : World} (h : Kept F a w) {p : Addr} (hp : p.block < a.heap.size → F p.block) (u : Value) : Kept F a (w.setCell p u) :=
  h.trans' (G := fun k => k = p.block) ⟨rfl, rfl, rfl, by simp, fun k _ hF => Below.heap_setCell _ _ _ _ hF⟩ fun i hi hG => by subst hG; exact hp hi
theorem Kept.below {F : Nat → Prop} {B : Nat} {w w' : World} (h : Kept F w w') (hB : B ≤ w.heap.size) (hF : ∀ k, F k → B ≤ k) : Below B w w' :=
  ⟨h.os, h.tape, h.output, h.size, fun k hk => h.block k (Nat.lt_of_lt_of_le hk hB) fun hf => absurd (hF k hf) (by omega)⟩
theorem Kept.of_grown {F : Nat → Prop} {w w' : World} {row : Option Nat} (hg : w.grownBy w' row) (hr : ∀ k, row = some k → F k) : Kept F w w' :=
  ⟨hg.os, hg.tape, hg.output, hg.size, fun k hk hF => hg.block k hk fun e => hF (hr k e.symm)⟩
theorem Kept.of_below {F : Nat → Prop} {w w' : World} (h : Below w.heap.size w w') : Kept F w w' :=
  ⟨h.os, h.tape, h.output, h.size, fun k hk _ => h.block k hk⟩

theorem lt_of_block {w : World} {b : Nat} {o : Obj} (h : w.heap[b]? = some o) : b < w.heap.size := (Array.getElem?_eq_some_iff.1 h).1
theorem cell_of_block {w : World} {b : Nat} {cs : Array Value} {t : TypeId} {f : Nat × Nat} (h : w.heap[b]? = some (.cells cs t f)) (i : Nat) : w.cell? ⟨b, i, none⟩ = cs[i]? := by simp [World.cell?, h]
theorem free_of_block {w : World} {b : Nat} {cs : Array Value} {t : TypeId} (h : w.heap[b]? = some (.cells cs t (0, 0))) (i : Nat) : w.frozen? ⟨b, i, none⟩ = false := by simp [World.frozen?, h]
theorem block_setCell {w : World} {b : Nat} {cs : Array Value} {t : TypeId} {f : Nat × Nat} (h : w.heap[b]? = some (.cells cs t f)) (i : Nat) (u : Value) :
    (w.setCell ⟨b, i, none⟩ u).heap[b]? = some (.cells (cs.setIfInBounds i u) t f) := by
  simp only [World.setCell, Array.getElem?_modify, h]
  simp
theorem block_setCell_ne {w : World} {b : Nat} {o : Option Obj} {p : Addr} (h : w.heap[b]? = o) (hne : b ≠ p.block) (u : Value) : (w.setCell p u).heap[b]? = o := by
  rw [Below.heap_setCell _ _ _ _ hne]; exact h
theorem block_alloc {w : World} {b : Nat} {o o' : Obj} (h : w.heap[b]? = some o) : (w.alloc o').heap[b]? = some o := by
  rw [Below.heap_alloc _ _ _ (lt_of_block h)]; exact h
theorem block_alloc_new (w : World) (o : Obj) : (w.alloc o).heap[w.heap.size]? = some o := by
  show (w.heap.push o)[w.heap.size]? = _
  simp
theorem ret_int {k : IntKind} {a b : Int} (h : a = b) : Ending.returned (.int k a) = .returned (.int k b) := by rw [h]
theorem ret_bool {a b : Bool} (h : a = b) : Ending.returned (.bool a) = .returned (.bool b) := by rw [h]
theorem u8_bd {a : Int} (h : (Lit.int .u8 a).wf = true) : 0 ≤ a ∧ a ≤ 255 := by
  have h1 : IntKind.u8.min = 0 := rfl
  have h2 : IntKind.u8.max = 255 := rfl
  simp [Lit.wf] at h; omega

def upd {α β : Type} [DecidableEq α] (f : α → β) (a : α) (b : β) : α → β := fun x => if x = a then b else f x
theorem upd_same {α β : Type} [DecidableEq α] (f : α → β) (a : α) (b : β) : upd f a b a = b := by simp [upd]
theorem upd_other {α β : Type} [DecidableEq α] (f : α → β) {a x : α} (b : β) (h : x ≠ a) : upd f a b x = f x := by simp [upd, h]
/-- A block of n cells, told by a function. -/
def FlatAt (w : World) (b : Nat) (E : TypeId) (n : Nat) (g : Nat → Value) : Prop := ∃ arr : Array Value, w.heap[b]? = some (.cells arr E (0, 0)) ∧ arr.size = n ∧ ∀ j, j < n → arr[j]? = some (g j)
theorem FlatAt.lt {w : World} {b n : Nat} {E : TypeId} {g : Nat → Value} (h : FlatAt w b E n g) : b < w.heap.size := by
  obtain ⟨arr, hb, _⟩ := h
  exact lt_of_block hb
theorem FlatAt.cell {w : World} {b n : Nat} {E : TypeId} {g : Nat → Value} (h : FlatAt w b E n g) {j : Nat} (hj : j < n) : w.cell? ⟨b, j, none⟩ = some (g j) := by
  obtain ⟨arr, hb, _, hx⟩ := h
  rw [cell_of_block hb]; exact hx j hj
theorem FlatAt.free {w : World} {b n : Nat} {E : TypeId} {g : Nat → Value} (h : FlatAt w b E n g) (j : Nat) : w.frozen? ⟨b, j, none⟩ = false := by
  obtain ⟨arr, hb, _, hx⟩ := h
  exact free_of_block hb j
theorem FlatAt.put {w : World} {b n : Nat} {E : TypeId} {g : Nat → Value} (h : FlatAt w b E n g) {j : Nat} (hj : j < n) (v : Value) : FlatAt (w.setCell ⟨b, j, none⟩ v) b E n (upd g j v) := by
  obtain ⟨arr, hb, hs, hx⟩ := h
  refine ⟨_, block_setCell hb j _, by simp [hs], fun i hi => ?_⟩
  rw [Array.getElem?_setIfInBounds]
  by_cases e : j = i
  · subst e; rw [if_pos rfl, if_pos (by omega), upd_same]
  · rw [if_neg e, upd_other _ _ (fun h => e h.symm)]; exact hx i hi
theorem FlatAt.kept {w w' : World} {b n : Nat} {E : TypeId} {g : Nat → Value} (h : FlatAt w b E n g) (hw : w'.heap[b]? = w.heap[b]?) : FlatAt w' b E n g := by
  obtain ⟨arr, hb, r⟩ := h
  exact ⟨arr, hw.trans hb, r⟩
theorem FlatAt.congr {w : World} {b n : Nat} {E : TypeId} {g g' : Nat → Value} (h : FlatAt w b E n g) (hg : ∀ j, j < n → g j = g' j) : FlatAt w b E n g' := by
  obtain ⟨arr, hb, hs, hx⟩ := h
  exact ⟨arr, hb, hs, fun j hj => by rw [hx j hj, hg j hj]⟩
theorem FlatAt.ne {w : World} {b b' n n' : Nat} {E E' : TypeId} {g g' : Nat → Value} (h : FlatAt w b E n g) (h' : FlatAt w b' E' n' g') (hE : E ≠ E') : b ≠ b' := by
  obtain ⟨arr, hb, _⟩ := h
  obtain ⟨arr', hb', _⟩ := h'
  intro e; subst e; rw [hb] at hb'; cases hb'; exact hE rfl
theorem FlatAt.ne_block {w : World} {b b' n : Nat} {E E' : TypeId} {g : Nat → Value} {cs : Array Value} {f : Nat × Nat} (h : FlatAt w b E n g) (h' : w.heap[b']? = some (.cells cs E' f)) (hE : E ≠ E') : b ≠ b' := by
  obtain ⟨arr, hb, _⟩ := h
  intro e; subst e; rw [hb] at h'; cases h'; exact hE rfl

/-- Who owns which block: nothing that is not there. -/
structure Grows (O O' : Nat → Bool) (w w' : World) : Prop where
  kept : Kept (fun b => O b = true) w w'
  old : ∀ b, b < w.heap.size → O' b = O b
theorem Grows.refl (O : Nat → Bool) (w : World) : Grows O O w w := ⟨Kept.refl _ _, fun _ _ => rfl⟩
theorem Grows.trans {O O' O'' : Nat → Bool} {a b c : World} (h : Grows O O' a b) (k : Grows O' O'' b c) : Grows O O'' a c :=
  ⟨h.kept.trans' k.kept fun i hi hG => by rw [← h.old i hi]; exact hG, fun i hi => (k.old i (Nat.lt_of_lt_of_le hi h.kept.size)).trans (h.old i hi)⟩
theorem Grows.drewN {O O' : Nat → Bool} {a b : World} (h : Grows O O' a b) (q : Nat) : Grows O O' a (b.drewN q) := ⟨h.kept.drewN q, h.old⟩
theorem Grows.drew {O O' : Nat → Bool} {a b : World} (h : Grows O O' a b) : Grows O O' a b.drew := ⟨h.kept.drew, h.old⟩
theorem Grows.of_drew {O O' : Nat → Bool} {a b : World} (h : Grows O O' a.drew b) : Grows O O' a b := ⟨⟨h.kept.os, h.kept.tape, h.kept.output, h.kept.size, h.kept.block⟩, h.old⟩
theorem Grows.of_drewN {O O' : Nat → Bool} {a b : World} {q : Nat} (h : Grows O O' (a.drewN q) b) : Grows O O' a b := ⟨⟨h.kept.os, h.kept.tape, h.kept.output, h.kept.size, h.kept.block⟩, h.old⟩
/-- A block laid anew (a map's). -/
def setB (w : World) (r : Nat) (o : Obj) : World := { w with heap := w.heap.setIfInBounds r o }
theorem setB_size (w : World) (r : Nat) (o : Obj) : (setB w r o).heap.size = w.heap.size := by simp [setB]
theorem setB_same {w : World} {r : Nat} (o : Obj) (h : r < w.heap.size) : (setB w r o).heap[r]? = some o := by simp [setB, h]
theorem setB_ne (w : World) {r i : Nat} (o : Obj) (h : i ≠ r) : (setB w r o).heap[i]? = w.heap[i]? := by
  simp only [setB, Array.getElem?_setIfInBounds]
  rw [if_neg (fun e => h e.symm)]
theorem Kept.setB {F : Nat → Prop} {a w : World} (h : Kept F a w) {r : Nat} (hr : r < a.heap.size → F r) (o : Obj) : Kept F a (setB w r o) :=
  h.trans' (G := fun k => k = r) ⟨rfl, rfl, rfl, by rw [setB_size]; exact Nat.le_refl _, fun k _ hF => setB_ne _ _ hF⟩ fun i hi hG => by subst hG; exact hr hi
end Go.Proofs.Ytgbdnodkbdkaeaa
