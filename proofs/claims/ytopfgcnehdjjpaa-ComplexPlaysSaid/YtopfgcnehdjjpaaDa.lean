/- The document's book of complex orders in memory; Side, put, Right1: the walks. -/
import Derived.Test.YtopfgcnehdjjpaaCs
import Derived.Test.YtopfgcnehdjjpaaKw
namespace Go.Proofs.Ytopfgcnehdjjpaa
open Go.RowKit

/-- The document's book at block m. -/
structure RbAt (w : World) (m : Nat) (R : Nat → List Od) (p : Nat → Option Addr) (c : Nat → Nat) : Prop where
  st : w.heap[m]? = some (.cells #[.slice (p 0) (R 0).length (c 0), .slice (p 1) (R 1).length (c 1)] 29 (0, 0))
  sl : ∀ k, k < 2 → SlAt w 37 5 (p k) (R k).length (c k) ((R k).flatMap odC)
  few : (R 0).length + (R 1).length ≤ 256
theorem RbAt.ne {w : World} {m : Nat} {R : Nat → List Od} {p : Nat → Option Addr} {c : Nat → Nat} (h : RbAt w m R p c) {k : Nat} (hk : k < 2) {t : Addr} (ht : p k = some t) : t.block ≠ m := by
  have hs := h.sl k hk
  rw [ht] at hs
  exact hs.ne_blk h.st (by decide)
/-- The same book where its blocks are as they were. -/
theorem RbAt.kept {w w' : World} {m : Nat} {R : Nat → List Od} {p : Nat → Option Addr} {c : Nat → Nat} (h : RbAt w m R p c) {F : Nat → Prop} (k : Kept F w w') (hm : ¬ F m) (hp : ∀ j, j < 2 → ∀ t, p j = some t → ¬ F t.block) : RbAt w' m R p c :=
  ⟨(k.block m (lt_of_block h.st) hm).trans h.st, fun j hj => (h.sl j hj).kept fun t ht => k.block _ ((h.sl j hj).lt t ht) (hp j hj t ht), h.few⟩
theorem RbAt.keptF {w w' : World} {m : Nat} {R : Nat → List Od} {p : Nat → Option Addr} {c : Nat → Nat} (h : RbAt w m R p c) (k : Kept (fun _ => False) w w') : RbAt w' m R p c := h.kept k (fun h => h) (fun _ _ _ _ h => h)
theorem RbAt.row {w : World} {m : Nat} {R : Nat → List Od} {p : Nat → Option Addr} {c : Nat → Nat} (h : RbAt w m R p c) {k : Nat} (hk : k < 2) : w.cell? ⟨m, k, none⟩ = some (.slice (p k) (R k).length (c k)) := by
  rw [cell_of_block h.st]
  match k, hk with
  | 0, _ => rfl
  | 1, _ => rfl

theorem side_any {w : World} {m : Nat} {R : Nat → List Od} {p : Nat → Option Addr} {c : Nat → Nat} (h : RbAt w m R p c) (side : Int) (k : Nat) (hk : k < 2) (hs : side = (k : Int) + 1) :
    Calls Try.prog 18 #[.pointer (some ⟨m, 0, none⟩), .int .i64 side] w fun e w' => w = w' ∧ e = .returned (.slice (p k) (R k).length (c k)) := by
  have c0 := h.row (k := 0) (by decide)
  have c1 := h.row (k := 1) (by decide)
  have h2 : k = 0 ∨ k = 1 := by omega
  clear h hk
  rcases h2 with rfl | rfl
  · subst hs
    go_enter Try.func18, Try.ntmps18
    go_wp2
    go_ret
    exact ⟨rfl, rfl⟩
  · subst hs
    go_enter Try.func18, Try.ntmps18
    go_wp2
    go_ret
    exact ⟨rfl, rfl⟩

/-- A row of the document's book laid anew. -/
def RbPut (m : Nat) (R' : Nat → List Od) (p' : Nat → Option Addr) (c' : Nat → Nat) (w : World) (e : Ending) (w' : World) : Prop := e = .returned (.tuple #[]) ∧ RbAt w' m R' p' c' ∧ Kept (fun b => b = m) w w'
theorem RbAt.set {w : World} {m : Nat} {R : Nat → List Od} {p : Nat → Option Addr} {c : Nat → Nat} (h : RbAt w m R p c) {k : Nat} (hk : k < 2) {ys : List Od} {q : Option Addr} {cq : Nat} (hs : SlAt w 37 5 q ys.length cq (ys.flatMap odC)) (hf : ∀ j, j < 2 → j ≠ k → (R j).length + ys.length ≤ 256) :
    RbAt (w.setCell ⟨m, k, none⟩ (.slice q ys.length cq)) m (upd R k ys) (upd p k q) (upd c k cq) ∧ Kept (fun b => b = m) w (w.setCell ⟨m, k, none⟩ (.slice q ys.length cq)) := by
  have hq : ∀ t, q = some t → t.block ≠ m := fun t ht => by rw [ht] at hs; exact hs.ne_blk h.st (by decide)
  refine ⟨⟨?_, fun j hj => ?_, ?_⟩, Kept.setCell (F := fun b => b = m) (Kept.refl _ _) (fun _ => rfl) _⟩
  · rw [block_setCell h.st k _]
    match k, hk with
    | 0, _ => simp [upd]
    | 1, _ => simp [upd]
  · by_cases e : j = k
    · subst e
      simp only [upd_same]
      exact hs.kept fun t ht => Below.heap_setCell _ _ _ _ (hq t ht)
    · simp only [upd_other _ _ e]
      exact (h.sl j hj).kept fun t ht => Below.heap_setCell _ _ _ _ (h.ne hj ht)
  · have h2 : k = 0 ∨ k = 1 := by omega
    rcases h2 with rfl | rfl
    · have := hf 1 (by omega) (by omega); simp only [upd_same, upd_other _ _ (show (1 : Nat) ≠ 0 by omega)]; omega
    · have := hf 0 (by omega) (by omega); simp only [upd_same, upd_other _ _ (show (0 : Nat) ≠ 1 by omega)]; omega
theorem put_any {w : World} {m : Nat} {R : Nat → List Od} {p : Nat → Option Addr} {c : Nat → Nat} (h : RbAt w m R p c) (side : Int) (k : Nat) (hk : k < 2) (hsd : side = (k : Int) + 1) {ys : List Od} {q : Option Addr} {cq : Nat} (hs : SlAt w 37 5 q ys.length cq (ys.flatMap odC)) (hf : ∀ j, j < 2 → j ≠ k → (R j).length + ys.length ≤ 256) :
    Calls Try.prog 33 #[.pointer (some ⟨m, 0, none⟩), .int .i64 side, .slice q ys.length cq] w (RbPut m (upd R k ys) (upd p k q) (upd c k cq) w) := by
  obtain ⟨h3, hk3⟩ := h.set hk hs hf
  have c0 := h.row (k := 0) (by decide)
  have c1 := h.row (k := 1) (by decide)
  have f0 := free_of_block h.st
  have h2 : k = 0 ∨ k = 1 := by omega
  clear h hk hs hf
  rcases h2 with rfl | rfl
  · subst hsd
    go_enter Try.func33, Try.ntmps33
    go_wp2
    go_end0
    exact ⟨rfl, h3, hk3⟩
  · subst hsd
    go_enter Try.func33, Try.ntmps33
    go_wp2
    go_end0
    exact ⟨rfl, h3, hk3⟩
end Go.Proofs.Ytopfgcnehdjjpaa
