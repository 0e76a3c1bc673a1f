/- A region that draws its order and whose callees make memory, walked once: the class of worlds 'what was there is as it was'. -/
import Derived.Test.YtgbdnodkbdkaeaaRo
import Derived.Deep.Quiet
import Derived.BigQuiet
namespace Go.Proofs.Ytgbdnodkbdkaeaa
open Go.RowKit

/-- The worlds behind w in which what was there is as it was. -/
def KW (w : World) : Type := { w' : World // Kept (fun _ => False) w w' }
instance kwThere (w : World) : Nonempty (KW w) := ⟨⟨w, Kept.refl _ _⟩⟩
def KW.w {w : World} (x : KW w) : World := x.1
theorem KW.kept {w : World} (x : KW w) : Kept (fun _ => False) w x.w := x.2
theorem KW.block {w : World} (x : KW w) {b : Nat} {o : Obj} (h : w.heap[b]? = some o) : x.w.heap[b]? = some o := (x.2.block b (lt_of_block h) (fun h => h)).trans h
theorem KW.cell {w : World} {a : Addr} {v : Value} (h : w.cell? a = some v) (x : KW w) : x.w.cell? a = some v := by
  show x.1.cell? a = _
  rw [World.cell?_of_block (w := w) (x.2.block a.block (World.block_lt_of_cell? _ _ h) (fun h => h))]; exact h

theorem wp_region_kept {P : Program} {id : Nat} {Q : Exit → Act → World → Prop} {a : Act} {w : World} {l : List Oper} (hm : P.follows .mixedOrders = true) (hB : Region.lexB .any l.toArray = true)
    (h : wpQuiet P l.toArray (fun w' => ∃ x : KW w, w' = x.w) (fun a' => ∀ w', (∃ x : KW w, w' = x.w) → Q .normal a' w') l a) : (Code.region id l.toArray true).wp P Q a w :=
  wp_region_quiet (C := fun w' => ∃ x : KW w, w' = x.w) hm hB ⟨⟨w.drew, (Kept.refl _ w).drew⟩, rfl⟩ (by simpa using h)
theorem Calls.kw {P : Program} {f : FuncId} {args : Array Value} {w : World} {x : KW w} {v : Value}
    (h : Calls P f args x.w fun e w' => e = .returned v ∧ Kept (fun _ => False) x.w w') : Calls P f args x.w fun e w'' => e = .returned v ∧ ∃ y : KW w, w'' = y.w :=
  h.mono fun _ _ ⟨he, hk⟩ => ⟨he, ⟨⟨_, x.2.trans hk⟩, rfl⟩⟩
theorem Calls.kw_same {P : Program} {f : FuncId} {args : Array Value} {w : World} {x : KW w} {v : Value}
    (h : Calls P f args x.w fun e w' => x.w = w' ∧ e = .returned v) : Calls P f args x.w fun e w'' => e = .returned v ∧ ∃ y : KW w, w'' = y.w :=
  h.mono fun _ _ ⟨hk, he⟩ => ⟨he, x, hk.symm⟩
end Go.Proofs.Ytgbdnodkbdkaeaa
