/- The walks of the arena: a cell is taken, a value is put behind a row. -/
import Derived.Test.YtpcoffpdkfbhdaaFb
namespace Go.Proofs.Ytpcoffpdkfbhdaa
open Go.RowKit
variable {w : World} {a bc br fc : Nat} {fa : Option Addr} {S : Ar} {O : Nat → Bool}

/-- Which cell is taken, and what is left. -/
def Ar.takeI (S : Ar) : Int := if S.freed = [] then S.fresh else S.freed.getLast?.getD 0
def Ar.takeS (S : Ar) : Ar := if S.freed = [] then { S with fresh := S.fresh + 1 } else { S with freed := S.freed.dropLast }

def TakePost (a bc br : Nat) (S : Ar) (O : Nat → Bool) (w : World) (e : Ending) (w' : World) : Prop :=
  ∃ fa' fc', e = .returned (.int .i64 S.takeI) ∧ ArAt w' a bc br fa' fc' S.takeS O ∧ Grows O O w w'

theorem take_fresh (h : ArAt w a bc br fa fc S O) (hf : S.freed = []) (hlt : S.fresh < S.N) : Calls Try.prog 19 #[.pointer (some ⟨a, 0, none⟩)] w (TakePost a bc br S O w) := by
  have c2 : w.cell? ⟨a, 2, none⟩ = some (.slice fa 0 fc) := by rw [cell_of_block h.st, hf]; rfl
  have c3 : w.cell? ⟨a, 3, none⟩ = some (.int .i64 S.fresh) := by rw [cell_of_block h.st]; rfl
  have f3 := free_of_block h.st 3
  have hbn := h.bn
  obtain ⟨b1, b2⟩ := h.bf
  have hfin : ArAt (w.setCell ⟨a, 3, none⟩ (.int .i64 (S.fresh + 1))) a bc br fa fc S.takeS O := by
    rw [show S.takeS = { S with freed := S.freed, fresh := S.fresh + 1 } from if_pos hf]
    refine h.setSt (block_setCell h.st 3 _) (fun i _ hi _ => Below.heap_setCell _ _ _ _ hi) (h.fr.kept fun t ht => Below.heap_setCell _ _ _ _ ?_) h.ofr (fun _ _ => rfl) (fun i hi => h.new i (by simpa using hi)) (by omega) h.bl
    have := h.fr; rw [ht] at this; exact this.ne_block h.st (by decide)
  have hg : Grows O O w (w.setCell ⟨a, 3, none⟩ (.int .i64 (S.fresh + 1))) := ⟨(Kept.refl _ _).setCell (fun _ => h.oa) _, fun _ _ => rfl⟩
  have hI : S.takeI = S.fresh := if_pos hf
  have HI := Lib.hid hI
  clear h hI hf
  go_enter Try.func19, Try.ntmps19
  go_wp2
  go_ret
  exact ⟨fa, fc, ret_int HI.out.symm, hfin, hg⟩

theorem take_freed (h : ArAt w a bc br fa fc S O) (hf : S.freed ≠ []) : Calls Try.prog 19 #[.pointer (some ⟨a, 0, none⟩)] w (TakePost a bc br S O w) := by
  have hlen : 0 < S.freed.length := List.length_pos_iff.2 hf
  obtain ⟨t, o, rfl⟩ : ∃ t o, fa = some ⟨t, o, none⟩ := by
    rcases h.fr.2.2 with ⟨h2, h3⟩ | ⟨t', o, arr, ha, hb, _⟩
    · have := h.fr.2.1; omega
    · exact ⟨t', o, ha⟩
  have hlc := h.fr.2.1
  have hbl := h.bl
  have c2 : w.cell? ⟨a, 2, none⟩ = some (.slice (some ⟨t, o, none⟩) S.freed.length fc) := by rw [cell_of_block h.st]; rfl
  have f2 := free_of_block h.st 2
  have hcell : w.cell? ⟨t, o + (S.freed.length - 1), none⟩ = some (.int .i64 S.takeI) := by
    rw [h.fr.cell (by omega), Ar.takeI, if_neg hf]
    simp [List.getLast?_eq_getElem?, List.getElem?_eq_getElem (show S.freed.length - 1 < S.freed.length by omega)]
  have hS : S.takeS = { S with freed := S.freed.dropLast, fresh := S.fresh } := if_neg hf
  have hfin : ArAt (w.setCell ⟨a, 2, none⟩ (.slice (some ⟨t, o, none⟩) (S.freed.length - 1) fc)) a bc br (some ⟨t, o, none⟩) fc S.takeS O := by
    rw [hS]
    have hta : t ≠ a := h.fr.ne_block h.st (by decide)
    refine h.setSt (by rw [block_setCell h.st 2 _]; simp) (fun i _ hi _ => Below.heap_setCell _ _ _ _ hi) ?_ h.ofr (fun _ _ => rfl) (fun i hi => h.new i (by simpa using hi)) h.bf (by simp; omega)
    have := (h.fr.init hlen).kept (w' := w.setCell ⟨a, 2, none⟩ (.slice (some ⟨t, o, none⟩) (S.freed.length - 1) fc)) fun t' ht' => Below.heap_setCell _ _ _ _ (by cases ht'; exact hta)
    simpa [List.map_dropLast] using this
  have hg : Grows O O w (w.setCell ⟨a, 2, none⟩ (.slice (some ⟨t, o, none⟩) (S.freed.length - 1) fc)) := (Grows.refl _ _).setCell h.oa _
  clear h hf hS
  go_enter Try.func19, Try.ntmps19
  go_wp2
  go_outline
  go_ret
  exact ⟨_, fc, rfl, hfin, hg⟩
end Go.Proofs.Ytpcoffpdkfbhdaa
