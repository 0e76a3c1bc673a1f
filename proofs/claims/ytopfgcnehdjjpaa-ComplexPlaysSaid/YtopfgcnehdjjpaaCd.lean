/- The book of complex orders: Get, Len, New: the walks. -/
import Derived.Test.YtopfgcnehdjjpaaCc
import Derived.IntWalk
namespace Go.Proofs.Ytopfgcnehdjjpaa
open Go.RowKit

def zeroOd : Od := ⟨0, 0, 0, 0, 0⟩
def getO (R : Nat → List Od) (id : Int) : Option Od := (findR R id).bind fun x => (R x.1)[x.2]?
def GPost (d : Od) (b : Bool) (w : World) (e : Ending) (w' : World) : Prop :=
  e = .returned (.tuple #[.agg #[.int .i64 d.id, .int .i64 d.owner, .int .i64 d.side, .int .i64 d.net, .int .i64 d.units], .bool b]) ∧ Kept (fun _ => False) w w'
def put5 (w : World) (n : Nat) (d : Od) : World :=
  ((((w.setCell ⟨n, 0, none⟩ (.int .i64 d.id)).setCell ⟨n, 1, none⟩ (.int .i64 d.owner)).setCell ⟨n, 2, none⟩ (.int .i64 d.side)).setCell ⟨n, 3, none⟩ (.int .i64 d.net)).setCell ⟨n, 4, none⟩ (.int .i64 d.units)
theorem put5_law {w : World} {n : Nat} {u0 u1 u2 u3 u4 : Value} (hb : w.heap[n]? = some (.cells #[u0, u1, u2, u3, u4] 31 (0, 0))) (d : Od) :
    (put5 w n d).heap[n]? = some (.cells #[.int .i64 d.id, .int .i64 d.owner, .int .i64 d.side, .int .i64 d.net, .int .i64 d.units] 31 (0, 0)) ∧ Kept (fun i => i = n) w (put5 w n d) := by
  constructor
  · unfold put5
    rw [block_setCell (block_setCell (block_setCell (block_setCell (block_setCell hb 0 _) 1 _) 2 _) 3 _) 4 _]; rfl
  · unfold put5
    refine Kept.setCell (F := fun i => i = n) ?_ (fun _ => rfl) _
    refine Kept.setCell (F := fun i => i = n) ?_ (fun _ => rfl) _
    refine Kept.setCell (F := fun i => i = n) ?_ (fun _ => rfl) _
    refine Kept.setCell (F := fun i => i = n) ?_ (fun _ => rfl) _
    exact Kept.setCell (F := fun i => i = n) (Kept.refl _ _) (fun _ => rfl) _
theorem get_no {w : World} {a : Nat} {R : Nat → List Od} {p : Nat → Option Addr} {c : Nat → Nat} {O : Nat → Nat} (h : BkAt w a R p c O) (id : Int) (hf : findR R id = none) :
    Calls Try.prog 19 #[.pointer (some ⟨a, 0, none⟩), .int .i64 id] w (GPost zeroOd false w) := by
  have Hf := Lib.hid hf
  clear hf
  have h' := h.keptF ((Kept.refl _ w).alloc (.cells #[.int .i64 0, .int .i64 0, .int .i64 0, .int .i64 0, .int .i64 0] 31))
  go_enter Try.func19, Try.ntmps19
  go_wp2_with fail
  refine (find_any h' id).mono ?_
  rintro e w' hp
  obtain ⟨rfl, hk⟩ := hp.2 Hf.out
  clear hp
  have hk2 : Kept (fun _ => False) w w' := ((Kept.refl _ _).alloc _).trans hk
  have hb : w'.heap[w.heap.size]? = some (.cells #[.int .i64 0, .int .i64 0, .int .i64 0, .int .i64 0, .int .i64 0] 31 (0, 0)) := (hk.block _ (by simp) (fun h => h)).trans (block_alloc_new _ _)
  have c0 : w'.cell? ⟨w.heap.size, 0, none⟩ = some (.int .i64 0) := by rw [cell_of_block hb]; rfl
  have c1 : w'.cell? ⟨w.heap.size, 1, none⟩ = some (.int .i64 0) := by rw [cell_of_block hb]; rfl
  have c2 : w'.cell? ⟨w.heap.size, 2, none⟩ = some (.int .i64 0) := by rw [cell_of_block hb]; rfl
  have c3 : w'.cell? ⟨w.heap.size, 3, none⟩ = some (.int .i64 0) := by rw [cell_of_block hb]; rfl
  have c4 : w'.cell? ⟨w.heap.size, 4, none⟩ = some (.int .i64 0) := by rw [cell_of_block hb]; rfl
  have f0 := free_of_block hb
  have hs := lt_of_block hb
  go_wp2
  obtain ⟨hb5, hk5⟩ := put5_law hb zeroOd
  change bodyPost _ _ _ _ _ (put5 w' w.heap.size zeroOd)
  generalize put5 w' w.heap.size zeroOd = wf at hb5 hk5 ⊢
  clear c0 c1 c2 c3 c4 f0
  have c0 : wf.cell? ⟨w.heap.size, 0, none⟩ = some (.int .i64 0) := by rw [cell_of_block hb5]; rfl
  have c1 : wf.cell? ⟨w.heap.size, 1, none⟩ = some (.int .i64 0) := by rw [cell_of_block hb5]; rfl
  have c2 : wf.cell? ⟨w.heap.size, 2, none⟩ = some (.int .i64 0) := by rw [cell_of_block hb5]; rfl
  have c3 : wf.cell? ⟨w.heap.size, 3, none⟩ = some (.int .i64 0) := by rw [cell_of_block hb5]; rfl
  have c4 : wf.cell? ⟨w.heap.size, 4, none⟩ = some (.int .i64 0) := by rw [cell_of_block hb5]; rfl
  refine bodyPost_ret (v := .tuple #[.agg #[.int .i64 0, .int .i64 0, .int .i64 0, .int .i64 0, .int .i64 0], .bool false]) (by simp [results, Try.results19, go_sem, c0, c1, c2, c3, c4]) rfl ⟨rfl, ?_⟩
  exact hk2.trans' (G := fun i => i = w.heap.size) hk5 (fun i hi e => by omega)
theorem get_yes {w : World} {a : Nat} {R : Nat → List Od} {p : Nat → Option Addr} {c : Nat → Nat} {O : Nat → Nat} (h : BkAt w a R p c O) (id : Int) {k i : Nat} {d : Od} (hf : findR R id = some (k, i)) (hd : (R k)[i]? = some d) :
    Calls Try.prog 19 #[.pointer (some ⟨a, 0, none⟩), .int .i64 id] w (GPost d true w) := by
  obtain ⟨hk2, _, _, _, hil⟩ := findR_some hf
  have Hf := Lib.hid hf
  have Hd := Lib.hid hd
  clear hf hd
  have h' := h.keptF ((Kept.refl _ w).alloc (.cells #[.int .i64 0, .int .i64 0, .int .i64 0, .int .i64 0, .int .i64 0] 31))
  go_enter Try.func19, Try.ntmps19
  go_wp2_with fail
  refine (find_any h' id).mono ?_
  rintro e w' hp
  obtain ⟨rfl, hk⟩ := hp.1 k i Hf.out
  clear hp
  have hk3 : Kept (fun _ => False) w w' := ((Kept.refl _ _).alloc _).trans hk
  have hb : w'.heap[w.heap.size]? = some (.cells #[.int .i64 0, .int .i64 0, .int .i64 0, .int .i64 0, .int .i64 0] 31 (0, 0)) := (hk.block _ (by simp) (fun h => h)).trans (block_alloc_new _ _)
  have c0 : w'.cell? ⟨w.heap.size, 0, none⟩ = some (.int .i64 0) := by rw [cell_of_block hb]; rfl
  have c1 : w'.cell? ⟨w.heap.size, 1, none⟩ = some (.int .i64 0) := by rw [cell_of_block hb]; rfl
  have c2 : w'.cell? ⟨w.heap.size, 2, none⟩ = some (.int .i64 0) := by rw [cell_of_block hb]; rfl
  have c3 : w'.cell? ⟨w.heap.size, 3, none⟩ = some (.int .i64 0) := by rw [cell_of_block hb]; rfl
  have c4 : w'.cell? ⟨w.heap.size, 4, none⟩ = some (.int .i64 0) := by rw [cell_of_block hb]; rfl
  have f0 := free_of_block hb
  have hs := lt_of_block hb
  have hR := h'.keptF hk
  have hrow := hR.row hk2
  have hsl := hR.sl k hk2
  have hrl : (R k).length ≤ 256 := by have := hR.few; match k, hk2 with | 0, _ => omega | 1, _ => omega
  obtain ⟨t, o, hp⟩ := sl_some hsl (by omega)
  rw [hp] at hsl hrow
  have hne : t ≠ w.heap.size := fun e => by have := h.ok k hk2 ⟨t, o, none⟩ hp; have h2 := h.new w.heap.size (Nat.le_refl _); rw [← e] at h2; rw [h2] at this; cases this
  obtain ⟨x0, x1, x2, x3, x4⟩ := od_cells hsl rfl Hd.out
  generalize (R k).length = n at hil hrow hrl
  clear hsl hp hR h' h
  go_wp2
  obtain ⟨hb5, hk5⟩ := put5_law hb d
  change bodyPost _ _ _ _ _ (put5 w' w.heap.size d)
  generalize put5 w' w.heap.size d = wf at hb5 hk5 ⊢
  clear c0 c1 c2 c3 c4 f0 x0 x1 x2 x3 x4
  have c0 : wf.cell? ⟨w.heap.size, 0, none⟩ = some (.int .i64 d.id) := by rw [cell_of_block hb5]; rfl
  have c1 : wf.cell? ⟨w.heap.size, 1, none⟩ = some (.int .i64 d.owner) := by rw [cell_of_block hb5]; rfl
  have c2 : wf.cell? ⟨w.heap.size, 2, none⟩ = some (.int .i64 d.side) := by rw [cell_of_block hb5]; rfl
  have c3 : wf.cell? ⟨w.heap.size, 3, none⟩ = some (.int .i64 d.net) := by rw [cell_of_block hb5]; rfl
  have c4 : wf.cell? ⟨w.heap.size, 4, none⟩ = some (.int .i64 d.units) := by rw [cell_of_block hb5]; rfl
  refine bodyPost_ret (v := .tuple #[.agg #[.int .i64 d.id, .int .i64 d.owner, .int .i64 d.side, .int .i64 d.net, .int .i64 d.units], .bool true]) (by simp [results, Try.results19, go_sem, c0, c1, c2, c3, c4]) rfl ⟨rfl, ?_⟩
  exact hk3.trans' (G := fun i => i = w.heap.size) hk5 (fun i hi e => by omega)

def LenPost (n : Nat) (w : World) (e : Ending) (w' : World) : Prop := e = .returned (.int .i64 n) ∧ ∃ q, w' = w.drewN q
theorem len_any {w : World} {a : Nat} {R : Nat → List Od} {p : Nat → Option Addr} {c : Nat → Nat} {O : Nat → Nat} (h : BkAt w a R p c O) :
    Calls Try.prog 25 #[.pointer (some ⟨a, 0, none⟩)] w (LenPost ((R 0).length + (R 1).length) w) := by
  have c0 := h.row (k := 0) (by decide)
  have c1 := h.row (k := 1) (by decide)
  have hf := h.few
  have s1 : IntKind.i64.wrap (((R 0).length : Int) + (R 1).length) = (R 0).length + (R 1).length := IntWalk.i64_in _ (by omega)
  clear h
  go_enter Try.func25, Try.ntmps25
  go_wp2
  go_quiet (fail)
  go_wp2
  go_ret
  exact ⟨ret_int (by omega), _, rfl⟩
def NewPost (w : World) (e : Ending) (w' : World) : Prop := ∃ a O, e = .returned (.pointer (some ⟨a, 0, none⟩)) ∧ BkAt w' a (fun _ => []) (fun _ => none) (fun _ => 0) O ∧ Kept (fun _ => False) w w' ∧ ∀ i, i < w.heap.size → O i = 0
theorem new_any (w : World) : Calls Try.prog 8 #[] w (NewPost w) := by
  go_enter Try.func8, Try.ntmps8
  go_wp2
  go_ret
  refine ⟨w.heap.size, fun i => if i = w.heap.size then 3 else 0, rfl, ⟨block_alloc_new _ _, fun k _ => SlAt.nil _ _ _, by simp, fun k _ t ht => by (cases ht), fun i hi => ?_, by simp⟩, (Kept.refl _ _).alloc _, fun i hi => ?_⟩
  · simp at hi; exact if_neg (by omega)
  · exact if_neg (by omega)
end Go.Proofs.Ytopfgcnehdjjpaa
