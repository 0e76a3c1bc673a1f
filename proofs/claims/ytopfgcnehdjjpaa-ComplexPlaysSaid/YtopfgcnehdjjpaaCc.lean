/- The book of complex orders: find, Get: the walks. -/
import Derived.Test.YtopfgcnehdjjpaaCb
namespace Go.Proofs.Ytopfgcnehdjjpaa
open Go.RowKit

def findR (R : Nat → List Od) (id : Int) : Option (Nat × Nat) := match idxN (R 0) id with
  | some i => some (0, i)
  | none => match idxN (R 1) id with
    | some i => some (1, i)
    | none => none
theorem findR_some {R : Nat → List Od} {id : Int} {k i : Nat} (h : findR R id = some (k, i)) : k < 2 ∧ ∃ d, (R k)[i]? = some d ∧ d.id = id ∧ i < (R k).length := by
  unfold findR at h
  cases h0 : idxN (R 0) id with
  | some j => rw [h0] at h; simp at h; obtain ⟨rfl, rfl⟩ := h; exact ⟨by omega, idxN_some h0⟩
  | none =>
    rw [h0] at h
    cases h1 : idxN (R 1) id with
    | some j => rw [h1] at h; simp at h; obtain ⟨rfl, rfl⟩ := h; exact ⟨by omega, idxN_some h1⟩
    | none => rw [h1] at h; simp at h

def FYes (k i : Nat) (w : World) (e : Ending) (w' : World) : Prop := e = .returned (.tuple #[.int .i64 k, .int .i64 i, .bool true]) ∧ Kept (fun _ => False) w w'
def FNo (w : World) (e : Ending) (w' : World) : Prop := e = .returned (.tuple #[.int .i64 0, .int .i64 0, .bool false]) ∧ Kept (fun _ => False) w w'
def FPost (R : Nat → List Od) (id : Int) (w : World) (e : Ending) (w' : World) : Prop := (∀ k i, findR R id = some (k, i) → FYes k i w e w') ∧ (findR R id = none → FNo w e w')
def FRel (R : Nat → List Od) (id : Int) (q : Nat) (w : World) (iv : Value) (wr : World) : Prop := ∃ k : Nat, k ≤ 2 ∧ iv = .int .i64 k ∧ (1 ≤ k → idxN (R 0) id = none) ∧ (2 ≤ k → idxN (R 1) id = none) ∧ Kept (fun _ => False) w wr ∧ wr.heap[q]? = some (.cells #[.int .i64 id] 2 (0, 0))

set_option maxHeartbeats 1000000 in
theorem find_any {w : World} {a : Nat} {R : Nat → List Od} {p : Nat → Option Addr} {c : Nat → Nat} {O : Nat → Nat} (h : BkAt w a R p c O) (id : Int) :
    Calls Try.prog 34 #[.pointer (some ⟨a, 0, none⟩), .int .i64 id] w (FPost R id w) := by
  have hmf : ∀ (fn : Fn) (first cap : Array Value) (w : World), (Instr.makeFunc fn first cap).run Try.prog w = .ok (.func fn first cap) w := fun _ _ _ _ => rfl
  go_enter Try.func34, Try.ntmps34
  go_wp2
  have hstart : FRel R id w.heap.size w (.int .i64 0) (w.alloc (.cells #[.int .i64 id] 2)) := ⟨0, by omega, rfl, (fun h => by omega), (fun h => by omega), (Kept.refl _ _).alloc _, block_alloc_new _ _⟩
  generalize w.heap.size = q at hstart ⊢
  generalize w.alloc (.cells #[.int .i64 id] 2) = w0 at hstart ⊢
  go_loopw [9] (fun iv wr => FRel R id q w iv wr) (fun iv _ => 2 - (intOf iv).toNat)
  case atStart => exact hstart
  case round =>
    obtain ⟨k, hk, rfl, h0, h1, hkept, hq⟩ := hrel
    clear hstart
    have hr := h.keptF hkept
    have hqc : wr.cell? ⟨q, 0, none⟩ = some (.int .i64 id) := by rw [cell_of_block hq]; rfl
    have hqs := lt_of_block hq
    have hf := hr.few
    have Hq := Lib.hid hq
    have H0 := Lib.hid h0
    have H1 := Lib.hid h1
    clear hq h0 h1
    match k, hk with
    | 0, _ =>
      have c0 := hr.row (k := 0) (by decide)
      cases hi : idxN (R 0) id with
      | some i =>
        have hil := (idxN_some hi).choose_spec.2.2
        have hI : idxI (R 0) id = i := by rw [idxI, hi]
        have hfin : findR R id = some (0, i) := by rw [findR, hi]
        have HI := Lib.hid hI
        have Hfin := Lib.hid hfin
        clear hI hfin hi
        go_wp2_with fail
        refine (idx_any _ _ _ q id _ (hr.sl 0 (by decide)) hqc (by omega)).mono ?_
        rintro e w' ⟨rfl, hk'⟩
        rw [HI.out]
        go_wp2
        go_ret3
        refine ⟨fun k' i' hh => ?_, fun hh => by rw [Hfin.out] at hh; cases hh⟩
        rw [Hfin.out] at hh; cases hh
        exact ⟨rfl, hkept.trans hk'⟩
      | none =>
        have hI : idxI (R 0) id = -1 := by rw [idxI, hi]
        have HI := Lib.hid hI
        have Hi := Lib.hid hi
        clear hI hi
        go_wp2_with fail
        refine (idx_any _ _ _ q id _ (hr.sl 0 (by decide)) hqc (by omega)).mono ?_
        rintro e w' ⟨rfl, hk'⟩
        rw [HI.out]
        go_wp2
        exact ⟨⟨1, by omega, rfl, fun _ => Hi.out, fun h => by omega, hkept.trans hk', (hk'.block q hqs (fun h => h)).trans Hq.out⟩, by simp [intOf]⟩
    | 1, _ =>
      have c0 := hr.row (k := 1) (by decide)
      cases hi : idxN (R 1) id with
      | some i =>
        have hil := (idxN_some hi).choose_spec.2.2
        have hI : idxI (R 1) id = i := by rw [idxI, hi]
        have hfin : findR R id = some (1, i) := by rw [findR, H0.out (by omega), hi]
        have HI := Lib.hid hI
        have Hfin := Lib.hid hfin
        clear hI hfin hi
        go_wp2_with fail
        refine (idx_any _ _ _ q id _ (hr.sl 1 (by decide)) hqc (by omega)).mono ?_
        rintro e w' ⟨rfl, hk'⟩
        rw [HI.out]
        go_wp2
        go_ret3
        refine ⟨fun k' i' hh => ?_, fun hh => by rw [Hfin.out] at hh; cases hh⟩
        rw [Hfin.out] at hh; cases hh
        exact ⟨rfl, hkept.trans hk'⟩
      | none =>
        have hI : idxI (R 1) id = -1 := by rw [idxI, hi]
        have HI := Lib.hid hI
        have Hi := Lib.hid hi
        clear hI hi
        go_wp2_with fail
        refine (idx_any _ _ _ q id _ (hr.sl 1 (by decide)) hqc (by omega)).mono ?_
        rintro e w' ⟨rfl, hk'⟩
        rw [HI.out]
        go_wp2
        exact ⟨⟨2, by omega, rfl, fun _ => H0.out (by omega), fun h => Hi.out, hkept.trans hk', (hk'.block q hqs (fun h => h)).trans Hq.out⟩, by simp [intOf]⟩
    | 2, _ =>
      have hfin : findR R id = none := by rw [findR, H0.out (by omega)]; show (match idxN (R 1) id with | some i => some (1, i) | none => none) = none; rw [H1.out (by omega)]
      have Hfin := Lib.hid hfin
      clear hfin
      go_wp2
      go_ret3
      exact ⟨fun k' i' hh => by (rw [Hfin.out] at hh; cases hh), fun _ => ⟨rfl, hkept⟩⟩
end Go.Proofs.Ytopfgcnehdjjpaa
