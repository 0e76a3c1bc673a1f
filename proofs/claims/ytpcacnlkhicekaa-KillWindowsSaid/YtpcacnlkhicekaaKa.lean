/- The words of a switch in memory, and its map. -/
import Derived.Test.YtpcacnlkhicekaaSl
namespace Go.Proofs.Ytpcacnlkhicekaa
open Go.RowKit

structure Mk where
  off : Bool
  last : Int
  any : Bool
  times : List Int
def Mk.zero : Mk := ⟨false, 0, false, []⟩
structure KS where
  fills : Int
  window : Int
  m : Int → Mk

def MkAt (w : World) (b : Nat) (a : Option Addr) (cap : Nat) (x : Mk) : Prop :=
  w.heap[b]? = some (.cells #[.bool x.off, .int .i64 x.last, .bool x.any, .slice a x.times.length cap] 41 (0, 0)) ∧ SlAt w 2 1 a x.times.length cap (x.times.map (Value.int .i64))

def Finds (es : Array MapEntry) (n : Int) : Option Nat → Prop
  | none => Instr.findNow (.int .i64) (.int .i64 n) es.toList 0 = some none
  | some b => ∃ i, Instr.findNow (.int .i64) (.int .i64 n) es.toList 0 = some (some (i, .pointer (some ⟨b, 0, none⟩)))

structure SwAt (w : World) (k mb : Nat) (s : KS) (O : Nat → Option (Option Int)) (B : Int → Option Nat) : Prop where
  sw : w.heap[k]? = some (.cells #[.int .i64 s.fills, .int .i64 s.window, .map (some mb)] 36 (0, 0))
  mp : ∃ es clock, w.heap[mb]? = some (.map es clock) ∧ ∀ n, Finds es n (B n)
  ok : O k = some none
  om : O mb = some none
  no : ∀ n, B n = none → s.m n = Mk.zero
  at_ : ∀ n b, B n = some b → O b = some (some n) ∧ ∃ a cap, MkAt w b a cap (s.m n) ∧ ∀ t, a = some t → O t.block = some (some n)

/-- What one step may do: it writes what is owned, and owns more of what is new. -/
def Grow (O O' : Nat → Option (Option Int)) (w w' : World) : Prop := Kept (fun b => O b ≠ none) w w' ∧ ∀ b, b < w.heap.size → O' b = O b
theorem Grow.refl (O : Nat → Option (Option Int)) (w : World) : Grow O O w w := ⟨Kept.refl _ _, fun _ _ => rfl⟩
theorem Grow.trans {O O' O'' : Nat → Option (Option Int)} {a b c : World} (h : Grow O O' a b) (k : Grow O' O'' b c) : Grow O O'' a c :=
  ⟨h.1.trans' k.1 fun i hi hG => by rw [← h.2 i hi]; exact hG, fun i hi => (k.2 i (Nat.lt_of_lt_of_le hi h.1.size)).trans (h.2 i hi)⟩

theorem findNow_push {n n' : Int} {v : Value} {bn : Nat} : ∀ (l : List MapEntry) (i : Nat), Instr.findNow (.int .i64) (.int .i64 n) l i = some none →
    Instr.findNow (.int .i64) (.int .i64 n) (l ++ [{ key := .int .i64 n', val := v, born := bn }]) i = some (if n = n' then some (i + l.length, v) else none)
  | [], i, _ => by
    by_cases e : n = n'
    · simp [Instr.findNow, Instr.sameNow, e]
    · have e' : (n == n') = false := by simpa using e
      simp [Instr.findNow, Instr.sameNow, e, e']
  | x :: l, i, h => by
    simp only [List.cons_append, Instr.findNow] at h ⊢
    split at h
    · cases h
    · rw [findNow_push l (i + 1) h]
      rw [List.length_cons, show i + 1 + l.length = i + (l.length + 1) by omega]
    · cases h
theorem findNow_push_some {n n' : Int} {v : Value} {bn : Nat} {r : Nat × Value} : ∀ (l : List MapEntry) (i : Nat), Instr.findNow (.int .i64) (.int .i64 n) l i = some (some r) →
    Instr.findNow (.int .i64) (.int .i64 n) (l ++ [{ key := .int .i64 n', val := v, born := bn }]) i = some (some r)
  | [], i, h => by simp [Instr.findNow] at h
  | x :: l, i, h => by
    simp only [List.cons_append, Instr.findNow] at h ⊢
    split at h
    · exact h
    · exact findNow_push_some l (i + 1) h
    · cases h

theorem Finds.push {es : Array MapEntry} {n n' : Int} {r : Option Nat} {b c : Nat} (h : Finds es n r) (hn : Finds es n' none) :
    Finds (es.push { key := .int .i64 n', val := .pointer (some ⟨b, 0, none⟩), born := c }) n (if n = n' then some b else r) := by
  cases r with
  | none =>
    by_cases e : n = n'
    · rw [if_pos e]
      exact ⟨_, by rw [Array.toList_push, findNow_push _ _ h, if_pos e]⟩
    · rw [if_neg e]
      show Instr.findNow _ _ _ _ = _
      rw [Array.toList_push, findNow_push _ _ h, if_neg e]
  | some x =>
    obtain ⟨i, hi⟩ := h
    by_cases e : n = n'
    · subst e
      have : (some none : Option (Option (Nat × Value))) = some (some (i, Value.pointer (some ⟨x, 0, none⟩))) := (show Instr.findNow _ _ _ _ = _ from hn).symm.trans hi
      cases this
    · rw [if_neg e]
      exact ⟨i, by rw [Array.toList_push]; exact findNow_push_some _ _ hi⟩

theorem run_find {w : World} {n : Int} {es : Array MapEntry} {r : Option (Nat × Value)} (hf : Instr.findNow (.int .i64) (.int .i64 n) es.toList 0 = some r) :
    (Instr.findKey 3 (.int .i64 n) es.toList).run Try.prog w = .ok r w := by
  simp [Instr.findKey, run_underlying Try.underlying3, hf]

theorem run_check {w : World} {n : Int} (b : Bool) : (Instr.checkKey b 10000 3 (.int .i64 n)).run Try.prog w = .ok () w := by
  show (Instr.checkKey b (9999 + 1) 3 (.int .i64 n)).run Try.prog w = _
  generalize 9999 = k
  simp [Instr.checkKey, run_underlying Try.underlying3]

theorem zero37 (w : World) : (zeroValue 37).run Try.prog w = .ok (.pointer none) w := by kernel_rfl

theorem run_look {w : World} {mb clock : Nat} {es : Array MapEntry} {n : Int} {r : Option Nat} (h : w.heap[mb]? = some (.map es clock)) (hf : Finds es n r) :
    (Instr.lookup 34 (.map (some mb)) (.int .i64 n) false).run Try.prog w = .ok (.pointer (r.map fun b => ⟨b, 0, none⟩)) w := by
  cases r with
  | none => simp [Instr.lookup, run_underlying Try.underlying34, MapKept.run_getObj_map h, run_check, run_find (show Instr.findNow _ _ _ _ = _ from hf), Result.andThen]
  | some b =>
    obtain ⟨i, hi⟩ := hf
    simp [Instr.lookup, run_underlying Try.underlying34, MapKept.run_getObj_map h, run_check, run_find hi, Result.andThen]

theorem run_put {w : World} {mb clock : Nat} {es : Array MapEntry} {n : Int} {v : Value} (h : w.heap[mb]? = some (.map es clock)) (hf : Finds es n none) :
    (Instr.mapUpdate 34 (.map (some mb)) (.int .i64 n) v).run Try.prog w = .ok () { w with heap := w.heap.setIfInBounds mb (.map (es.push { key := .int .i64 n, val := v, born := clock }) (clock + 1)) } := by
  simp [Instr.mapUpdate, run_underlying Try.underlying34, MapKept.run_getObj_map h, run_check, run_find (show Instr.findNow _ _ _ _ = _ from hf), MapKept.run_setObj_map _ h, Result.andThen]

end Go.Proofs.Ytpcacnlkhicekaa
