/- The walks of the switch: off, count, enable, new. -/
import Derived.Test.YtpcacnlkhicekaaKd
import Derived.Carry
namespace Go.Proofs.Ytpcacnlkhicekaa
open Go.RowKit

theorem off_any {w : World} {k mb : Nat} {s : KS} {O : Nat → Option (Option Int)} {B : Int → Option Nat} (h : SwAt w k mb s O B) (n : Int) :
    Calls Try.prog 8 #[.pointer (some ⟨k, 0, none⟩), .int .i64 n] w fun e w' => w = w' ∧ e = .returned (.bool (s.m n).off) := by
  obtain ⟨es, clock, hm, hf⟩ := h.mp
  have c2 : w.cell? ⟨k, 2, none⟩ = some (.map (some mb)) := by rw [cell_of_block h.sw]; rfl
  cases hb : B n with
  | none =>
    have hrun := run_look hm (hb ▸ hf n)
    have hz := h.no n hb
    have Hz := Lib.hid hz
    clear hm hf hb hz
    go_enter Try.func8, Try.ntmps8
    go_wp2
    go_ret
    exact ⟨rfl, by rw [Hz.out]; rfl⟩
  | some b =>
    have hrun := run_look hm (hb ▸ hf n)
    obtain ⟨_, a, cap, hmk, _⟩ := h.at_ n b hb
    have e0 : w.cell? ⟨b, 0, none⟩ = some (.bool (s.m n).off) := by rw [cell_of_block hmk.1]; rfl
    clear hm hf hb hmk
    go_enter Try.func8, Try.ntmps8
    go_wp2
    go_ret
    exact ⟨rfl, rfl⟩

def countM (s : KS) (x : Mk) (now : Int) : Int := if x.off = true then 0 else cnt s.window (atM x now) x.times

theorem kcount_gen {w : World} {k mb : Nat} {s : KS} {O : Nat → Option (Option Int)} {B : Int → Option Nat} (h : SwAt w k mb s O B) (n now : Int) (hlen : (s.m n).off = false → (s.m n).times.length ≤ 1000) :
    Calls Try.prog 9 #[.pointer (some ⟨k, 0, none⟩), .int .i64 n, .int .i64 now] w fun e w' => w = w' ∧ e = .returned (.int .i64 (countM s (s.m n) now)) := by
  obtain ⟨es, clock, hm, hf⟩ := h.mp
  have c2 : w.cell? ⟨k, 2, none⟩ = some (.map (some mb)) := by rw [cell_of_block h.sw]; rfl
  have c1 : w.cell? ⟨k, 1, none⟩ = some (.int .i64 s.window) := by rw [cell_of_block h.sw]; rfl
  cases hb : B n with
  | none =>
    have hrun := run_look hm (hb ▸ hf n)
    have hz := h.no n hb
    have Hz := Lib.hid hz
    clear hm hf hb hz
    go_enter Try.func9, Try.ntmps9
    go_wp2
    go_ret
    exact ⟨rfl, by rw [Hz.out]; rfl⟩
  | some b =>
    have hrun := run_look hm (hb ▸ hf n)
    obtain ⟨_, a, cap, hmk, _⟩ := h.at_ n b hb
    have e0 : w.cell? ⟨b, 0, none⟩ = some (.bool (s.m n).off) := by rw [cell_of_block hmk.1]; rfl
    have e1 : w.cell? ⟨b, 1, none⟩ = some (.int .i64 (s.m n).last) := by rw [cell_of_block hmk.1]; rfl
    have e2 : w.cell? ⟨b, 2, none⟩ = some (.bool (s.m n).any) := by rw [cell_of_block hmk.1]; rfl
    have e3 : w.cell? ⟨b, 3, none⟩ = some (.slice a (s.m n).times.length cap) := by rw [cell_of_block hmk.1]; rfl
    have hsl := hmk.2
    clear hm hf hb hmk
    cases hoff : (s.m n).off with
    | true =>
      rw [hoff] at e0
      have Hoff := Lib.hid hoff
      clear hoff
      go_enter Try.func9, Try.ntmps9
      go_wp2
      go_ret
      exact ⟨rfl, ret_int (by rw [countM, if_pos Hoff.out])⟩
    | false =>
      rw [hoff] at e0
      have Hoff := Lib.hid hoff
      have Hl := Lib.hid (hlen hoff)
      clear hoff hlen
      go_enter Try.func9, Try.ntmps9
      go_wp2_with fail
      refine (at_any w b _ _ _ e1 e2).mono ?_
      rintro e w' ⟨rfl, rfl⟩
      generalize hT : (if (s.m n).any = true ∧ now < (s.m n).last then (s.m n).last else now) = T
      have HT := Lib.hid hT
      clear hT
      go_wp2_with fail
      refine (count_any (W := s.window) (now := T) (xs := (s.m n).times) c1 e3 hsl (by have := Hl.out; omega)).mono ?_
      rintro e w' ⟨rfl, rfl⟩
      go_wp2
      go_ret
      exact ⟨rfl, ret_int (by rw [countM, if_neg (by rw [Hoff.out]; simp), show atM (s.m n) now = T from HT.out])⟩

theorem kcount_any {w : World} {k mb : Nat} {s : KS} {O : Nat → Option (Option Int)} {B : Int → Option Nat} (h : SwAt w k mb s O B) (n now : Int) (hlen : (s.m n).times.length ≤ 1000) :
    Calls Try.prog 9 #[.pointer (some ⟨k, 0, none⟩), .int .i64 n, .int .i64 now] w fun e w' => w = w' ∧ e = .returned (.int .i64 (countM s (s.m n) now)) := kcount_gen h n now fun _ => hlen

theorem enable_any {w : World} {k mb : Nat} {s : KS} {O : Nat → Option (Option Int)} {B : Int → Option Nat} (h : SwAt w k mb s O B) (n : Int) :
    Calls Try.prog 10 #[.pointer (some ⟨k, 0, none⟩), .int .i64 n] w (FillPost k mb s O n (s.m n).off ⟨false, (s.m n).last, (s.m n).any, (s.m n).times⟩ w) := by
  cases hoff : (s.m n).off with
  | false =>
    have Hoff := Lib.hid hoff
    clear hoff
    go_enter Try.func10, Try.ntmps10
    go_wp2_with fail
    refine (off_any h n).mono ?_
    rintro e w' ⟨rfl, rfl⟩
    rw [Hoff.out]
    go_wp2
    go_ret
    exact ⟨O, B, rfl, by have := set_self s n; rw [← Hoff.out]; exact this.symm ▸ h, Grow.refl _ _⟩
  | true =>
    obtain ⟨es, clock, hm, hf⟩ := h.mp
    have c2 : w.cell? ⟨k, 2, none⟩ = some (.map (some mb)) := by rw [cell_of_block h.sw]; rfl
    obtain ⟨b, hb⟩ : ∃ b, B n = some b := by
      cases hb : B n with
      | none => rw [h.no n hb] at hoff; cases hoff
      | some b => exact ⟨b, rfl⟩
    have hrun := run_look hm (hb ▸ hf n)
    obtain ⟨ho, a, cap, hmk, ht⟩ := h.at_ n b hb
    have e0 : w.cell? ⟨b, 0, none⟩ = some (.bool (s.m n).off) := by rw [cell_of_block hmk.1]; rfl
    have f0 := free_of_block hmk.1 0
    have hkept : ∀ i, i < w.heap.size → O i ≠ some (some n) → (w.setCell ⟨b, 0, none⟩ (.bool false)).heap[i]? = w.heap[i]? := by
      intro i hi hne
      exact Below.heap_setCell _ _ _ _ (fun e => hne (by rw [e]; exact ho))
    have hfin : SwAt (w.setCell ⟨b, 0, none⟩ (.bool false)) k mb (s.set n ⟨false, (s.m n).last, (s.m n).any, (s.m n).times⟩) O B := by
      refine h.put hb hkept (fun _ _ => rfl) (a := a) (cap := cap) ⟨by rw [block_setCell hmk.1 0 _]; rfl, hmk.2.kept fun t hta => Below.heap_setCell _ _ _ _ fun e => hmk.ne (by rw [hta]; show some b = some t.block; rw [show t.block = b from e])⟩ ht
    have hgr : Grow O O w (w.setCell ⟨b, 0, none⟩ (.bool false)) := ⟨(Kept.refl _ _).setCell (fun _ => by show O b ≠ none; rw [ho]; simp) _, fun _ _ => rfl⟩
    have Hoff := Lib.hid hoff
    clear hoff hm hf hb hmk ht ho hkept
    go_enter Try.func10, Try.ntmps10
    go_wp2_with fail
    refine (off_any h n).mono ?_
    rintro e w' ⟨rfl, rfl⟩
    rw [Hoff.out]
    go_wp2
    go_ret
    exact ⟨O, B, rfl, hfin, hgr⟩

def KS.new (f wd : Int) : KS := ⟨f, wd, fun _ => Mk.zero⟩
theorem new_bad {w : World} {f wd : Int} (h : ¬ (1 ≤ f ∧ f ≤ 1000 ∧ 1 ≤ wd ∧ wd ≤ 1000000)) :
    Calls Try.prog 6 #[.int .i64 f, .int .i64 wd] w fun e w' => w = w' ∧ e = .returned (.tuple #[.pointer none, .int .i64 1]) := by
  go_enter Try.func6, Try.ntmps6
  go_wp2
  all_goals go_ret2
  all_goals exact ⟨rfl, rfl⟩
def NewPost (f wd : Int) (w : World) (e : Ending) (w' : World) : Prop :=
  ∃ k mb O B, e = .returned (.tuple #[.pointer (some ⟨k, 0, none⟩), .int .i64 0]) ∧ SwAt w' k mb (KS.new f wd) O B ∧ Kept (fun _ => False) w w' ∧ (∀ i, i < w.heap.size → O i = none)
theorem new_good {w : World} {f wd : Int} (h : 1 ≤ f ∧ f ≤ 1000 ∧ 1 ≤ wd ∧ wd ≤ 1000000) :
    Calls Try.prog 6 #[.int .i64 f, .int .i64 wd] w (NewPost f wd w) := by
  obtain ⟨h1, h2, h3, h4⟩ := h
  have g1 : ¬ f < 1 := by omega
  have g2 : ¬ 1000 < f := by omega
  have g3 : ¬ wd < 1 := by omega
  have g4 : ¬ 1000000 < wd := by omega
  have hmm := @run_makeMap Try.prog
  go_enter Try.func6, Try.ntmps6
  go_wp2
  go_ret2
  refine ⟨w.heap.size + 1, w.heap.size, fun i => if i = w.heap.size ∨ i = w.heap.size + 1 then some none else none, fun _ => none, rfl, ⟨?_, ⟨#[], 0, ?_, fun n => ?_⟩, ?_, ?_, fun _ _ => rfl, fun n b hb => by cases hb⟩, ((Kept.refl _ w).alloc _).alloc _, fun i hi => ?_⟩
  · rw [show w.heap.size + 1 = (w.alloc (.map #[] 0)).heap.size by simp]; exact block_alloc_new _ _
  · exact block_alloc (block_alloc_new _ _)
  · rfl
  · simp
  · simp
  · simp; omega
end Go.Proofs.Ytpcacnlkhicekaa
