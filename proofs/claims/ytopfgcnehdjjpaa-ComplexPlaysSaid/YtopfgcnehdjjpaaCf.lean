/- slices.Insert of one complex order: the walks. -/
import Derived.Test.YtopfgcnehdjjpaaCe
import Derived.Lib.Overlaps
import Derived.Lib.AppendZerosOnto
namespace Go.Proofs.Ytopfgcnehdjjpaa
open Go.RowKit

def insAt (xs : List Od) (i : Nat) (d : Od) : List Od := xs.take i ++ d :: xs.drop i
theorem insAt_len {xs : List Od} {i : Nat} (d : Od) (h : i ≤ xs.length) : (insAt xs i d).length = xs.length + 1 := by
  simp [insAt]; omega
theorem insAt_end (xs : List Od) (d : Od) : (insAt xs xs.length d).flatMap odC = xs.flatMap odC ++ odC d := by simp [insAt]
theorem Try.info31' : (Try.prog.info? 31).map (fun i => (i.zero, i.size, i.bytes)) = some (some (.agg #[.int .i64 0, .int .i64 0, .int .i64 0, .int .i64 0, .int .i64 0]), 5, 40) := by kernel_rfl
theorem odC_one (d : Od) : ∀ u ∈ odC d, u.oneCell' = true := by
  intro u hu
  simp [odC] at hu
  rcases hu with rfl | rfl | rfl | rfl | rfl <;> rfl

def InsPost (p : Option Addr) (ys : List Od) (w : World) (e : Ending) (w' : World) : Prop :=
  ∃ p' c', e = .returned (.slice p' ys.length c') ∧ SlAt w' 31 5 p' ys.length c' (ys.flatMap odC) ∧ Kept (OnB p) w w' ∧ ∀ t, p' = some t → p.map (·.block) = some t.block ∨ w.heap.size ≤ t.block

/-- At the end. -/
theorem ins_end (p : Option Addr) (cap : Nat) (xs : List Od) (d : Od) (vb : Nat) (w : World) (h : SlAt w 31 5 p xs.length cap (xs.flatMap odC)) (hv : w.heap[vb]? = some (.cells (odC d).toArray 31 (0, 0))) (h256 : xs.length ≤ 256) :
    Calls Try.prog 31 #[.slice p xs.length cap, .int .i64 xs.length, .slice (some ⟨vb, 0, none⟩) 1 1] w (InsPost p (insAt xs xs.length d) w) := by
  obtain ⟨i0, hi0, hz0, hz1, hz2⟩ := info_parts Try.info31'
  have hcap := h.2.1
  have hw : (w.alloc (.cells #[] 31)).heap.size = w.heap.size + 1 := by simp
  have hsrc : SlAt w 31 5 (some ⟨vb, 0, none⟩) 1 1 (odC d) := SlAt.one hv rfl
  have hfin : ∀ p' c' w', SlAt w' 31 5 p' (xs.length + 1) c' (xs.flatMap odC ++ odC d) → w.grownBy w' (p.map (·.block)) → (∀ t, p' = some t → p.map (·.block) = some t.block ∨ w.heap.size ≤ t.block) →
      InsPost p (insAt xs xs.length d) w (.returned (.slice p' (xs.length + 1) c')) w' := fun p' c' w' h1 h2 h3 =>
    ⟨p', c', by rw [insAt_len _ (Nat.le_refl _)], by rw [insAt_len _ (Nat.le_refl _), insAt_end]; exact h1, Kept.of_grownB h2, h3⟩
  have Hfin := Lib.hid hfin
  clear hfin hw
  cases p with
  | none =>
    have h0 : xs.length = 0 ∧ cap = 0 := by
      rcases h.2.2 with ⟨_, h2⟩ | ⟨t, o, arr, ha, _⟩
      · omega
      · cases ha
    obtain ⟨h0, rfl⟩ := h0
    obtain rfl : xs = [] := List.eq_nil_of_length_eq_zero h0
    clear h0
    go_enter Try.func31, Try.ntmps31
    go_wp2_with (at_builtin; refine wpList_append_any rfl (.tmp 23) (.tmp 24) 61 rfl 31 i0 _ 5 40 Try.underlying61 hi0 hz0 hz1 hz2 rfl (by decide) none 0 0 [] rfl h (some ⟨vb, 0, none⟩) 1 1 (odC d) rfl hsrc (odC_one d) (by unfold maxLen; omega) (by omega) ?_; intro p' c' w' hsl hg hb)
    go_ret
    exact Hfin.out p' c' w' hsl hg hb
  | some a =>
    obtain ⟨t, o, ha⟩ : ∃ t o, a = ⟨t, o, none⟩ := by
      rcases h.2.2 with ⟨h2, _⟩ | ⟨t, o, arr, ha, _⟩
      · cases h2
      · exact ⟨t, o, by cases ha; rfl⟩
    subst ha
    by_cases hc : cap = xs.length
    · subst hc
      go_enter Try.func31, Try.ntmps31
      go_wp2_with (at_builtin; refine wpList_append_any rfl (.tmp 23) (.tmp 24) 61 rfl 31 i0 _ 5 40 Try.underlying61 hi0 hz0 hz1 hz2 rfl (by decide) (some ⟨t, o, none⟩) xs.length xs.length (xs.flatMap odC) rfl h (some ⟨vb, 0, none⟩) 1 1 (odC d) rfl hsrc (odC_one d) (by unfold maxLen; omega) (by omega) ?_; intro p' c' w' hsl hg hb)
      go_ret
      exact Hfin.out p' c' w' hsl hg hb
    · have hc' : ¬ cap = xs.length := hc
      go_enter Try.func31, Try.ntmps31
      go_wp2_with (at_builtin; refine wpList_append_any rfl (.tmp 23) (.tmp 24) 61 rfl 31 i0 _ 5 40 Try.underlying61 hi0 hz0 hz1 hz2 rfl (by decide) (some ⟨t, o, none⟩) xs.length cap (xs.flatMap odC) rfl h (some ⟨vb, 0, none⟩) 1 1 (odC d) rfl hsrc (odC_one d) (by unfold maxLen; omega) (by omega) ?_; intro p' c' w' hsl hg hb)
      go_ret
      exact Hfin.out p' c' w' hsl hg hb
end Go.Proofs.Ytopfgcnehdjjpaa
