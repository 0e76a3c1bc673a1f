/- The book of complex orders: Insert: the walks. -/
import Derived.Test.YtopfgcnehdjjpaaCg
namespace Go.Proofs.Ytopfgcnehdjjpaa
open Go.RowKit

theorem SlAt.ne_blk {w : World} {b E E' size len cap : Nat} {t : Addr} {xs : List Value} {cs : Array Value} {f : Nat × Nat} (h' : SlAt w E' size (some t) len cap xs) (h : w.heap[b]? = some (.cells cs E f)) (hE : E ≠ E') : t.block ≠ b := by
  rcases h'.2.2 with ⟨h2, _⟩ | ⟨t', o, arr, ha, hb, _⟩
  · cases h2
  · cases ha
    intro e
    have e' : t' = b := e
    rw [e', h] at hb; cases hb; exact hE rfl
theorem ins_any (p : Option Addr) (cap : Nat) (xs : List Od) (d : Od) (vb i : Nat) (w : World) (h : SlAt w 31 5 p xs.length cap (xs.flatMap odC)) (hv : w.heap[vb]? = some (.cells (odC d).toArray 31 (0, 0))) (hne : ∀ u, p = some u → vb ≠ u.block)
    (hi : i ≤ xs.length) (h256 : xs.length ≤ 256) :
    Calls Try.prog 31 #[.slice p xs.length cap, .int .i64 i, .slice (some ⟨vb, 0, none⟩) 1 1] w (InsPost p (insAt xs i d) w) := by
  by_cases he : i = xs.length
  · subst he; exact ins_end p cap xs d vb w h hv h256
  · have hlt : i < xs.length := by omega
    obtain ⟨t, o, rfl⟩ := sl_some h (by omega)
    by_cases hr : xs.length + 1 ≤ cap
    · exact ins_room t o cap xs d vb i w h hv (hne _ rfl) hlt hr h256
    · exact ins_grow t o cap xs d vb i w h hv hlt h.2.1 (by omega) h256

/-- A row laid anew. -/
theorem BkAt.setRow {w w1 : World} {a : Nat} {R : Nat → List Od} {p : Nat → Option Addr} {c : Nat → Nat} {O : Nat → Nat} (h : BkAt w a R p c O) {k : Nat} (hk : k < 2) {ys : List Od} {p' : Option Addr} {c' : Nat}
    (hs : SlAt w1 31 5 p' ys.length c' (ys.flatMap odC)) (hkw : Kept (OnB (p k)) w w1) (hp : ∀ t, p' = some t → (p k).map (·.block) = some t.block ∨ w.heap.size ≤ t.block) (hf : ∀ j, j < 2 → j ≠ k → (R j).length + ys.length ≤ 256) :
    ∃ O', BkAt (w1.setCell ⟨a, k, none⟩ (.slice p' ys.length c')) a (upd R k ys) (upd p k p') (upd c k c') O' ∧ Grows3 O O' w (w1.setCell ⟨a, k, none⟩ (.slice p' ys.length c')) := by
  have la := lt_of_block h.st
  have hsz := hkw.size
  have hna : ∀ j, j < 2 → ∀ t, p j = some t → t.block ≠ a := fun j hj t ht e => by have h1 := h.ok j hj t ht; rw [e, h.oa] at h1; omega
  have hA : w1.heap[a]? = some (.cells #[.slice (p 0) (R 0).length (c 0), .slice (p 1) (R 1).length (c 1)] 66 (0, 0)) := (hkw.block a la (fun ⟨t, ht, e⟩ => hna k hk t ht e.symm)).trans h.st
  have hpa : ∀ t, p' = some t → t.block ≠ a := fun t ht e => by
    have h1 := hs; rw [ht] at h1
    exact h1.ne_blk hA (by decide) e
  obtain ⟨O', hO'⟩ : ∃ O' : Nat → Nat, O' = fun b => if b < w.heap.size then O b else if p'.map (·.block) = some b then k + 1 else 0 := ⟨_, rfl⟩
  have hold : ∀ b, b < w.heap.size → O' b = O b := fun b hb => by rw [hO']; exact if_pos hb
  have hpo : ∀ t, p' = some t → O' t.block = k + 1 := fun t ht => by
    rcases hp t ht with h2 | h2
    · cases hpk : p k with
      | none => rw [hpk] at h2; cases h2
      | some u =>
        rw [hpk] at h2
        have hu : u.block = t.block := by simpa using h2
        rw [← hu, hold _ ((h.sl k hk).lt u hpk)]; exact h.ok k hk u hpk
    · rw [hO']; dsimp only; rw [if_neg (by omega), if_pos (by rw [ht]; rfl)]
  refine ⟨O', ⟨?_, fun j hj => ?_, (hold a la).trans h.oa, fun j hj t ht => ?_, fun i hi => ?_, ?_⟩, ⟨?_, hold⟩⟩
  · rw [block_setCell hA k _]
    match k, hk with
    | 0, _ => simp [upd]
    | 1, _ => simp [upd]
  · by_cases e : j = k
    · subst e
      simp only [upd_same]
      exact hs.kept fun t ht => Below.heap_setCell _ _ _ _ (hpa t ht)
    · simp only [upd_other _ _ e]
      refine (h.sl j hj).kept fun t ht => ?_
      rw [Below.heap_setCell _ _ _ _ (hna j hj t ht)]
      exact hkw.block _ ((h.sl j hj).lt t ht) fun ⟨u, hu, e2⟩ => by
        have h1 := h.ok j hj t ht; have h2 := h.ok k hk u hu
        rw [← e2, h1] at h2; omega
  · by_cases e : j = k
    · subst e; simp only [upd_same] at ht; exact hpo t ht
    · simp only [upd_other _ _ e] at ht
      exact (hold _ ((h.sl j hj).lt t ht)).trans (h.ok j hj t ht)
  · have hi' : w1.heap.size ≤ i := by simpa using hi
    rw [hO']; dsimp only
    rw [if_neg (by omega), if_neg (fun e => ?_)]
    cases hp' : p' with
    | none => rw [hp'] at e; cases e
    | some t =>
      rw [hp'] at e
      have := hs.lt t hp'
      simp at e; omega
  · match k, hk with
    | 0, _ => have := hf 1 (by omega) (by omega); simp only [upd_same, upd_other _ _ (show (1 : Nat) ≠ 0 by omega)]; omega
    | 1, _ => have := hf 0 (by omega) (by omega); simp only [upd_same, upd_other _ _ (show (0 : Nat) ≠ 1 by omega)]; omega
  · refine (hkw.mono (G := fun b => O b ≠ 0) fun i hi ⟨t, ht, e⟩ => ?_).setCell (fun _ => by show O a ≠ 0; rw [h.oa]; decide) _
    rw [e, h.ok k hk t ht]; omega
end Go.Proofs.Ytopfgcnehdjjpaa
