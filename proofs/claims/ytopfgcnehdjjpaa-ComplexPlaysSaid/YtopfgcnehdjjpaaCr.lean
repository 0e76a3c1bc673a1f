/- Rows of complex orders in order: where a new one goes, that they stay in order (plain laws); a full book: the walk. -/
import Derived.Test.YtopfgcnehdjjpaaCn
namespace Go.Proofs.Ytopfgcnehdjjpaa
open Go.RowKit

theorem cmp_buy {a b : Od} (h : a.side = 1) : cmpI a b < 0 ↔ b.net < a.net ∨ (a.net = b.net ∧ a.id < b.id) := by
  unfold cmpI netI ordI
  rw [if_pos h]
  rcases Int.lt_trichotomy a.net b.net with h1 | h1 | h1 <;> rcases Int.lt_trichotomy a.id b.id with h2 | h2 | h2 <;>
    simp [h1, h2, Int.lt_asymm, Int.ne_of_lt, Int.ne_of_gt] <;> omega
theorem cmp_sell {a b : Od} (h : a.side ≠ 1) : cmpI a b < 0 ↔ a.net < b.net ∨ (a.net = b.net ∧ a.id < b.id) := by
  unfold cmpI netI ordI
  rw [if_neg h]
  rcases Int.lt_trichotomy a.net b.net with h1 | h1 | h1 <;> rcases Int.lt_trichotomy a.id b.id with h2 | h2 | h2 <;>
    simp [h1, h2, Int.lt_asymm, Int.ne_of_lt, Int.ne_of_gt] <;> omega
theorem cmp_trans {a b c : Od} (h : a.side = b.side) (h1 : cmpI a b < 0) (h2 : cmpI b c < 0) : cmpI a c < 0 := by
  by_cases hs : a.side = 1
  · rw [cmp_buy hs] at h1 ⊢
    rw [cmp_buy (h ▸ hs)] at h2
    omega
  · rw [cmp_sell hs] at h1 ⊢
    rw [cmp_sell (h ▸ hs)] at h2
    omega
theorem cmp_total {a b : Od} (h : a.side = b.side) (hid : a.id ≠ b.id) (h1 : ¬ cmpI a b < 0) : cmpI b a < 0 := by
  by_cases hs : a.side = 1
  · rw [cmp_buy hs] at h1
    rw [cmp_buy (h ▸ hs)]
    omega
  · rw [cmp_sell hs] at h1
    rw [cmp_sell (h ▸ hs)]
    omega

/-- A row in order, all of one side. -/
def Srt (s : Int) (xs : List Od) : Prop := xs.Pairwise (fun a b => cmpI a b < 0) ∧ ∀ x ∈ xs, x.side = s
theorem Srt.nil (s : Int) : Srt s [] := ⟨List.Pairwise.nil, fun x hx => by cases hx⟩
def posOf (xs : List Od) (d : Od) : Nat := (xs.takeWhile fun x => decide (cmpI x d < 0)).length
theorem tw_mem {α : Type} {p : α → Bool} : ∀ {xs : List α} {x : α}, x ∈ xs.takeWhile p → p x = true
  | [], _, h => by simp at h
  | y :: ys, x, h => by
    rw [List.takeWhile_cons] at h
    split at h
    · rename_i hy
      rcases List.mem_cons.1 h with rfl | h
      · exact hy
      · exact tw_mem h
    · cases h
theorem tw_split (xs : List Od) (d : Od) : xs = xs.takeWhile (fun x => decide (cmpI x d < 0)) ++ xs.dropWhile (fun x => decide (cmpI x d < 0)) := List.takeWhile_append_dropWhile.symm
theorem dw_head {xs : List Od} {s : Int} {d x : Od} (h : Srt s xs) (hx : x ∈ xs.dropWhile (fun x => decide (cmpI x d < 0))) : ¬ cmpI x d < 0 := by
  cases hd : xs.dropWhile (fun x => decide (cmpI x d < 0)) with
  | nil => rw [hd] at hx; cases hx
  | cons y ys =>
    have hy : ¬ cmpI y d < 0 := by
      have := List.head_dropWhile_not (p := fun x => decide (cmpI x d < 0)) (l := xs) (by rw [hd]; simp)
      simpa [hd] using this
    rw [hd] at hx
    have hsub : (y :: ys).Sublist xs := by rw [← hd]; exact List.dropWhile_sublist _
    have hp := h.1.sublist hsub
    rcases List.mem_cons.1 hx with rfl | hx'
    · exact hy
    · intro hc
      have h1 := (List.pairwise_cons.1 hp).1 x hx'
      have e1 := h.2 y (hsub.subset (List.mem_cons_self ..))
      have e2 := h.2 x (hsub.subset hx)
      exact hy (cmp_trans (e1.trans e2.symm) h1 hc)
theorem splits_of {xs : List Od} {s : Int} (d : Od) (h : Srt s xs) : Splits xs d (posOf xs d) := by
  have hsp := tw_split xs d
  refine ⟨?_, fun i x hi hx => ?_, fun i x hi hx => ?_⟩
  · have := congrArg List.length hsp
    rw [List.length_append] at this
    unfold posOf; omega
  · rw [hsp, List.getElem?_append_left hi] at hx
    have := tw_mem (List.mem_of_getElem? hx)
    simpa using this
  · rw [hsp, List.getElem?_append_right hi] at hx
    have := dw_head h (List.mem_of_getElem? hx)
    omega
theorem insAt_eq (xs : List Od) (d : Od) : insAt xs (posOf xs d) d = xs.takeWhile (fun x => decide (cmpI x d < 0)) ++ d :: xs.dropWhile (fun x => decide (cmpI x d < 0)) := by
  unfold insAt posOf
  conv => lhs; rw [tw_split xs d]
  rw [List.take_append_of_le_length (by rw [← tw_split]; exact Nat.le_refl _), List.drop_append_of_le_length (by rw [← tw_split]; exact Nat.le_refl _), ← tw_split]
  simp
theorem Srt.ins {xs : List Od} {d : Od} (h : Srt d.side xs) (hid : ∀ x ∈ xs, x.id ≠ d.id) : Srt d.side (insAt xs (posOf xs d) d) := by
  rw [insAt_eq]
  have hsp := tw_split xs d
  have hp := h.1
  rw [hsp, List.pairwise_append] at hp
  obtain ⟨h1, h2, h3⟩ := hp
  refine ⟨?_, fun x hx => ?_⟩
  · rw [List.pairwise_append]
    refine ⟨h1, List.pairwise_cons.2 ⟨fun x hx => ?_, h2⟩, fun a ha b hb => ?_⟩
    · have hm : x ∈ xs := (List.dropWhile_sublist _).subset hx
      exact cmp_total (h.2 x hm) (hid x hm) (dw_head h hx)
    · rcases List.mem_cons.1 hb with rfl | hb
      · simpa using tw_mem ha
      · exact h3 a ha b hb
  · rcases List.mem_append.1 hx with hx | hx
    · exact h.2 x ((List.takeWhile_sublist _).subset hx)
    · rcases List.mem_cons.1 hx with rfl | hx
      · rfl
      · exact h.2 x ((List.dropWhile_sublist _).subset hx)
theorem mem_insAt {xs : List Od} {d x : Od} : x ∈ insAt xs (posOf xs d) d ↔ x = d ∨ x ∈ xs := by
  rw [insAt_eq, List.mem_append, List.mem_cons]
  conv => rhs; rhs; rw [tw_split xs d, List.mem_append]
  constructor
  · rintro (h | h | h)
    · exact .inr (.inl h)
    · exact .inl h
    · exact .inr (.inr h)
  · rintro (h | h | h)
    · exact .inr (.inl h)
    · exact .inl h
    · exact .inr (.inr h)
end Go.Proofs.Ytopfgcnehdjjpaa
