/- Alloc: the plain law of the search: what it finds is what is left; the first that it tries; what it cannot find. -/
import Derived.Test.YtgbdnodkbdkaeaaBb
import Derived.Test.YtgbdnodkbdkaeaaBe
namespace Go.Proofs.Ytgbdnodkbdkaeaa
open Go Go.RowKit

def wsum (ls : List Lg) : Nat → List Int → Int
  | _, [] => 0
  | i, p :: l => legC ls i * p + wsum ls (i + 1) l
def memR (rows : List (List Int)) : Nat → List Int → Prop
  | _, [] => True
  | i, p :: l => p ∈ rowAt rows i ∧ memR rows (i + 1) l
theorem netF_app (ls : List Lg) : ∀ (l pre : List Int), netF ls (pre ++ l) (pre.length + l.length) = netF ls pre pre.length + wsum ls pre.length l
  | [], pre => by simp [wsum]
  | p :: l, pre => by
    have h := netF_app ls l (pre ++ [p])
    rw [List.length_append, List.length_singleton, List.append_assoc, List.singleton_append] at h
    rw [show pre.length + (p :: l).length = pre.length + 1 + l.length by simp; omega, h]
    have h2 : netF ls (pre ++ [p]) (pre.length + 1) = netF ls pre pre.length + legC ls pre.length * p := by
      show netF ls (pre ++ [p]) pre.length + termL (lgAt ls pre.length) (psAt (pre ++ [p]) pre.length) = _
      have h3 : psAt (pre ++ [p]) pre.length = p := by simp [psAt, List.getD_eq_getElem?_getD]
      have h4 : ∀ k, k ≤ pre.length → netF ls (pre ++ [p]) k = netF ls pre k := by
        intro k
        induction k with
        | zero => intro _; rfl
        | succ k ih =>
          intro hk
          show netF ls (pre ++ [p]) k + _ = netF ls pre k + _
          rw [ih (by omega)]
          have : psAt (pre ++ [p]) k = psAt pre k := by simp [psAt, List.getD_eq_getElem?_getD, List.getElem?_append_left (show k < pre.length by omega)]
          rw [this]
      rw [h3, h4 _ (Nat.le_refl _)]; rfl
    rw [h2]
    show _ = _ + (legC ls pre.length * p + wsum ls (pre.length + 1) l)
    omega
theorem netF_wsum (ls : List Lg) (l : List Int) : netF ls l l.length = wsum ls 0 l := by
  have := netF_app ls l []
  simpa [netF] using this
theorem legC_is {ls : List Lg} {i : Nat} (h : goodL (lgAt ls i) = true) : legC ls i ≠ 0 ∧ -4 ≤ legC ls i ∧ legC ls i ≤ 4 := by
  obtain ⟨_, h2, h3, h4⟩ := goodL_is h
  unfold legC
  rcases h2 with e | e <;> rw [e] <;> omega
theorem tdiv_is {c left : Int} (hc : c ≠ 0) (h : left.tmod c = 0) : c * left.tdiv c = left := by
  have := Int.mul_tdiv_add_tmod left c
  omega
theorem tdiv_bd {c left : Int} (hl : I64 left) : left.tdiv c ≠ 9223372036854775808 → I64 (left.tdiv c) := by
  intro h
  unfold I64 at *
  have h1 : (left.tdiv c).natAbs ≤ left.natAbs := by rw [Int.natAbs_tdiv]; exact Nat.div_le_self _ _
  omega
theorem last_sound {c left v : Int} {row : List Int} (hc : c ≠ 0) (hl : I64 left) (hr : GoodP row) (h : lastV c row left = some v) : c * v = left ∧ v ∈ row := by
  unfold lastV at h
  by_cases h1 : left.tmod c = 0 ∧ row.contains (wrap64 (left.tdiv c)) = true
  · rw [if_pos h1] at h
    obtain rfl : wrap64 (left.tdiv c) = v := by simpa using h
    have hm : wrap64 (left.tdiv c) ∈ row := by simpa using h1.2
    have hb : 0 ≤ wrap64 (left.tdiv c) := by
      obtain ⟨j, hj, e⟩ := List.mem_iff_getElem.1 hm
      have := hr j hj
      simp only [psAt, List.getD_eq_getElem?_getD, List.getElem?_eq_getElem hj, Option.getD_some, e] at this
      exact this.1
    have hne : left.tdiv c ≠ 9223372036854775808 := by
      intro e; rw [e] at hb
      have : wrap64 9223372036854775808 = -9223372036854775808 := by unfold wrap64; omega
      omega
    have hw : wrap64 (left.tdiv c) = left.tdiv c := IntWalk.wrap64_in _ (tdiv_bd hl hne)
    rw [hw] at hm ⊢
    exact ⟨tdiv_is hc h1.1, hm⟩
  · rw [if_neg h1] at h; cases h
theorem last_found {c v : Int} {row : List Int} (hc : c ≠ 0) (hv : I64 v) (hm : v ∈ row) : lastV c row (c * v) = some v := by
  unfold lastV
  have e1 : (c * v).tmod c = 0 := Int.mul_tmod_right c v
  have e2 : (c * v).tdiv c = v := Int.mul_tdiv_cancel_left v hc
  have e3 : wrap64 v = v := IntWalk.wrap64_in _ hv
  rw [e1, e2, e3, if_pos ⟨rfl, by simpa using hm⟩]
theorem inR_is {a : Int} : inRange a = true ↔ I64 a := by
  unfold inRange I64; simp
theorem srch_sound {ls : List Lg} {rows : List (List Int)} {n : Nat} (hn : ls.length = n) (hg : ∀ j, j < n → goodL (lgAt ls j) = true) (hr : ∀ j, j < n → GoodP (rowAt rows j)) :
    ∀ (d : Nat) (left : Int) (l : List Int), d + 1 ≤ n → I64 left → srchF ls rows n d left = some l → wsum ls (n - 1 - d) l = left ∧ l.length = d + 1 ∧ memR rows (n - 1 - d) l
  | 0, left, l, hd, hl, h => by
    unfold srchF at h
    cases hv : lastV (legC ls (n - 1)) (rowAt rows (n - 1)) left with
    | none => rw [hv] at h; cases h
    | some v =>
      rw [hv] at h
      obtain rfl : [v] = l := by simpa using h
      obtain ⟨h1, h2⟩ := last_sound (legC_is (hg (n - 1) (by omega))).1 hl (hr (n - 1) (by omega)) hv
      refine ⟨?_, rfl, ?_⟩
      · show legC ls (n - 1 - 0) * v + 0 = left
        rw [Nat.sub_zero]; omega
      · show v ∈ rowAt rows (n - 1 - 0) ∧ True
        exact ⟨h2, trivial⟩
  | d + 1, left, l, hd, hl, h => by
    unfold srchF at h
    obtain ⟨p, hp, h2⟩ := List.exists_of_findSome?_eq_some h
    unfold pick at h2
    by_cases h3 : inRange (left - legC ls (n - 1 - (d + 1)) * p) = true
    · rw [if_pos h3] at h2
      cases hs : srchF ls rows n d (left - legC ls (n - 1 - (d + 1)) * p) with
      | none => rw [hs] at h2; cases h2
      | some l2 =>
        rw [hs] at h2
        obtain rfl : p :: l2 = l := by simpa using h2
        obtain ⟨h4, h5, h6⟩ := srch_sound hn hg hr d _ l2 (by omega) (inR_is.1 h3) hs
        have e : n - 1 - (d + 1) + 1 = n - 1 - d := by omega
        refine ⟨?_, by simp [h5], hp, by rw [e]; exact h6⟩
        show legC ls (n - 1 - (d + 1)) * p + wsum ls (n - 1 - (d + 1) + 1) l2 = left
        rw [e, h4]; omega
    · rw [if_neg h3] at h2; cases h2
theorem leg_bd {ls : List Lg} {i : Nat} (h : goodL (lgAt ls i) = true) {p : Int} (h5 : 0 ≤ p) (h6 : p ≤ 1000000) : -4000000 ≤ legC ls i * p ∧ legC ls i * p ≤ 4000000 := term_bd h h5 h6
/-- Prices of the legs from one on, all of them within bounds. -/
def BdL : List Int → Prop
  | [] => True
  | p :: l => (0 ≤ p ∧ p ≤ 1000000) ∧ BdL l
theorem wsum_bd {ls : List Lg} {n : Nat} (hg : ∀ j, j < n → goodL (lgAt ls j) = true) : ∀ (l : List Int) (i : Nat), i + l.length ≤ n → BdL l → -4000000 * (l.length : Int) ≤ wsum ls i l ∧ wsum ls i l ≤ 4000000 * (l.length : Int)
  | [], _, _, _ => by simp [wsum]
  | p :: l, i, h, hb => by
    have h1 := wsum_bd hg l (i + 1) (by simp at h; omega) hb.2
    have h2 := leg_bd (hg i (by simp at h; omega)) hb.1.1 hb.1.2
    show _ ≤ legC ls i * p + wsum ls (i + 1) l ∧ legC ls i * p + wsum ls (i + 1) l ≤ _
    rw [List.length_cons]
    push_cast
    omega
/-- Each row begins with a price. -/
def headR (rows : List (List Int)) : Nat → List Int → Prop
  | _, [] => True
  | i, p :: l => (∃ r, rowAt rows i = p :: r) ∧ headR rows (i + 1) l
theorem srch_first {ls : List Lg} {rows : List (List Int)} {n : Nat} (hn4 : n ≤ 4) (hg : ∀ j, j < n → goodL (lgAt ls j) = true) :
    ∀ (d : Nat) (l : List Int), d + 1 ≤ n → l.length = d + 1 → BdL l → headR rows (n - 1 - d) l → srchF ls rows n d (wsum ls (n - 1 - d) l) = some l
  | 0, l, hd, hl, hb, hh => by
    obtain ⟨p, l2, rfl, h2⟩ : ∃ p l2, l = p :: l2 ∧ l2.length = 0 := by
      cases l with
      | nil => simp at hl
      | cons p l => exact ⟨p, l, rfl, by simpa using hl⟩
    obtain rfl := List.eq_nil_of_length_eq_zero h2
    obtain ⟨⟨r, hr⟩, _⟩ := hh
    rw [Nat.sub_zero] at hr ⊢
    have hw : wsum ls (n - 1) [p] = legC ls (n - 1) * p := by show legC ls (n - 1) * p + 0 = _; omega
    unfold srchF
    rw [hw, last_found (legC_is (hg (n - 1) (by omega))).1 (by have := hb.1; unfold I64; omega) (by rw [hr]; simp)]
    rfl
  | d + 1, l, hd, hl, hb, hh => by
    obtain ⟨p, l2, rfl, h2⟩ : ∃ p l2, l = p :: l2 ∧ l2.length = d + 1 := by
      cases l with
      | nil => simp at hl
      | cons p l => exact ⟨p, l, rfl, by simpa using hl⟩
    obtain ⟨⟨r, hr⟩, hh2⟩ := hh
    have e : n - 1 - (d + 1) + 1 = n - 1 - d := by omega
    rw [e] at hh2
    have ih := srch_first hn4 hg d l2 (by omega) h2 hb.2 hh2
    have hbd := wsum_bd hg l2 (n - 1 - d) (by omega) hb.2
    unfold srchF
    rw [hr, List.findSome?_cons]
    have hw : wsum ls (n - 1 - (d + 1)) (p :: l2) = legC ls (n - 1 - (d + 1)) * p + wsum ls (n - 1 - d) l2 := by
      show _ + wsum ls (n - 1 - (d + 1) + 1) l2 = _
      rw [e]
    have hp : pick (legC ls (n - 1 - (d + 1))) (srchF ls rows n d) (wsum ls (n - 1 - (d + 1)) (p :: l2)) p = some (p :: l2) := by
      unfold pick
      rw [hw, show legC ls (n - 1 - (d + 1)) * p + wsum ls (n - 1 - d) l2 - legC ls (n - 1 - (d + 1)) * p = wsum ls (n - 1 - d) l2 by omega, if_pos (inR_is.2 (by unfold I64; rw [h2] at hbd; push_cast at hbd; omega)), ih]
      rfl
    rw [hp]
/-- One list of prices is nowhere dearer than another. -/
def leR (ls : List Lg) : Nat → List Int → List Int → Prop
  | _, [], [] => True
  | i, p :: l, q :: m => legC ls i * p ≤ legC ls i * q ∧ leR ls (i + 1) l m
  | _, _, _ => False
theorem wsum_le {ls : List Lg} : ∀ (l m : List Int) (i : Nat), leR ls i l m → wsum ls i l ≤ wsum ls i m
  | [], [], _, _ => Int.le_refl _
  | p :: l, q :: m, i, h => by
    have := wsum_le l m (i + 1) h.2
    have h1 := h.1
    show legC ls i * p + _ ≤ legC ls i * q + _
    omega
theorem leR_of {ls : List Lg} : ∀ (l m : List Int) (i : Nat), l.length = m.length → (∀ j, j < l.length → legC ls (i + j) * psAt l j ≤ legC ls (i + j) * psAt m j) → leR ls i l m
  | [], [], _, _, _ => trivial
  | [], _ :: _, _, h, _ => by simp at h
  | _ :: _, [], _, h, _ => by simp at h
  | p :: l, q :: m, i, h, hj => by
    refine ⟨by have := hj 0 (by simp); simpa [psAt] using this, leR_of l m (i + 1) (by simpa using h) fun j hj2 => ?_⟩
    have := hj (j + 1) (by simp; omega)
    rw [show i + (j + 1) = i + 1 + j by omega] at this
    simpa [psAt] using this
theorem memR_at {rows : List (List Int)} : ∀ {l : List Int} {i : Nat}, memR rows i l → ∀ j, j < l.length → psAt l j ∈ rowAt rows (i + j)
  | [], _, _, j, hj => by simp at hj
  | p :: l, i, h, 0, _ => by simpa [psAt] using h.1
  | p :: l, i, h, j + 1, hj => by
    have := memR_at h.2 j (by simpa using hj)
    rw [show i + (j + 1) = i + 1 + j by omega]
    simpa [psAt] using this
theorem bdL_of : ∀ (l : List Int), GoodP l → BdL l
  | [], _ => trivial
  | p :: l, h => ⟨by have := h 0 (by simp); simpa [psAt] using this, bdL_of l fun j hj => by have := h (j + 1) (by simp; omega); simpa [psAt] using this⟩
theorem headR_of {rows : List (List Int)} : ∀ (l : List Int) (i : Nat), (∀ j, j < l.length → ∃ r, rowAt rows (i + j) = psAt l j :: r) → headR rows i l
  | [], _, _ => trivial
  | p :: l, i, h => ⟨by have := h 0 (by simp); simpa [psAt] using this, headR_of l (i + 1) fun j hj => by
      have := h (j + 1) (by simp; omega)
      rw [show i + (j + 1) = i + 1 + j by omega] at this
      simpa [psAt] using this⟩
end Go.Proofs.Ytgbdnodkbdkaeaa
