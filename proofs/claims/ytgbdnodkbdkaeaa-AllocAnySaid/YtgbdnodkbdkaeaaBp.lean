/- Alloc: the plain law of the document's search: it finds what the program's does. -/
import Derived.Test.YtgbdnodkbdkaeaaBn
import Derived.Test.YtgbdnodkbdkaeaaBg
namespace Go.Proofs.Ytgbdnodkbdkaeaa
open Go Go.RowKit

/-! ### next prices stay on the grid -/
theorem lastAt_max (xs : Tb) (p : Int) : ∀ (r k : Nat), lastAt xs p r = (k : Int) → ∀ j, k < j → j < r → p < frT xs j
  | 0, k, h, j, _, hj => by omega
  | r + 1, k, h, j, hkj, hj => by
    unfold lastAt at h
    by_cases hr : (xs.getD r (0, 0)).1 ≤ p
    · rw [if_pos hr] at h
      omega
    · rw [if_neg hr] at h
      by_cases e : j = r
      · subst e; show p < (xs.getD j (0, 0)).1; omega
      · exact lastAt_max xs p r k h j hkj (by omega)
theorem lastAt_is {xs : Tb} {p : Int} {k n : Nat} (hk : k < n) (h : frT xs k ≤ p) (hm : ∀ j, k < j → j < n → p < frT xs j) : lastAt xs p n = (k : Int) := by
  have h1 : lastAt xs p (k + 1) = (k : Int) := if_pos h
  have h2 := lastAt_skip xs p (k + 1) (n - (k + 1)) fun j a b => hm j (by omega) (by omega)
  rw [show k + 1 + (n - (k + 1)) = n by omega] at h2
  rw [h2, h1]
theorem stepT_is {xs : Tb} {p : Int} {k : Nat} (hk : k < xs.length) (h : frT xs k ≤ p) (hm : ∀ j, k < j → j < xs.length → p < frT xs j) : stepT xs p = (frT xs k, byT xs k) := by
  have h1 := lastAt_is hk h hm
  unfold stepT stepK
  rw [h1]; rfl
theorem near_at {xs : Tb} {p : Int} {k : Nat} (h1 : 1 ≤ p) (h2 : p ≤ 1000000) (hk : k < xs.length) (h : frT xs k ≤ p) (hm : ∀ j, k < j → j < xs.length → p < frT xs j) : nearT xs p = p - (p - frT xs k) % byT xs k := by
  unfold nearT
  rw [if_neg (by omega), show min p 1000000 = p by omega, stepT_is hk h hm]
theorem step_of {xs : Tb} (hg : GoodT xs) {p : Int} (hp : 1 ≤ p) : ∃ k, k < xs.length ∧ frT xs k ≤ p ∧ ∀ j, k < j → j < xs.length → p < frT xs j := by
  obtain ⟨k, hk, he, _, hle⟩ := hg.step hp
  exact ⟨k, hk, hle, lastAt_max xs p xs.length k he⟩
theorem on_near {xs : Tb} (hg : GoodT xs) {x : Int} (hx : 1 ≤ x) : onT xs (nearT xs x) = true := by
  obtain ⟨k, hk, h1, h2⟩ := step_of hg (p := min x 1000000) (by omega)
  obtain ⟨r1, r2, r3, r4⟩ := hg.rows k hk
  have hn : nearT xs x = min x 1000000 - (min x 1000000 - frT xs k) % byT xs k := by
    unfold nearT
    rw [if_neg (by omega), stepT_is hk h1 h2]
  have hy : 1 ≤ byT xs k := r3
  have hf : 1 ≤ frT xs k := r1
  obtain ⟨z, hz⟩ : ∃ z, min x 1000000 - (min x 1000000 - frT xs k) % byT xs k = z := ⟨_, rfl⟩
  have e1 := Int.mul_ediv_add_emod (min x 1000000 - frT xs k) (byT xs k)
  have e2 := Int.emod_nonneg (min x 1000000 - frT xs k) (show byT xs k ≠ 0 by omega)
  have e3 := Int.mul_nonneg (show 0 ≤ byT xs k by omega) (Int.ediv_nonneg (show 0 ≤ min x 1000000 - frT xs k by omega) (show 0 ≤ byT xs k by omega))
  rw [hn, hz]
  have hzf : z - frT xs k = byT xs k * ((min x 1000000 - frT xs k) / byT xs k) := by omega
  have hz1 : frT xs k ≤ z := by omega
  have hz2 : z ≤ min x 1000000 := by omega
  have := near_at (xs := xs) (p := z) (by omega) (by omega) hk hz1 fun j a b => by have := h2 j a b; omega
  rw [hzf, Int.mul_emod_right] at this
  unfold onT
  rw [this]
  simp; omega
theorem chk_div {xs : Tb} (h : chkT xs = true) {k : Nat} (hk : k + 1 < xs.length) : frT xs k < frT xs (k + 1) ∧ (frT xs (k + 1) - frT xs k) % byT xs k = 0 := by
  unfold chkT at h
  simp only [Bool.and_eq_true, decide_eq_true_eq] at h
  obtain ⟨h1, h2⟩ := chkU_at h.2 (k + 1) hk
  unfold stepB at h1
  rw [if_neg (by omega)] at h1
  simp only [Bool.and_eq_true, decide_eq_true_eq, Nat.add_sub_cancel] at h1
  unfold divB at h2
  simp only [Nat.add_sub_cancel, Bool.or_eq_true, beq_iff_eq] at h2
  exact ⟨h1.1, by rcases h2 with h2 | h2; · omega
                  · exact h2⟩
theorem chk_mono {xs : Tb} (h : chkT xs = true) {k : Nat} : ∀ d, k + d < xs.length → frT xs k ≤ frT xs (k + d)
  | 0, _ => Int.le_refl _
  | d + 1, hd => by
    have h1 := chk_mono h (k := k) d (by omega)
    have h2 := (chk_div h (k := k + d) (by omega)).1
    rw [show k + (d + 1) = k + d + 1 by omega]
    omega
theorem on_is {xs : Tb} (hg : GoodT xs) {p : Int} {k : Nat} (hk : k < xs.length) (h : frT xs k ≤ p) (hm : ∀ j, k < j → j < xs.length → p < frT xs j) (hon : onT xs p = true) : (p - frT xs k) % byT xs k = 0 := by
  have hr := onT_range hg hon
  unfold onT at hon
  simp only [Bool.and_eq_true, decide_eq_true_eq, beq_iff_eq] at hon
  have := near_at hr.1 hr.2 hk h hm
  omega
theorem on_up {xs : Tb} (hc : chkT xs = true) {p : Int} (hon : onT xs p = true) (hb : p + (stepT xs p).2 ≤ 1000000) : onT xs (p + (stepT xs p).2) = true := by
  have hg := chkT_good hc
  have hr := onT_range hg hon
  obtain ⟨k, hk, h1, h2⟩ := step_of hg hr.1
  have hd := on_is hg hk h1 h2 hon
  obtain ⟨r1, r2, r3, r4⟩ := hg.rows k hk
  have hy : 1 ≤ byT xs k := r3
  rw [stepT_is hk h1 h2] at hb ⊢
  simp only at hb ⊢
  have e1 := Int.mul_ediv_add_emod (p - frT xs k) (byT xs k)
  rw [hd] at e1
  by_cases hnx : k + 1 < xs.length ∧ frT xs (k + 1) ≤ p + byT xs k
  · obtain ⟨hk1, hle⟩ := hnx
    obtain ⟨d1, d2⟩ := chk_div hc hk1
    have hlt := h2 (k + 1) (by omega) hk1
    have e2 := Int.mul_ediv_add_emod (frT xs (k + 1) - frT xs k) (byT xs k)
    rw [d2] at e2
    have hdiff : frT xs (k + 1) - p = byT xs k * ((frT xs (k + 1) - frT xs k) / byT xs k - (p - frT xs k) / byT xs k) := by rw [Int.mul_sub]; omega
    obtain ⟨t, ht⟩ : ∃ t, (frT xs (k + 1) - frT xs k) / byT xs k - (p - frT xs k) / byT xs k = t := ⟨_, rfl⟩
    rw [ht] at hdiff
    have ht1 : 1 ≤ t := by
      rcases Int.lt_or_le t 1 with h | h
      · exfalso
        have : byT xs k * t ≤ byT xs k * 0 := Int.mul_le_mul_of_nonneg_left (by omega) (by omega)
        omega
      · exact h
    have hge : byT xs k * 1 ≤ byT xs k * t := Int.mul_le_mul_of_nonneg_left ht1 (by omega)
    have hq : p + byT xs k = frT xs (k + 1) := by omega
    have hnear := near_at (xs := xs) (p := p + byT xs k) (k := k + 1) (by omega) hb hk1 hle fun j a b => by
      have h5 := (chk_div hc (k := k + 1) (by omega)).1
      have h6 := chk_mono hc (k := k + 1 + 1) (j - (k + 1 + 1)) (by omega)
      rw [show k + 1 + 1 + (j - (k + 1 + 1)) = j by omega] at h6
      omega
    rw [hq, Int.sub_self, Int.zero_emod] at hnear
    unfold onT
    rw [hq, hnear]
    simp; omega
  · have hnear := near_at (xs := xs) (p := p + byT xs k) (k := k) (by omega) hb hk (by omega) fun j a b => by
      have h6 := chk_mono hc (k := k + 1) (j - (k + 1)) (by omega)
      rw [show k + 1 + (j - (k + 1)) = j by omega] at h6
      omega
    have e3 : p + byT xs k - frT xs k = byT xs k * ((p - frT xs k) / byT xs k + 1) := by rw [Int.mul_add]; omega
    rw [e3, Int.mul_emod_right] at hnear
    unfold onT
    rw [hnear]
    simp; omega
theorem on_next {xs : Tb} (hc : chkT xs = true) {s p q : Int} (h : nextP s xs p = some q) : onT xs p = true ∧ onT xs q = true := by
  unfold nextP at h
  split at h
  · unfold downT at h
    split at h
    · rename_i h1
      obtain rfl : nearT xs (p - 1) = q := by simpa using h
      have := (onT_range (chkT_good hc) h1.1).1
      have h2 := h1.2
      exact ⟨h1.1, on_near (chkT_good hc) (by omega)⟩
    · cases h
  · unfold upT at h
    split at h
    · rename_i h1
      split at h
      · rename_i h2
        obtain rfl : p + (stepT xs p).2 = q := by simpa using h
        exact ⟨h1, on_up hc h1 h2⟩
      · cases h
    · cases h
/-! ### the rows -/
/-- The customers' rule. -/
def custB (t : Tp) (p : Int) : Bool := (!t.ac || decide (p < t.ask)) && (!t.bc || decide (t.bid < p))
theorem may_cust {t : Tp} {xs : Tb} {p : Int} (h1 : onT xs p = true) (h2 : insideB t p = true) : mayB t xs p = custB t p := by
  unfold mayB custB; rw [h1, h2]; simp [Bool.and_assoc]
theorem moved_filter {t : Tp} {xs : Tb} {s : Int} (hc : chkT xs = true) : ∀ (n : Nat) (p : Int), onT xs p = true → insideB t p = true → movesF s t xs n p = (movedF s t xs n p).filter (custB t)
  | 0, _, _, _ => rfl
  | n + 1, p, h1, h2 => by
    unfold movesF movedF
    rw [if_pos h2, may_cust h1 h2]
    cases hn : nextP s xs p with
    | none =>
      by_cases h3 : custB t p = true
      · rw [if_pos h3, List.filter_cons_of_pos h3]; rfl
      · rw [if_neg h3, List.filter_cons_of_neg h3]; rfl
    | some q =>
      have ht : (if insideB t q = true then movesF s t xs n q else []) = (movedF s t xs n q).filter (custB t) := by
        by_cases hi : insideB t q = true
        · rw [if_pos hi]; exact moved_filter hc n q (on_next hc hn).2 hi
        · rw [if_neg hi]
          cases n with
          | zero => rfl
          | succ n => unfold movedF; rw [if_neg hi]; rfl
      show ((if custB t p = true then [p] else []) ++ (if insideB t q = true then movesF s t xs n q else [])) = (p :: movedF s t xs n q).filter (custB t)
      rw [ht]
      by_cases h3 : custB t p = true
      · rw [if_pos h3, List.filter_cons_of_pos h3]; rfl
      · rw [if_neg h3, List.filter_cons_of_neg h3]; rfl
/-- The document's row: none where the start lies off the grid. -/
def rowR (s : Int) (t : Tp) (xs : Tb) : List Int := if onT xs (startP s t) = true then movedP s t xs else []
theorem moves_rowR {t : Tp} {xs : Tb} {s : Int} (hs : s = 1 ∨ s = -1) (hc : chkT xs = true) : movesP s t xs = (rowR s t xs).filter (custB t) := by
  unfold movesP rowR movedP
  by_cases hi : insideB t (startP s t) = true
  · by_cases h1 : onT xs (startP s t) = true
    · rw [if_pos h1]; exact moved_filter hc 13 _ h1 hi
    · rw [if_neg h1]
      unfold movesF
      have hm : ¬ mayB t xs (startP s t) = true := fun h => h1 (may_on h).1
      rw [if_neg hm]
      have hn : nextP s xs (startP s t) = none := by
        cases h : nextP s xs (startP s t) with
        | none => rfl
        | some q => exact absurd (on_next hc h).1 h1
      rw [hn]; rfl
  · have hno : ∀ q, insideB t q = false := by
      intro q
      unfold insideB startP at *
      rcases hs with rfl | rfl
      · simp at hi ⊢; omega
      · simp at hi ⊢; omega
    have e1 : movedF s t xs 13 (startP s t) = [] := by unfold movedF; rw [if_neg hi]
    rw [e1]
    have e2 : movesF s t xs 13 (startP s t) = [] := by
      unfold movesF
      have hm : ¬ mayB t xs (startP s t) = true := fun h => hi (may_on h).2
      rw [if_neg hm]
      cases hn : nextP s xs (startP s t) with
      | none => rfl
      | some q =>
        show [] ++ (if insideB t q = true then _ else []) = []
        rw [hno q]; rfl
    rw [e2]
    split <;> rfl
theorem moved_in {s : Int} {t : Tp} {xs : Tb} : ∀ (n : Nat) (p q : Int), q ∈ movedF s t xs n p → insideB t q = true
  | 0, _, _, h => by simp [movedF] at h
  | n + 1, p, q, h => by
    unfold movedF at h
    by_cases hi : insideB t p = true
    · rw [if_pos hi] at h
      rcases List.mem_cons.1 h with rfl | h
      · exact hi
      · cases hn : nextP s xs p with
        | none => rw [hn] at h; cases h
        | some r => rw [hn] at h; exact moved_in n r q h
    · rw [if_neg hi] at h; cases h
theorem rowR_in {s : Int} {t : Tp} {xs : Tb} {q : Int} (h : q ∈ rowR s t xs) : insideB t q = true := by
  unfold rowR at h
  split at h
  · exact moved_in 13 _ q h
  · cases h
/-! ### the search -/
/-- The document's search, with d legs left. -/
def restF (ls : List Lg) (ts : List Tp) (rows : List (List Int)) (n : Nat) : Nat → Int → Option (List Int)
  | 0, net => if net = 0 then some [] else none
  | d + 1, net => (rowAt rows (n - (d + 1))).findSome? fun p => if custB (tpAt ts (n - (d + 1))) p = true then (restF ls ts rows n d (net - legC ls (n - (d + 1)) * p)).map (p :: ·) else none
theorem findSome_filter (f : Int → Option (List Int)) (q : Int → Bool) : ∀ l : List Int, (l.findSome? fun p => if q p = true then f p else none) = (l.filter q).findSome? f
  | [] => rfl
  | p :: l => by
    by_cases h : q p = true
    · rw [List.filter_cons_of_pos h, List.findSome?_cons, List.findSome?_cons, if_pos h, findSome_filter f q l]
    · rw [List.filter_cons_of_neg h, List.findSome?_cons, if_neg h, findSome_filter f q l]
theorem findSome_congr {f g : Int → Option (List Int)} : ∀ {l : List Int}, (∀ p ∈ l, f p = g p) → l.findSome? f = l.findSome? g
  | [], _ => rfl
  | p :: l, h => by
    rw [List.findSome?_cons, List.findSome?_cons, h p (by simp), findSome_congr fun q hq => h q (by simp [hq])]
theorem rest_sum {ls : List Lg} {ts : List Tp} {rows : List (List Int)} {n : Nat} : ∀ (d : Nat) (net : Int) (l : List Int), d ≤ n → restF ls ts rows n d net = some l → wsum ls (n - d) l = net ∧ l.length = d ∧ memR rows (n - d) l
  | 0, net, l, _, h => by
    unfold restF at h
    by_cases h0 : net = 0
    · rw [if_pos h0] at h
      obtain rfl : [] = l := by simpa using h
      exact ⟨by simp [wsum, h0], rfl, trivial⟩
    · rw [if_neg h0] at h; cases h
  | d + 1, net, l, hd, h => by
    unfold restF at h
    obtain ⟨p, hp, h2⟩ := List.exists_of_findSome?_eq_some h
    by_cases hc : custB (tpAt ts (n - (d + 1))) p = true
    · rw [if_pos hc] at h2
      cases hs : restF ls ts rows n d (net - legC ls (n - (d + 1)) * p) with
      | none => rw [hs] at h2; cases h2
      | some l2 =>
        rw [hs] at h2
        obtain rfl : p :: l2 = l := by simpa using h2
        obtain ⟨h4, h5, h6⟩ := rest_sum d _ l2 (by omega) hs
        have e : n - (d + 1) + 1 = n - d := by omega
        refine ⟨?_, by simp [h5], hp, by rw [e]; exact h6⟩
        show legC ls (n - (d + 1)) * p + wsum ls (n - (d + 1) + 1) l2 = net
        rw [e, h4]; omega
    · rw [if_neg hc] at h2; cases h2
theorem memR_bd {rows : List (List Int)} {n : Nat} (hr : ∀ j, j < n → ∀ q ∈ rowAt rows j, 0 ≤ q ∧ q ≤ 1000000) : ∀ (l : List Int) (i : Nat), i + l.length ≤ n → memR rows i l → BdL l
  | [], _, _, _ => trivial
  | p :: l, i, h, hm => ⟨hr i (by simp at h; omega) p hm.1, memR_bd hr l (i + 1) (by simp at h; omega) hm.2⟩
/-- Both searches find the same. -/
theorem srch_rest {ls : List Lg} {ts : List Tp} {rp rr : List (List Int)} {n : Nat} (hn4 : n ≤ 4) (hg : ∀ j, j < n → goodL (lgAt ls j) = true) (hrr : ∀ j, j < n → ∀ q ∈ rowAt rr j, 0 ≤ q ∧ q ≤ 1000000) (hrp : ∀ j, j < n → rowAt rp j = (rowAt rr j).filter (custB (tpAt ts j))) (hgp : ∀ j, j < n → GoodP (rowAt rp j)) :
    ∀ (d : Nat) (net : Int), d + 1 ≤ n → I64 net → srchF ls rp n d net = restF ls ts rr n (d + 1) net
  | 0, net, hd, hne => by
    have hc := legC_is (hg (n - 1) (by omega))
    unfold srchF restF
    rw [findSome_filter, ← hrp (n - (0 + 1)) (by omega)]
    show _ = (rowAt rp (n - 1)).findSome? _
    have hf : ∀ p ∈ rowAt rp (n - 1), (restF ls ts rr n 0 (net - legC ls (n - 1) * p)).map (p :: ·) = if legC ls (n - 1) * p = net then some [p] else none := fun p _ => by
      unfold restF
      by_cases h : legC ls (n - 1) * p = net
      · rw [if_pos h, if_pos (by omega)]; rfl
      · rw [if_neg h, if_neg (by omega)]; rfl
    rw [findSome_congr hf]
    cases hv : lastV (legC ls (n - 1)) (rowAt rp (n - 1)) net with
    | some v =>
      obtain ⟨h1, h2⟩ := last_sound hc.1 hne (hgp (n - 1) (by omega)) hv
      rw [findSome_one (v := v) (r := [v]) fun p hp => ?_]
      · rw [if_pos h2]; rfl
      · by_cases e : p = v
        · subst e; rw [if_pos h1, if_pos rfl]
        · rw [if_neg e, if_neg fun h => e (Int.eq_of_mul_eq_mul_left hc.1 (h.trans h1.symm))]
    | none =>
      have hno : ∀ p ∈ rowAt rp (n - 1), (if legC ls (n - 1) * p = net then some [p] else none) = none := fun p hp => by
        by_cases h : legC ls (n - 1) * p = net
        · exfalso
          obtain ⟨j, hj, e⟩ := List.mem_iff_getElem.1 hp
          have hb := hgp (n - 1) (by omega) j hj
          simp only [psAt, List.getD_eq_getElem?_getD, List.getElem?_eq_getElem hj, Option.getD_some, e] at hb
          have := last_found hc.1 (show I64 p by unfold I64; omega) hp
          rw [h, hv] at this; cases this
        · exact if_neg h
      rw [List.findSome?_eq_none_iff.2 hno]; rfl
  | d + 1, net, hd, hne => by
    unfold srchF restF
    rw [findSome_filter, show n - (d + 1 + 1) = n - 1 - (d + 1) by omega, ← hrp (n - 1 - (d + 1)) (by omega)]
    refine findSome_congr fun p hp => ?_
    unfold pick
    by_cases h : inRange (net - legC ls (n - 1 - (d + 1)) * p) = true
    · rw [if_pos h, srch_rest hn4 hg hrr hrp hgp d _ (by omega) (inR_is.1 h)]
    · rw [if_neg h]
      cases hs : restF ls ts rr n (d + 1) (net - legC ls (n - 1 - (d + 1)) * p) with
      | none => rfl
      | some l =>
        exfalso
        obtain ⟨s1, s2, s3⟩ := rest_sum (d + 1) _ l (by omega) hs
        have hb := wsum_bd hg l (n - (d + 1)) (by omega) (memR_bd hrr l _ (by omega) s3)
        rw [s1, s2] at hb
        refine h (inR_is.2 ?_)
        unfold I64
        push_cast at hb
        omega
def rowsR (ls : List Lg) (ts : List Tp) (gs : List Tb) (n : Nat) : List (List Int) := (List.range n).map fun k => rowR (lgAt ls k).sgn (tpAt ts k) (tbAt gs k)
theorem rowsR_at {ls : List Lg} {ts : List Tp} {gs : List Tb} {n k : Nat} (h : k < n) : rowAt (rowsR ls ts gs n) k = rowR (lgAt ls k).sgn (tpAt ts k) (tbAt gs k) := by
  simp [rowAt, rowsR, List.getD_eq_getElem?_getD, h]
def topsB (ts : List Tp) : Nat → Bool
  | 0 => true
  | i + 1 => topsB ts i && (decide (1 ≤ (tpAt ts i).bid) && decide (1 ≤ (tpAt ts i).ask))
/-- What the document's Alloc tells. -/
def allocR (ls : List Lg) (ts : List Tp) (gs : List Tb) (net : Int) : Option (List Int) :=
  if ((checkB ls && (decide (ts.length = ls.length) && decide (gs.length = ls.length))) && ((decide (-16000000 ≤ net) && decide (net ≤ 16000000)) && topsB ts ls.length)) = true then restF ls ts (rowsR ls ts gs ls.length) ls.length ls.length net else none
theorem topsB_at {ts : List Tp} : ∀ (n : Nat), (∀ j, j < n → 1 ≤ (tpAt ts j).bid ∧ 1 ≤ (tpAt ts j).ask) → topsB ts n = true
  | 0, _ => rfl
  | n + 1, h => by
    show (topsB ts n && _) = true
    rw [topsB_at n fun j hj => h j (by omega)]
    have := h n (by omega)
    simp [this.1, this.2]
theorem alloc_same {ls : List Lg} {ts : List Tp} {gs : List Tb} {net : Int} (hne : I64 net) (hf : fewB ts = true) (hgs : chkG gs gs.length = true) : allocR ls ts gs net = pricesP ls ts gs net := by
  have hgg := chkG_good hgs
  by_cases hc : (checkB ls && (decide (ts.length = ls.length) && decide (gs.length = ls.length))) = true
  · have hc' := hc
    simp only [Bool.and_eq_true, decide_eq_true_eq] at hc'
    obtain ⟨h1, h2, h3⟩ := hc'
    obtain ⟨⟨hl2, hl4⟩, hgd⟩ := check_good h1
    have hfb := (few_is hf).2
    have hP : pricesP ls ts gs net = restF ls ts (rowsR ls ts gs ls.length) ls.length ls.length net := by
      unfold pricesP
      rw [if_pos hc]
      have := srch_rest (ls := ls) (ts := ts) (rp := rowsP ls ts gs ls.length) (rr := rowsR ls ts gs ls.length) (n := ls.length) hl4 hgd (fun j hj q hq => by
          rw [rowsR_at hj] at hq
          have hi := rowR_in hq
          unfold insideB at hi
          simp only [Bool.and_eq_true, decide_eq_true_eq] at hi
          have := hfb j (by omega)
          omega) (fun j hj => by rw [rowsP_at hj, rowsR_at hj]; exact moves_rowR (goodL_is (hgd j hj)).2.1 (chkG_at hgs j (by omega))) (fun j hj => rowsP_goodP hj (hgg j (by omega))) (ls.length - 1) net (by omega) hne
      rw [this, show ls.length - 1 + 1 = ls.length by omega]
    by_cases hb : ((decide (-16000000 ≤ net) && decide (net ≤ 16000000)) && topsB ts ls.length) = true
    · unfold allocR
      rw [if_pos (by rw [hc, hb]; rfl), hP]
    · unfold allocR
      rw [if_neg (by rw [hc, Bool.true_and]; exact hb)]
      cases hr : pricesP ls ts gs net with
      | none => rfl
      | some l =>
        exfalso
        obtain ⟨_, _, _, s4, s5, s6⟩ := prices_sound hgg hne hr
        have hin : ∀ j, j < ls.length → insideB (tpAt ts j) (psAt l j) = true := fun j hj => (may_on (s6 j hj)).2
        have hgp : GoodP l := fun j hj => by
          have := hin j (by omega)
          unfold insideB at this
          simp only [Bool.and_eq_true, decide_eq_true_eq] at this
          have := hfb j (by omega)
          omega
        have hbd := netF_bd hgd hgp s4 ls.length (Nat.le_refl _)
        refine hb ?_
        rw [topsB_at ls.length fun j hj => by
          have := hin j hj
          unfold insideB at this
          simp only [Bool.and_eq_true, decide_eq_true_eq] at this
          omega]
        simp; omega
  · unfold allocR pricesP
    rw [if_neg hc, if_neg (by intro h; simp only [Bool.and_eq_true] at h hc; exact hc h.1)]
end Go.Proofs.Ytgbdnodkbdkaeaa
