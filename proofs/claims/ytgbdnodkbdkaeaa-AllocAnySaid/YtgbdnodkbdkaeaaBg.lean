/- Alloc: the plain laws of what the search tells: sound; at the legs' tops; between the tops. -/
import Derived.Test.YtgbdnodkbdkaeaaBf
namespace Go.Proofs.Ytgbdnodkbdkaeaa
open Go Go.RowKit

theorem prices_sound {ls : List Lg} {ts : List Tp} {gs : List Tb} {net : Int} {l : List Int} (hg : GoodG gs) (hn : I64 net) (h : pricesP ls ts gs net = some l) :
    checkB ls = true ∧ ts.length = ls.length ∧ gs.length = ls.length ∧ l.length = ls.length ∧ netF ls l ls.length = net ∧ ∀ j, j < ls.length → mayB (tpAt ts j) (tbAt gs j) (psAt l j) = true := by
  unfold pricesP at h
  by_cases hc : (checkB ls && (decide (ts.length = ls.length) && decide (gs.length = ls.length))) = true
  · rw [if_pos hc] at h
    simp only [Bool.and_eq_true, decide_eq_true_eq] at hc
    obtain ⟨h1, h2, h3⟩ := hc
    obtain ⟨⟨h4, h5⟩, hgd⟩ := check_good h1
    obtain ⟨s1, s2, s3⟩ := srch_sound rfl hgd (fun j hj => rowsP_goodP hj (hg j (by omega))) (ls.length - 1) net l (by omega) hn h
    have e : ls.length - 1 - (ls.length - 1) = 0 := by omega
    rw [e] at s1 s3
    have hl : l.length = ls.length := by omega
    refine ⟨h1, h2, h3, hl, ?_, fun j hj => ?_⟩
    · rw [← hl, netF_wsum]; exact s1
    · have hm := memR_at s3 j (by omega)
      rw [Nat.zero_add, rowsP_at hj] at hm
      exact moves_good _ _ _ hm
  · rw [if_neg hc] at h; cases h
/-- Tops without customers, the bid below the ask. -/
def calm (t : Tp) : Prop := t.ac = false ∧ t.bc = false ∧ 1 ≤ t.bid ∧ t.bid < t.ask ∧ t.ask ≤ 1000000
theorem row_head {t : Tp} {s : Int} (hs : s = 1 ∨ s = -1) (h : calm t) : ∃ r, movesP s t [(1, 1)] = startP s t :: r ∧ (priceT t s) = some (startP s t) := by
  obtain ⟨h1, h2, h3, h4, h5⟩ := h
  have hm : mayB t [(1, 1)] (startP s t) = true := by
    rw [may1 t _ h3 h5, insideB_is h3 (by omega), h1, h2]
    unfold startP
    split <;> simp <;> omega
  refine ⟨_, by unfold movesP movesF; rw [hm, if_pos rfl]; rfl, ?_⟩
  unfold priceT startP
  rcases hs with rfl | rfl
  · simp; omega
  · simp; omega
theorem tops_sound {ls : List Lg} {ts : List Tp} {side : Int} {p : List Int} (h : topsP ls ts side = some p) :
    checkB ls = true ∧ ts.length = ls.length ∧ p.length = ls.length ∧ ∀ j, j < ls.length → topP ls ts side j = some (psAt p j) := by
  unfold topsP at h
  by_cases hc : (checkB ls && (decide (ts.length = ls.length) && topU ls ts side ls.length)) = true
  · rw [if_pos hc] at h
    simp only [Bool.and_eq_true, decide_eq_true_eq] at hc
    obtain ⟨h1, h2, h3⟩ := hc
    obtain rfl : (List.range ls.length).map (fun j => (topP ls ts side j).getD 0) = p := by simpa using h
    refine ⟨h1, h2, by simp, fun j hj => ?_⟩
    have hu : ∀ n, topU ls ts side n = true → ∀ j, j < n → (topP ls ts side j).isSome = true := by
      intro n
      induction n with
      | zero => intro _ j hj; omega
      | succ n ih =>
        intro hn j hj
        have h' : (topU ls ts side n && (topP ls ts side n).isSome) = true := hn
        simp only [Bool.and_eq_true] at h'
        by_cases e : j = n
        · subst e; exact h'.2
        · exact ih h'.1 j (by omega)
    have := hu _ h3 j hj
    obtain ⟨v, hv⟩ := Option.isSome_iff_exists.1 this
    simp [psAt, List.getD_eq_getElem?_getD, hj, hv]
  · rw [if_neg hc] at h; cases h
theorem priceT_bd {t : Tp} {s v : Int} (hb : t.bid ≤ 1000000) (ha : t.ask ≤ 1000000) (h : priceT t s = some v) : 0 ≤ v ∧ v ≤ 1000000 := by
  unfold priceT at h
  split at h
  · split at h
    · obtain rfl : t.ask = v := by simpa using h
      omega
    · cases h
  · split at h
    · obtain rfl : t.bid = v := by simpa using h
      omega
    · cases h
theorem tops_goodP {ls : List Lg} {ts : List Tp} {side : Int} {p : List Int} (hf : fewB ts = true) (h : topsP ls ts side = some p) : GoodP p := by
  obtain ⟨_, h2, h3, h4⟩ := tops_sound h
  intro j hj
  obtain ⟨_, hb⟩ := few_is hf
  have hj' : j < ts.length := by omega
  exact priceT_bd (hb j hj').1.2 (hb j hj').2.2 (h4 j (by omega))
theorem ofS_one (s : Int) : ofS s 1 = s := if_pos rfl
theorem ofS_two (s : Int) : ofS s 2 = -s := if_neg (by decide)
theorem ends_found {ls : List Lg} {ts : List Tp} {p : List Int} (hc : ∀ j, j < ts.length → calm (tpAt ts j)) (h : topsP ls ts 1 = some p) : pricesP ls ts (ones ts.length) (netF ls p ls.length) = some p := by
  obtain ⟨h1, h2, h3, h4⟩ := tops_sound h
  obtain ⟨⟨hl2, hl4⟩, hgd⟩ := check_good h1
  have hp : ∀ j, j < ls.length → ∃ r, movesP (lgAt ls j).sgn (tpAt ts j) [(1, 1)] = psAt p j :: r := fun j hj => by
    obtain ⟨r, e1, e2⟩ := row_head (goodL_is (hgd j hj)).2.1 (hc j (by omega))
    have e3 := h4 j hj
    unfold topP at e3
    rw [ofS_one, e2] at e3
    obtain e4 : startP (lgAt ls j).sgn (tpAt ts j) = psAt p j := by simpa using e3
    exact ⟨r, by rw [e1, e4]⟩
  have hgp : GoodP p := fun j hj => by
    have e3 := h4 j (by omega)
    obtain ⟨_, _, a1, a2, a3⟩ := hc j (by omega)
    exact priceT_bd (by omega) a3 e3
  unfold pricesP
  rw [if_pos (by simp [h1, h2, ones_len]), ← h3, netF_wsum, h3]
  have e : ls.length - 1 - (ls.length - 1) = 0 := by omega
  have := srch_first (rows := rowsP ls ts (ones ts.length) ls.length) hl4 hgd (ls.length - 1) p (by omega) (by omega) (bdL_of p hgp) (headR_of p _ fun j hj => by
    rw [e, Nat.zero_add, rowsP_at (by omega), ones_get _ _ (by omega)]
    exact hp j (by omega))
  rw [e] at this
  exact this
theorem leg_le {ls : List Lg} {i : Nat} {p q : Int} (hg : goodL (lgAt ls i) = true) (h1 : (lgAt ls i).sgn = 1 → p ≤ q) (h2 : (lgAt ls i).sgn = -1 → q ≤ p) : legC ls i * p ≤ legC ls i * q := by
  obtain ⟨_, g2, g3, g4⟩ := goodL_is hg
  unfold legC
  rcases g2 with e | e
  · rw [e, Int.one_mul]
    exact Int.mul_le_mul_of_nonneg_left (h1 e) (by omega)
  · rw [e]
    have := Int.mul_le_mul_of_nonneg_left (h2 e) (show 0 ≤ (lgAt ls i).rat by omega)
    simp only [Int.neg_mul, Int.one_mul]
    omega
/-- The net of what lies between the tops lies between the tops' nets. -/
theorem between {ls : List Lg} {ts : List Tp} {l p q : List Int} (hf : ∀ j, j < ls.length → insideB (tpAt ts j) (psAt l j) = true) (hl : l.length = ls.length) (h : topsP ls ts 1 = some p) (h2 : topsP ls ts 2 = some q) :
    netF ls l ls.length ≤ netF ls p ls.length ∧ netF ls q ls.length ≤ netF ls l ls.length := by
  obtain ⟨h1, _, h3, h4⟩ := tops_sound h
  obtain ⟨_, _, k3, k4⟩ := tops_sound h2
  obtain ⟨⟨hl2, hl4⟩, hgd⟩ := check_good h1
  have hin : ∀ j, j < ls.length → (0 < (tpAt ts j).bid ∧ 0 < (tpAt ts j).ask) ∧ (tpAt ts j).bid ≤ psAt l j ∧ psAt l j ≤ (tpAt ts j).ask := fun j hj => by
    have := hf j hj
    unfold insideB at this
    simp only [Bool.and_eq_true, decide_eq_true_eq] at this
    exact ⟨this.1.1, this.1.2, this.2⟩
  have e1 : netF ls l ls.length = wsum ls 0 l := by rw [← hl, netF_wsum]
  have e2 : netF ls p ls.length = wsum ls 0 p := by rw [← h3, netF_wsum]
  have e3 : netF ls q ls.length = wsum ls 0 q := by rw [← k3, netF_wsum]
  rw [e1, e2, e3]
  refine ⟨wsum_le _ _ _ (leR_of _ _ _ (by omega) fun j hj => ?_), wsum_le _ _ _ (leR_of _ _ _ (by omega) fun j hj => ?_)⟩
  · rw [Nat.zero_add]
    obtain ⟨⟨i1, i2⟩, i3, i4⟩ := hin j (by omega)
    have e := h4 j (by omega)
    unfold topP priceT at e
    rw [ofS_one] at e
    refine leg_le (hgd j (by omega)) (fun hs => ?_) (fun hs => ?_)
    · rw [hs] at e; simp [i2] at e; omega
    · rw [hs] at e; simp [i1] at e; omega
  · rw [Nat.zero_add]
    obtain ⟨⟨i1, i2⟩, i3, i4⟩ := hin j (by omega)
    have e := k4 j (by omega)
    unfold topP priceT at e
    rw [ofS_two] at e
    refine leg_le (hgd j (by omega)) (fun hs => ?_) (fun hs => ?_)
    · rw [hs] at e; simp [i1] at e; omega
    · rw [hs] at e; simp [i2] at e; omega
theorem tops_there {ls : List Lg} {ts : List Tp} {l : List Int} (hc : checkB ls = true) (ht : ts.length = ls.length) (hf : ∀ j, j < ls.length → insideB (tpAt ts j) (psAt l j) = true) (side : Int) : ∃ p, topsP ls ts side = some p := by
  have hu : ∀ n, n ≤ ls.length → topU ls ts side n = true := by
    intro n
    induction n with
    | zero => intro _; rfl
    | succ n ih =>
      intro hn
      show (topU ls ts side n && (topP ls ts side n).isSome) = true
      rw [ih (by omega)]
      have := hf n (by omega)
      unfold insideB at this
      simp only [Bool.and_eq_true, decide_eq_true_eq] at this
      unfold topP priceT
      rw [if_pos this.1.1.2, if_pos this.1.1.1]
      split <;> rfl
  unfold topsP
  rw [hc, hu _ (Nat.le_refl _), ht]
  exact ⟨_, if_pos (by simp)⟩
theorem ends_none {ls : List Lg} {ts : List Tp} {p : List Int} (hc : ∀ j, j < ts.length → calm (tpAt ts j)) (h : topsP ls ts 1 = some p) : pricesP ls ts (ones ts.length) (netF ls p ls.length + 1) = none := by
  cases hr : pricesP ls ts (ones ts.length) (netF ls p ls.length + 1) with
  | none => rfl
  | some l =>
    exfalso
    obtain ⟨h1, h2, h3, h4⟩ := tops_sound h
    obtain ⟨⟨hl2, hl4⟩, hgd⟩ := check_good h1
    have hgp : GoodP p := fun j hj => by
      have e3 := h4 j (by omega)
      obtain ⟨_, _, a1, a2, a3⟩ := hc j (by omega)
      exact priceT_bd (by omega) a3 e3
    have hbd := netF_bd hgd hgp h3 ls.length (Nat.le_refl _)
    obtain ⟨_, _, _, s4, s5, s6⟩ := prices_sound (good_ones _) (by unfold I64; omega) hr
    have hin : ∀ j, j < ls.length → insideB (tpAt ts j) (psAt l j) = true := fun j hj => (may_on (s6 j hj)).2
    obtain ⟨q, hq⟩ := tops_there h1 h2 hin 2
    have := (between hin s4 h hq).1
    omega
end Go.Proofs.Ytgbdnodkbdkaeaa
