/- Alloc: the plain law where each leg's prices go by one; AllocOne's. -/
import Derived.Test.YtgbdnodkbdkaeaaBa
namespace Go.Proofs.Ytgbdnodkbdkaeaa
open Go Go.RowKit

theorem step1 {q : Int} (h : 1 ≤ q) : stepT [(1, 1)] q = (1, 1) := by
  have h2 : stepK [(1, 1)] q = 0 := by
    unfold stepK
    have : lastAt [(1, 1)] q 1 = 0 := by
      show (if ([((1 : Int), (1 : Int))].getD 0 (0, 0)).1 ≤ q then ((0 : Nat) : Int) else -1) = 0
      rw [if_pos (by simpa using h)]; rfl
    show (lastAt [(1, 1)] q 1).toNat = 0
    rw [this]; rfl
  unfold stepT
  rw [h2]; rfl
theorem near1 {p : Int} (h : 1 ≤ p) : nearT [(1, 1)] p = min p 1000000 := by
  unfold nearT
  rw [if_neg (by omega), step1 (by omega)]
  simp only [Int.emod_one]
  omega
theorem on1 (p : Int) : onT [(1, 1)] p = (decide (1 ≤ p) && decide (p ≤ 1000000)) := by
  unfold onT
  by_cases h : 1 ≤ p
  · rw [near1 h]
    by_cases h2 : p ≤ 1000000
    · simp [h, h2]; omega
    · simp [h, h2]; omega
  · simp [h]
theorem up1 {p : Int} (h : 1 ≤ p) (h2 : p ≤ 1000000) : upT [(1, 1)] p = if p < 1000000 then some (p + 1) else none := by
  unfold upT
  rw [on1, step1 h]
  simp only [h, h2, decide_true, Bool.and_self, if_true]
  by_cases h3 : p < 1000000
  · rw [if_pos (show p + 1 ≤ 1000000 by omega), if_pos h3]
  · rw [if_neg (show ¬ p + 1 ≤ 1000000 by omega), if_neg h3]
theorem down1 {p : Int} (h : 1 ≤ p) (h2 : p ≤ 1000000) : downT [(1, 1)] p = if p = 1 then none else some (p - 1) := by
  unfold downT
  rw [on1]
  by_cases h3 : p = 1
  · rw [if_neg (by simp [h3]), if_pos h3]
  · rw [if_pos (by simp [h, h2, h3]), if_neg h3, near1 (by omega)]
    congr 1; omega
theorem may1 (t : Tp) (p : Int) (hb : 1 ≤ t.bid) (ha : t.ask ≤ 1000000) : mayB t [(1, 1)] p = (insideB t p && ((!t.ac || decide (p < t.ask)) && (!t.bc || decide (t.bid < p)))) := by
  unfold mayB
  rw [on1]
  cases hi : insideB t p with
  | false => simp
  | true =>
    unfold insideB at hi
    simp only [Bool.and_eq_true, decide_eq_true_eq] at hi
    have e1 : decide (1 ≤ p) = true := decide_eq_true (by omega)
    have e2 : decide (p ≤ 1000000) = true := decide_eq_true (by omega)
    rw [e1, e2]; simp [Bool.and_assoc]
theorem insideB_is {t : Tp} (hb : 1 ≤ t.bid) (ha : 1 ≤ t.ask) (p : Int) : insideB t p = (decide (t.bid ≤ p) && decide (p ≤ t.ask)) := by
  unfold insideB
  have e1 : decide (0 < t.bid) = true := decide_eq_true (by omega)
  have e2 : decide (0 < t.ask) = true := decide_eq_true (by omega)
  rw [e1, e2]; simp
theorem mem_down {t : Tp} (hb : 1 ≤ t.bid) (ha : 1 ≤ t.ask) (ha2 : t.ask ≤ 1000000) (hc : t.ac = false) (hc2 : t.bc = false) : ∀ (n : Nat) (p : Int), t.bid ≤ p → p ≤ t.ask → ∀ q, q ∈ movesF 1 t [(1, 1)] n p ↔ t.bid ≤ q ∧ q ≤ p ∧ p - q < n
  | 0, p, h1, h2, q => by
    simp only [movesF, List.not_mem_nil, false_iff]; omega
  | n + 1, p, h1, h2, q => by
    have hm : mayB t [(1, 1)] p = true := by rw [may1 t p hb ha2, insideB_is hb ha, hc, hc2]; simp [h1, h2]
    have hn : nextP 1 [(1, 1)] p = if p = 1 then none else some (p - 1) := by
      show (if (1 : Int) = 1 then downT [(1, 1)] p else _) = _
      rw [if_pos rfl, down1 (by omega) (by omega)]
    unfold movesF
    rw [hm, if_pos rfl, List.mem_append, List.mem_singleton, hn]
    by_cases h3 : p = 1
    · rw [if_pos h3]
      simp only [List.not_mem_nil, or_false]
      omega
    · rw [if_neg h3]
      show q = p ∨ q ∈ (if insideB t (p - 1) = true then movesF 1 t [(1, 1)] n (p - 1) else []) ↔ _
      rw [insideB_is hb ha]
      by_cases h4 : t.bid ≤ p - 1
      · have e1 : decide (t.bid ≤ p - 1) = true := decide_eq_true h4
        have e2 : decide (p - 1 ≤ t.ask) = true := decide_eq_true (by omega)
        rw [e1, e2, Bool.and_self, if_pos rfl, mem_down hb ha ha2 hc hc2 n (p - 1) h4 (by omega) q]
        push_cast; omega
      · have e1 : decide (t.bid ≤ p - 1) = false := decide_eq_false h4
        rw [e1, Bool.false_and, if_neg (by simp)]
        simp only [List.not_mem_nil, or_false]
        push_cast; omega
theorem row_same {o : Int} (h : 1 ≤ o) (h2 : o < 1000000) : movesP (-1) ⟨o, 1, o, 1, false, false⟩ [(1, 1)] = [o] := by
  unfold movesP
  show movesF (-1) _ _ 13 o = _
  unfold movesF
  have hm : mayB ⟨o, 1, o, 1, false, false⟩ [(1, 1)] o = true := by rw [may1 _ o h (show o ≤ 1000000 by omega), insideB_is h h]; simp
  have hn : nextP (-1) [(1, 1)] o = some (o + 1) := by
    show (if (-1 : Int) = 1 then _ else upT [(1, 1)] o) = _
    rw [if_neg (by decide), up1 h (by omega), if_pos h2]
  rw [hm, if_pos rfl, hn]
  show [o] ++ (if insideB ⟨o, 1, o, 1, false, false⟩ (o + 1) = true then _ else []) = [o]
  rw [insideB_is h h, if_neg (by simp; omega)]
  rfl
theorem findSome_one {f : Int → Option (List Int)} {v : Int} {r : List Int} : ∀ {l : List Int}, (∀ p ∈ l, f p = if p = v then some r else none) → l.findSome? f = if v ∈ l then some r else none
  | [], _ => by simp
  | p :: l, h => by
    rw [List.findSome?_cons, h p (by simp)]
    by_cases e : p = v
    · subst e; simp
    · rw [if_neg e, findSome_one fun q hq => h q (by simp [hq])]
      have e' : ¬ v = p := fun h => e h.symm
      simp [e']
theorem one_law {b a o net : Int} (hb : 1 ≤ b) (hb2 : b ≤ 300) (hab : b ≤ a) (ha : a ≤ 600) (ho : 1 ≤ o) (ho2 : o ≤ 300) (hn : -40000 ≤ net) (hn2 : net ≤ 40000) :
    pricesP two [⟨b, 1, a, 1, false, false⟩, ⟨o, 1, o, 1, false, false⟩] (ones 2) net = if b ≤ net + o ∧ net + o ≤ a ∧ a - (net + o) ≤ 12 then some [net + o, o] else none := by
  have hc : checkB two = true := by decide
  unfold pricesP
  rw [hc, if_pos (by simp [two, ones])]
  show srchF two [movesP 1 ⟨b, 1, a, 1, false, false⟩ [(1, 1)], movesP (-1) ⟨o, 1, o, 1, false, false⟩ [(1, 1)]] 2 1 net = _
  rw [row_same ho (by omega)]
  have hmem := mem_down (t := ⟨b, 1, a, 1, false, false⟩) hb (show 1 ≤ a by omega) (show a ≤ 1000000 by omega) rfl rfl 13 a hab (Int.le_refl _)
  show (movesF 1 ⟨b, 1, a, 1, false, false⟩ [(1, 1)] 13 a).findSome? (pick 1 (fun left => (lastV (-1) [o] left).map fun v => [v]) net) = _
  rw [findSome_one (v := net + o) (r := [net + o, o])]
  · have h := hmem (net + o)
    by_cases h2 : b ≤ net + o ∧ net + o ≤ a ∧ a - (net + o) ≤ 12
    · rw [if_pos h2, if_pos (h.2 ⟨h2.1, h2.2.1, by push_cast; omega⟩)]
    · rw [if_neg h2, if_neg (fun hh => h2 (by have := h.1 hh; push_cast at this; omega))]
  · intro p hp
    have h := (hmem p).1 hp
    simp only at h
    unfold pick
    have hir : inRange (net - 1 * p) = true := by unfold inRange; simp; omega
    rw [hir, if_pos rfl]
    unfold lastV
    have e1 : (net - 1 * p).tmod (-1) = 0 := by simp
    have e2 : wrap64 ((net - 1 * p).tdiv (-1)) = p - net := by
      have : (net - 1 * p).tdiv (-1) = p - net := by simp [Int.tdiv_neg]; omega
      rw [this]; exact IntWalk.wrap64_in _ (by omega)
    show Option.map (fun x => p :: x) (Option.map (fun v => [v]) (if (net - 1 * p).tmod (-1) = 0 ∧ [o].contains (wrap64 ((net - 1 * p).tdiv (-1))) = true then some (wrap64 ((net - 1 * p).tdiv (-1))) else none)) = _
    rw [e1, e2]
    by_cases h3 : p = net + o
    · subst h3
      have e3 : net + o - net = o := by omega
      rw [e3]; simp
    · rw [if_neg h3, if_neg (by simp; omega)]; rfl
end Go.Proofs.Ytgbdnodkbdkaeaa
