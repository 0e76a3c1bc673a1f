/- Plain laws of the switch: fills a window apart; fills in one window. -/
import Derived.Test.YtpcacnlkhicekaaKf
namespace Go.Proofs.Ytpcacnlkhicekaa
open Go.RowKit

theorem inW_far {W T t : Int} (hW : 1 ≤ W ∧ W ≤ 1000000) (ht : 0 ≤ t) (h : t ≤ T - W) (hT : T ≤ 1000000000000) : inW W T t = false := by
  unfold inW
  rw [decide_eq_false_iff_not]
  have h1 : wrap64 (T - t) = T - t := by unfold wrap64; omega
  rw [h1]
  have h2 : IntKind.u64.wrap (T - t) = T - t := by simp [IntKind.wrap, IntKind.signed, IntKind.bits]; omega
  have h3 : IntKind.u64.wrap W = W := by simp [IntKind.wrap, IntKind.signed, IntKind.bits]; omega
  rw [h2, h3]; omega
theorem inW_same {W T : Int} (hW : 1 ≤ W ∧ W ≤ 1000000) : inW W T T = true := by
  unfold inW
  rw [decide_eq_true_eq]
  have h1 : wrap64 (T - T) = 0 := by unfold wrap64; omega
  rw [h1]
  have h2 : IntKind.u64.wrap 0 = 0 := rfl
  have h3 : IntKind.u64.wrap W = W := by simp [IntKind.wrap, IntKind.signed, IntKind.bits]; omega
  rw [h2, h3]; omega

theorem set_other (s : KS) {n i : Int} (x : Mk) (h : i ≠ n) : (s.set n x).m i = s.m i := upd_other s.m x h
theorem cnt_append (W T : Int) (a b : List Int) : cnt W T (a ++ b) = cnt W T a + cnt W T b := by simp [cnt]
theorem cnt_none {W T : Int} {ts : List Int} (h : ∀ t ∈ ts, inW W T t = false) : cnt W T ts = 0 := by
  unfold cnt
  rw [List.length_eq_zero_iff, List.filter_eq_nil_iff]
  intro t ht; rw [h t ht]; simp
theorem cnt_one {W T : Int} (h : inW W T T = true) : cnt W T [T] = 1 := by simp [cnt, h]
theorem cnt_rep {W T : Int} (h : inW W T T = true) (n : Nat) : cnt W T (List.replicate n T) = n := by
  unfold cnt
  rw [List.filter_eq_self.2 (fun t ht => by rw [List.eq_of_mem_replicate ht]; exact h), List.length_replicate]

/-- Maker 1: hit once a window; maker 2: never yet. -/
structure P1 (f W T : Int) (s : KS) : Prop where
  hf : s.fills = f
  hw : s.window = W
  off : (s.m 1).off = false
  ts : ∀ t ∈ (s.m 1).times, 0 ≤ t ∧ t ≤ T - W
  last : (s.m 1).any = true → (s.m 1).last ≤ T
  len : ((s.m 1).times.length : Int) ≤ f
  two : s.m 2 = Mk.zero

theorem rowT_far {W T : Int} {s : KS} {ts : List Int} (hf : 2 ≤ s.fills) (hW : 1 ≤ W ∧ W ≤ 1000000) (hT : 0 ≤ T ∧ T ≤ 1000000000000) (hts : ∀ t ∈ ts, 0 ≤ t ∧ t ≤ T - W) (hlen : (ts.length : Int) ≤ s.fills) :
    cnt W T (rowT s T ts) = 1 ∧ (∀ t ∈ rowT s T ts, 0 ≤ t ∧ t ≤ T) ∧ ((rowT s T ts).length : Int) ≤ s.fills := by
  have hsame := inW_same (T := T) hW
  have key : ∀ us : List Int, (∀ t ∈ us, 0 ≤ t ∧ t ≤ T - W) → cnt W T (us ++ [T]) = 1 ∧ (∀ t ∈ us ++ [T], 0 ≤ t ∧ t ≤ T) := by
    intro us hus
    refine ⟨by rw [cnt_append, cnt_none (fun t ht => inW_far hW (hus t ht).1 (hus t ht).2 hT.2), cnt_one hsame], fun t ht => ?_⟩
    rcases List.mem_append.1 ht with h | h
    · have := hus t h; omega
    · rw [List.mem_singleton.1 h]; omega
  unfold rowT
  split
  · cases ts with
    | nil => rename_i h; simp at h; omega
    | cons t ts =>
      have h2 := key ts (fun x hx => hts x (List.mem_cons_of_mem _ hx))
      exact ⟨h2.1, h2.2, by simp at hlen ⊢; omega⟩
  · have h2 := key ts hts
    exact ⟨h2.1, h2.2, by simp; omega⟩

theorem p1_step {f W T : Int} {s : KS} (h : P1 f W T s) (hf : 2 ≤ f) (hW : 1 ≤ W ∧ W ≤ 1000000) (hT : 0 ≤ T ∧ T ≤ 1000000000000) :
    fillR s (s.m 1) T = false ∧ P1 f W (T + W) (s.set 1 (fillM s (s.m 1) T)) ∧ countM (s.set 1 (fillM s (s.m 1) T)) ((s.set 1 (fillM s (s.m 1) T)).m 1) T = 1 := by
  obtain ⟨rfl, rfl, hoff, hts, hlast, hlen, h2⟩ := h
  have hat : atM (s.m 1) T = T := by
    unfold atM; split
    · rename_i h; have := hlast h.1; omega
    · rfl
  obtain ⟨hc, hm, hl⟩ := rowT_far hf hW hT hts hlen
  obtain ⟨r1, r2⟩ := fill_no (now := T) hoff hat (by rw [hc]; simp; omega)
  rw [r1, r2]
  refine ⟨rfl, ⟨rfl, rfl, by rw [set_at], fun t ht => ?_, fun _ => ?_, ?_, ?_⟩, ?_⟩
  · rw [set_at] at ht; have := hm t ht; omega
  · rw [set_at]; show T ≤ _; omega
  · rw [set_at]; exact hl
  · rw [← h2]; exact set_other s _ (by decide)
  · rw [set_at]
    unfold countM atM
    simp only [Bool.false_eq_true, if_false, Int.lt_irrefl, and_false]
    exact_mod_cast hc

/-- Maker 2: hit j - 1 times at T. -/
structure P2 (f W T : Int) (j : Nat) (s : KS) : Prop where
  hf : s.fills = f
  hw : s.window = W
  off : (s.m 1).off = false
  on : (j : Int) ≤ f → (s.m 2).off = false ∧ atM (s.m 2) T = T ∧ (s.m 2).times = List.replicate (j - 1) T
  out : f < (j : Int) → (s.m 2).off = true

theorem p2_step {f W T : Int} {j : Nat} {s : KS} (h : P2 f W T j s) (hj : 1 ≤ j) (hjf : (j : Int) ≤ f) (hW : 1 ≤ W ∧ W ≤ 1000000) :
    fillR s (s.m 2) T = decide ((j : Int) = f) ∧ P2 f W T (j + 1) (s.set 2 (fillM s (s.m 2) T)) := by
  obtain ⟨rfl, rfl, hoff, hon, hout⟩ := h
  obtain ⟨ho, hat, hts⟩ := hon hjf
  have hrow : rowT s T (s.m 2).times = List.replicate j T := by
    rw [hts, rowT, if_neg (by rw [List.length_replicate]; omega), show j = (j - 1) + 1 by omega, List.replicate_succ']
    simp
  have hc : cnt s.window T (rowT s T (s.m 2).times) = j := by rw [hrow, cnt_rep (inW_same hW)]
  by_cases e : (j : Int) = s.fills
  · obtain ⟨r1, r2⟩ := fill_yes (now := T) ho hat (by rw [hc]; omega)
    rw [r1, r2]
    refine ⟨by simp [e], rfl, rfl, ?_, fun h => ?_, fun _ => by rw [set_at]⟩
    · rw [set_other s _ (by decide)]; exact hoff
    · exfalso; have : ((j + 1 : Nat) : Int) ≤ s.fills := h; omega
  · obtain ⟨r1, r2⟩ := fill_no (now := T) ho hat (by rw [hc]; omega)
    rw [r1, r2]
    refine ⟨by simp [e], rfl, rfl, ?_, fun _ => ?_, fun h => ?_⟩
    · rw [set_other s _ (by decide)]; exact hoff
    · rw [set_at]
      exact ⟨rfl, by simp [atM], hrow⟩
    · exfalso; have : s.fills < ((j + 1 : Nat) : Int) := h; omega
theorem P2.len {f W T : Int} {j : Nat} {s : KS} (h : P2 f W T j s) (hj : (j : Int) ≤ f) (hf : f ≤ 1000) : (s.m 2).times.length ≤ 1000 := by
  rw [(h.on hj).2.2, List.length_replicate]; omega
theorem P1.to2 {f W T : Int} {s : KS} (h : P1 f W T s) (hf : 1 ≤ f) : P2 f W T 1 s :=
  ⟨h.hf, h.hw, h.off, fun _ => by rw [h.two]; exact ⟨rfl, by simp [atM, Mk.zero], rfl⟩, fun h => by omega⟩
theorem P1.new {f W T : Int} (hf : 0 ≤ f) : P1 f W T (KS.new f W) := ⟨rfl, rfl, rfl, (fun t (ht : t ∈ []) => by cases ht), (fun (h : false = true) => by cases h), hf, rfl⟩
end Go.Proofs.Ytpcacnlkhicekaa
