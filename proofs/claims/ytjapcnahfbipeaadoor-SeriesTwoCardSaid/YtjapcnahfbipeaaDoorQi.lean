/- Series: the order's plain laws; the contracts as a drawn region needs them. -/
import Derived.Test.YtjapcnahfbipeaaDoorQh
namespace Go.Proofs.YtjapcnahfbipeaaDoor
open Go Go.RowKit

theorem cmpS_tri (x y : List UInt8) : (cmpS x y = -1 ∧ cmpS y x = 1 ∧ x ≠ y) ∨ (cmpS x y = 1 ∧ cmpS y x = -1 ∧ x ≠ y) ∨ (x = y ∧ cmpS x y = 0 ∧ cmpS y x = 0) := by
  unfold cmpS
  cases h1 : Op.bytesLess x y with
  | true =>
    have h2 := bl_asymm _ _ h1
    refine .inl ⟨by simp, by simp [h2], fun e => ?_⟩
    rw [e, bl_irrefl] at h1; cases h1
  | false =>
    cases h2 : Op.bytesLess y x with
    | true =>
      refine .inr (.inl ⟨by simp, by simp, fun e => ?_⟩)
      rw [e, bl_irrefl] at h2; cases h2
    | false => exact .inr (.inr ⟨bl_total _ _ h1 h2, by simp, by simp⟩)
theorem cmpN_tri (x y : Int) : (cmpN x y = -1 ∧ cmpN y x = 1 ∧ x ≠ y ∧ x < y) ∨ (cmpN x y = 1 ∧ cmpN y x = -1 ∧ x ≠ y ∧ y < x) ∨ (x = y ∧ cmpN x y = 0 ∧ cmpN y x = 0) := by
  unfold cmpN
  rcases Int.lt_trichotomy x y with h | h | h
  · left; rw [if_pos h, if_neg (by omega), if_pos h]; exact ⟨rfl, rfl, by omega, h⟩
  · right; right; subst h; simp
  · right; left; rw [if_neg (by omega), if_pos h, if_pos h]; exact ⟨rfl, rfl, by omega, h⟩
theorem fz_ne {z : Int} (h : z ≠ 0) (l : List Int) : firstNZ (z :: l) = z := if_pos h
theorem fz_0 (l : List Int) : firstNZ (0 :: l) = firstNZ l := rfl
theorem ba_of {a b : ByteArray} (h : a.toList = b.toList) : a = b := by
  rw [ByteArray.toList_eq, ByteArray.toList_eq] at h
  obtain ⟨⟨x⟩⟩ := a
  obtain ⟨⟨y⟩⟩ := b
  have : x = y := h
  rw [this]
/-- How two compare: the value, the turned value, whether they are one. -/
structure Cmp (a b : Sr) (z y : Int) : Prop where
  ab : cmpSr a b = z
  ba : cmpSr b a = y
theorem cmp_cases (a b : Sr) : (a = b ∧ Cmp a b 0 0) ∨
    ((Cmp a b (-1) 1 ∨ Cmp a b 1 (-1)) ∧ ((a.cls.toList == b.cls.toList) = false ∨ ((a.cls.toList == b.cls.toList) = true ∧ (a.exp == b.exp) = false) ∨ ((a.cls.toList == b.cls.toList) = true ∧ (a.exp == b.exp) = true ∧ (a.strike == b.strike) = false) ∨
      ((a.cls.toList == b.cls.toList) = true ∧ (a.exp == b.exp) = true ∧ (a.strike == b.strike) = true ∧ (a.right == b.right) = false))) := by
  obtain ⟨c1, e1, s1, r1⟩ := a
  obtain ⟨c2, e2, s2, r2⟩ := b
  rcases cmpS_tri c1.toList c2.toList with ⟨h1, h2, h3⟩ | ⟨h1, h2, h3⟩ | ⟨hc, h1, h2⟩
  · exact .inr ⟨.inl ⟨by show firstNZ _ = _; rw [h1]; rfl, by show firstNZ _ = _; rw [h2]; rfl⟩, .inl (beq_eq_false_iff_ne.2 h3)⟩
  · exact .inr ⟨.inr ⟨by show firstNZ _ = _; rw [h1]; rfl, by show firstNZ _ = _; rw [h2]; rfl⟩, .inl (beq_eq_false_iff_ne.2 h3)⟩
  obtain rfl := ba_of hc
  rcases cmpN_tri e1 e2 with ⟨g1, g2, g3, -⟩ | ⟨g1, g2, g3, -⟩ | ⟨rfl, g1, g2⟩
  · exact .inr ⟨.inl ⟨by show firstNZ _ = _; rw [h1, g1]; rfl, by show firstNZ _ = _; rw [h2, g2]; rfl⟩, .inr (.inl ⟨beq_self_eq_true _, beq_eq_false_iff_ne.2 g3⟩)⟩
  · exact .inr ⟨.inr ⟨by show firstNZ _ = _; rw [h1, g1]; rfl, by show firstNZ _ = _; rw [h2, g2]; rfl⟩, .inr (.inl ⟨beq_self_eq_true _, beq_eq_false_iff_ne.2 g3⟩)⟩
  rcases cmpN_tri s1 s2 with ⟨k1, k2, k3, -⟩ | ⟨k1, k2, k3, -⟩ | ⟨rfl, k1, k2⟩
  · exact .inr ⟨.inl ⟨by show firstNZ _ = _; rw [h1, g1, k1]; rfl, by show firstNZ _ = _; rw [h2, g2, k2]; rfl⟩, .inr (.inr (.inl ⟨beq_self_eq_true _, beq_self_eq_true _, beq_eq_false_iff_ne.2 k3⟩))⟩
  · exact .inr ⟨.inr ⟨by show firstNZ _ = _; rw [h1, g1, k1]; rfl, by show firstNZ _ = _; rw [h2, g2, k2]; rfl⟩, .inr (.inr (.inl ⟨beq_self_eq_true _, beq_self_eq_true _, beq_eq_false_iff_ne.2 k3⟩))⟩
  rcases cmpN_tri r1 r2 with ⟨m1, m2, m3, -⟩ | ⟨m1, m2, m3, -⟩ | ⟨rfl, m1, m2⟩
  · exact .inr ⟨.inl ⟨by show firstNZ _ = _; rw [h1, g1, k1, m1]; rfl, by show firstNZ _ = _; rw [h2, g2, k2, m2]; rfl⟩, .inr (.inr (.inr ⟨beq_self_eq_true _, beq_self_eq_true _, beq_self_eq_true _, beq_eq_false_iff_ne.2 m3⟩))⟩
  · exact .inr ⟨.inr ⟨by show firstNZ _ = _; rw [h1, g1, k1, m1]; rfl, by show firstNZ _ = _; rw [h2, g2, k2, m2]; rfl⟩, .inr (.inr (.inr ⟨beq_self_eq_true _, beq_self_eq_true _, beq_self_eq_true _, beq_eq_false_iff_ne.2 m3⟩))⟩
  · exact .inl ⟨rfl, ⟨by show firstNZ _ = _; rw [h1, g1, k1, m1]; rfl, by show firstNZ _ = _; rw [h2, g2, k2, m2]; rfl⟩⟩
/-- 'not greater, not greater: not greater', place by place. -/
def Chain (x y z : Int) : Prop := (x = 0 ∧ y = 0 ∧ z = 0) ∨ (x < 0 ∧ y = 0 ∧ z < 0) ∨ (x = 0 ∧ y < 0 ∧ z < 0) ∨ (x < 0 ∧ y < 0 ∧ z < 0) ∨ (0 < x ∧ y = 0 ∧ 0 < z) ∨ (x = 0 ∧ 0 < y ∧ 0 < z) ∨ (0 < x ∧ 0 < y ∧ 0 < z) ∨ (x < 0 ∧ 0 < y) ∨ (0 < x ∧ y < 0)
theorem Chain.firsts : ∀ {l m n : List Int}, l.length = m.length → m.length = n.length → (∀ i (h1 : i < l.length) (h2 : i < m.length) (h3 : i < n.length), Chain l[i] m[i] n[i]) → Chain (firstNZ l) (firstNZ m) (firstNZ n)
  | [], [], [], _, _, _ => .inl ⟨rfl, rfl, rfl⟩
  | x :: l, y :: m, z :: n, h1, h2, h => by
    have h0 : Chain x y z := h 0 (by simp) (by simp) (by simp)
    have ih := Chain.firsts (l := l) (m := m) (n := n) (by simpa using h1) (by simpa using h2) (fun i a b c => by
      have := h (i + 1) (by simpa using a) (by simpa using b) (by simpa using c); simpa using this)
    unfold Chain at h0
    rcases h0 with ⟨rfl, rfl, rfl⟩ | ⟨a, rfl, c⟩ | ⟨rfl, b, c⟩ | ⟨a, b, c⟩ | ⟨a, rfl, c⟩ | ⟨rfl, b, c⟩ | ⟨a, b, c⟩ | ⟨a, b⟩ | ⟨a, b⟩
    · exact ih
    · rw [fz_ne (show x ≠ 0 by omega), fz_ne (show z ≠ 0 by omega), fz_0]
      unfold Chain; rcases Int.lt_trichotomy (firstNZ m) 0 with g | g | g <;> omega
    · rw [fz_ne (show y ≠ 0 by omega), fz_ne (show z ≠ 0 by omega), fz_0]
      unfold Chain; rcases Int.lt_trichotomy (firstNZ l) 0 with g | g | g <;> omega
    · rw [fz_ne (show x ≠ 0 by omega), fz_ne (show y ≠ 0 by omega), fz_ne (show z ≠ 0 by omega)]
      unfold Chain; omega
    · rw [fz_ne (show x ≠ 0 by omega), fz_ne (show z ≠ 0 by omega), fz_0]
      unfold Chain; rcases Int.lt_trichotomy (firstNZ m) 0 with g | g | g <;> omega
    · rw [fz_ne (show y ≠ 0 by omega), fz_ne (show z ≠ 0 by omega), fz_0]
      unfold Chain; rcases Int.lt_trichotomy (firstNZ l) 0 with g | g | g <;> omega
    · rw [fz_ne (show x ≠ 0 by omega), fz_ne (show y ≠ 0 by omega), fz_ne (show z ≠ 0 by omega)]
      unfold Chain; omega
    · rw [fz_ne (show x ≠ 0 by omega), fz_ne (show y ≠ 0 by omega)]
      unfold Chain; omega
    · rw [fz_ne (show x ≠ 0 by omega), fz_ne (show y ≠ 0 by omega)]
      unfold Chain; omega
theorem chain_n (x y z : Int) : Chain (cmpN x y) (cmpN y z) (cmpN x z) := by
  unfold Chain cmpN
  split <;> split <;> split <;> (try split) <;> (try split) <;> (try split) <;> omega
theorem cmpS_lt {x y : List UInt8} (h : cmpS x y < 0) : Op.bytesLess x y = true := by
  unfold cmpS at h
  cases h1 : Op.bytesLess x y with
  | true => rfl
  | false => rw [h1, if_neg (by decide)] at h; split at h <;> omega
theorem cmpS_of {x y : List UInt8} (h : Op.bytesLess x y = true) : cmpS x y = -1 := if_pos h
theorem chain_s (x y z : List UInt8) : Chain (cmpS x y) (cmpS y z) (cmpS x z) := by
  unfold Chain
  rcases cmpS_tri x y with ⟨a1, a2, a3⟩ | ⟨a1, a2, a3⟩ | ⟨rfl, a1, a2⟩
  · rcases cmpS_tri y z with ⟨b1, b2, b3⟩ | ⟨b1, b2, b3⟩ | ⟨rfl, b1, b2⟩
    · have := cmpS_of (bl_trans _ _ _ (cmpS_lt (show cmpS x y < 0 by omega)) (cmpS_lt (show cmpS y z < 0 by omega))); omega
    · omega
    · omega
  · rcases cmpS_tri y z with ⟨b1, b2, b3⟩ | ⟨b1, b2, b3⟩ | ⟨rfl, b1, b2⟩
    · omega
    · have hz := cmpS_of (bl_trans _ _ _ (cmpS_lt (show cmpS z y < 0 by omega)) (cmpS_lt (show cmpS y x < 0 by omega)))
      rcases cmpS_tri x z with ⟨c1, c2, c3⟩ | ⟨c1, c2, c3⟩ | ⟨rfl, c1, c2⟩ <;> omega
    · omega
  · rcases cmpS_tri x z with ⟨b1, b2, b3⟩ | ⟨b1, b2, b3⟩ | ⟨rfl, b1, b2⟩ <;> omega
theorem chain_sr (a b c : Sr) : Chain (cmpSr a b) (cmpSr b c) (cmpSr a c) := by
  refine Chain.firsts rfl rfl fun i h1 _ _ => ?_
  match i, h1 with
  | 0, _ => exact chain_s _ _ _
  | 1, _ => exact chain_n _ _ _
  | 2, _ => exact chain_n _ _ _
  | 3, _ => exact chain_n _ _ _
theorem cmpSr_vals (a b : Sr) : cmpSr a b = -1 ∨ cmpSr a b = 0 ∨ cmpSr a b = 1 := by
  rcases cmp_cases a b with ⟨-, h⟩ | ⟨h | h, -⟩
  · exact .inr (.inl h.ab)
  · exact .inl h.ab
  · exact .inr (.inr h.ab)
/-- What SeriesThree asks. -/
theorem three_law (a b c : Sr) : (cmpSr a b = 1 ∨ cmpSr b c = 1 ∨ cmpSr a c = -1 ∨ cmpSr a c = 0) ∧ (cmpSr a b = -1 ∨ cmpSr b c = -1 ∨ cmpSr a c = 1 ∨ cmpSr a c = 0) := by
  have h := chain_sr a b c
  unfold Chain at h
  rcases cmpSr_vals a b with h1 | h1 | h1 <;> rcases cmpSr_vals b c with h2 | h2 | h2 <;> rcases cmpSr_vals a c with h3 | h3 | h3 <;> omega

def OfPost (s : Sr) (w : World) (e : Ending) (w' : World) : Prop := e = .returned (.agg #[.string s.cls, .int .i64 s.exp, .int .i64 s.strike, .int .i64 s.right]) ∧ Kept (fun _ => False) w w'
theorem of_any (s : Sr) (w : World) : Calls Tryd.prog 8 #[.agg #[.string s.cls, .int .i64 s.exp, .int .i64 s.strike, .int .i64 s.right]] w (OfPost s w) := by
  go_enter Tryd.func8, Tryd.ntmps8
  go_wp2
  refine bodyPost_ret (v := .agg #[.string s.cls, .int .i64 s.exp, .int .i64 s.strike, .int .i64 s.right]) (by simp [results, Tryd.results8, go_sem]) rfl ⟨rfl, ?_⟩
  repeat refine Kept.setCell ?_ (fun h => by simp at h; omega) _
  exact ((Kept.refl _ _).alloc _).alloc _
theorem of_kw (s : Sr) {w : World} (x : KW w) : Calls Tryd.prog 8 #[.agg #[.string s.cls, .int .i64 s.exp, .int .i64 s.strike, .int .i64 s.right]] x.w fun e w'' => e = .returned (.agg #[.string s.cls, .int .i64 s.exp, .int .i64 s.strike, .int .i64 s.right]) ∧ ∃ y : KW w, w'' = y.w := Calls.kw (of_any s x.w)
theorem check_kw {s : Sr} {z : Int} (hs : s.cls.size ≤ 50) (hz : (chk s).2 = z) {w : World} (x : KW w) : Calls Tryd.prog 10 #[.agg #[.string s.cls, .int .i64 s.exp, .int .i64 s.strike, .int .i64 s.right]] x.w fun e w'' => e = .returned (.int .i64 z) ∧ ∃ y : KW w, w'' = y.w := by
  subst hz; exact Calls.kw ((check_any s x.w hs).mono fun _ _ h => ⟨h.1, kb h.2⟩)
theorem good_kw {s : ByteArray} {g : Bool} (hs : s.size ≤ 50) (hg : goodB s.data.toList = g) {w : World} (x : KW w) : Calls Tryd.prog 11 #[.string s] x.w fun e w'' => e = .returned (.bool g) ∧ ∃ y : KW w, w'' = y.w := by
  subst hg; exact Calls.kw ((good_any s x.w hs).mono fun _ _ h => ⟨h.1, kb h.2⟩)
theorem gref_kw {s : ByteArray} {g : Bool} (hs : s.size ≤ 50) (hg : goodB s.data.toList = g) {w : World} (x : KW w) : Calls Tryd.prog 12 #[.string s] x.w fun e w'' => e = .returned (.bool g) ∧ ∃ y : KW w, w'' = y.w := by
  subst hg; exact Calls.kw_same (good_ref s x.w hs)
theorem cmp_kw {a b : Sr} {z : Int} (h : cmpSr a b = z) {w : World} (x : KW w) : Calls Tryd.prog 9 #[.agg #[.string a.cls, .int .i64 a.exp, .int .i64 a.strike, .int .i64 a.right], .agg #[.string b.cls, .int .i64 b.exp, .int .i64 b.strike, .int .i64 b.right]] x.w fun e w'' => e = .returned (.int .i64 z) ∧ ∃ y : KW w, w'' = y.w := by
  subst h; exact Calls.kw (compare_any a b x.w)
theorem rcmp_kw {a b : Sr} {z : Int} (h : cmpSr a b = z) {w : World} (x : KW w) : Calls Tryd.prog 13 #[.agg #[.string a.cls, .int .i64 a.exp, .int .i64 a.strike, .int .i64 a.right], .agg #[.string b.cls, .int .i64 b.exp, .int .i64 b.strike, .int .i64 b.right]] x.w fun e w'' => e = .returned (.int .i64 z) ∧ ∃ y : KW w, w'' = y.w := by
  subst h; exact Calls.kw (compare_ref a b x.w)
end Go.Proofs.YtjapcnahfbipeaaDoor
