/- Series: which comes first: the program's walk, the reference's. -/
import Derived.Test.YtjapcnahfbipeaaDoorQc
import Derived.Test.YtjapcnahfbipeaaDoorRv
import Derived.Test.YtjapcnahfbipeaaDoorKw
namespace Go.Proofs.YtjapcnahfbipeaaDoor
open Go Go.RowKit

/-! ### texts in order -/
theorem bl_irrefl : ∀ x : List UInt8, Op.bytesLess x x = false
  | [] => rfl
  | a :: x => by
    have : ¬ a < a := by rw [UInt8.lt_iff_toNat_lt]; omega
    simp [Op.bytesLess, this, bl_irrefl x]
theorem bl_asymm : ∀ x y : List UInt8, Op.bytesLess x y = true → Op.bytesLess y x = false
  | [], [], _ => rfl
  | [], _ :: _, _ => by simp [Op.bytesLess]
  | _ :: _, [], h => by simp [Op.bytesLess] at h
  | a :: x, b :: y, h => by
    simp only [Op.bytesLess, Bool.or_eq_true, decide_eq_true_eq, Bool.and_eq_true, beq_iff_eq, UInt8.lt_iff_toNat_lt] at h
    rcases h with h | ⟨rfl, h⟩
    · have h1 : ¬ b < a := by rw [UInt8.lt_iff_toNat_lt]; omega
      have h2 : ¬ b = a := fun e => by subst e; omega
      simp [Op.bytesLess, h1, h2]
    · have : ¬ a < a := by rw [UInt8.lt_iff_toNat_lt]; omega
      simp [Op.bytesLess, this, bl_asymm x y h]
theorem bl_total : ∀ x y : List UInt8, Op.bytesLess x y = false → Op.bytesLess y x = false → x = y
  | [], [], _, _ => rfl
  | [], _ :: _, h, _ => by simp [Op.bytesLess] at h
  | _ :: _, [], _, h => by simp [Op.bytesLess] at h
  | a :: x, b :: y, h, h' => by
    simp only [Op.bytesLess, Bool.or_eq_false_iff, decide_eq_false_iff_not, Bool.and_eq_false_iff, beq_eq_false_iff_ne, UInt8.lt_iff_toNat_lt] at h h'
    have e : a = b := UInt8.toNat_inj.1 (by omega)
    subst e
    have h1 := h.2.resolve_left (fun h => h rfl)
    have h2 := h'.2.resolve_left (fun h => h rfl)
    rw [bl_total x y h1 h2]
theorem bl_trans : ∀ x y z : List UInt8, Op.bytesLess x y = true → Op.bytesLess y z = true → Op.bytesLess x z = true
  | _, [], [], _, h' => by simp [Op.bytesLess] at h'
  | [], _, _ :: _, _, _ => by simp [Op.bytesLess]
  | [], _ :: _, [], _, h' => by simp [Op.bytesLess] at h'
  | _ :: _, [], _ :: _, h, _ => by simp [Op.bytesLess] at h
  | _ :: _, _ :: _, [], _, h' => by simp [Op.bytesLess] at h'
  | a :: x, b :: y, c :: z, h, h' => by
    simp only [Op.bytesLess, Bool.or_eq_true, decide_eq_true_eq, Bool.and_eq_true, beq_iff_eq, UInt8.lt_iff_toNat_lt] at h h' ⊢
    rcases h with h | ⟨rfl, h⟩
    · rcases h' with h' | ⟨rfl, h'⟩
      · exact .inl (by omega)
      · exact .inl h
    · rcases h' with h' | ⟨rfl, h'⟩
      · exact .inl h'
      · exact .inr ⟨rfl, bl_trans x y z h h'⟩
def cmpS (x y : List UInt8) : Int := if Op.bytesLess x y = true then -1 else if Op.bytesLess y x = true then 1 else 0
def cmpN (x y : Int) : Int := if x < y then -1 else if y < x then 1 else 0
def firstNZ : List Int → Int
  | [] => 0
  | z :: zs => if z ≠ 0 then z else firstNZ zs
/-- Which of two series comes first. -/
def cmpSr (a b : Sr) : Int := firstNZ [cmpS a.cls.toList b.cls.toList, cmpN a.exp b.exp, cmpN a.strike b.strike, cmpN a.right b.right]

set_option maxHeartbeats 1000000 in
theorem nan_s (s : ByteArray) (w : World) : Calls Tryd.prog 26 #[.string s] w fun e w' => w = w' ∧ e = .returned (.bool false) := by
  go_enter Tryd.func26, Tryd.ntmps26
  go_wp2
  go_ret
  exact ⟨rfl, by simp⟩
theorem nan_i (n : Int) (w : World) : Calls Tryd.prog 27 #[.int .i64 n] w fun e w' => w = w' ∧ e = .returned (.bool false) := by
  go_enter Tryd.func27, Tryd.ntmps27
  go_wp2
  go_ret
  exact ⟨rfl, by simp⟩
theorem nan_n (n : Int) (w : World) : Calls Tryd.prog 28 #[.int .i64 n] w fun e w' => w = w' ∧ e = .returned (.bool false) := by
  go_enter Tryd.func28, Tryd.ntmps28
  go_wp2
  go_ret
  exact ⟨rfl, by simp⟩

set_option maxHeartbeats 1000000 in
theorem cmp_i (x y : Int) (w : World) : Calls Tryd.prog 18 #[.int .i64 x, .int .i64 y] w fun e w' => w = w' ∧ e = .returned (.int .i64 (cmpN x y)) := by
  have h : (x < y ∧ cmpN x y = -1) ∨ (¬ x < y ∧ y < x ∧ cmpN x y = 1) ∨ (¬ x < y ∧ ¬ y < x ∧ cmpN x y = 0) := by
    unfold cmpN
    by_cases h1 : x < y
    · exact .inl ⟨h1, if_pos h1⟩
    · by_cases h2 : y < x
      · exact .inr (.inl ⟨h1, h2, by rw [if_neg h1, if_pos h2]⟩)
      · exact .inr (.inr ⟨h1, h2, by rw [if_neg h1, if_neg h2]⟩)
  rcases h with ⟨h1, h3⟩ | ⟨h1, h2, h3⟩ | ⟨h1, h2, h3⟩
  all_goals
    rw [h3]
    clear h3
    go_enter Tryd.func18, Tryd.ntmps18
    go_wp2_with fail
    refine (nan_i _ _).mono ?_
    rintro e w' ⟨rfl, rfl⟩
    go_wp2_with fail
    refine (nan_i _ _).mono ?_
    rintro e w' ⟨rfl, rfl⟩
    go_wp2_with fail
    go_ret
    exact ⟨rfl, rfl⟩

set_option maxHeartbeats 1000000 in
theorem cmp_n (x y : Int) (w : World) : Calls Tryd.prog 19 #[.int .i64 x, .int .i64 y] w fun e w' => w = w' ∧ e = .returned (.int .i64 (cmpN x y)) := by
  have h : (x < y ∧ cmpN x y = -1) ∨ (¬ x < y ∧ y < x ∧ cmpN x y = 1) ∨ (¬ x < y ∧ ¬ y < x ∧ cmpN x y = 0) := by
    unfold cmpN
    by_cases h1 : x < y
    · exact .inl ⟨h1, if_pos h1⟩
    · by_cases h2 : y < x
      · exact .inr (.inl ⟨h1, h2, by rw [if_neg h1, if_pos h2]⟩)
      · exact .inr (.inr ⟨h1, h2, by rw [if_neg h1, if_neg h2]⟩)
  rcases h with ⟨h1, h3⟩ | ⟨h1, h2, h3⟩ | ⟨h1, h2, h3⟩
  all_goals
    rw [h3]
    clear h3
    go_enter Tryd.func19, Tryd.ntmps19
    go_wp2_with fail
    refine (nan_n _ _).mono ?_
    rintro e w' ⟨rfl, rfl⟩
    go_wp2_with fail
    refine (nan_n _ _).mono ?_
    rintro e w' ⟨rfl, rfl⟩
    go_wp2_with fail
    go_ret
    exact ⟨rfl, rfl⟩

set_option maxHeartbeats 1000000 in
theorem cmp_s (x y : ByteArray) (w : World) : Calls Tryd.prog 17 #[.string x, .string y] w fun e w' => w = w' ∧ e = .returned (.int .i64 (cmpS x.toList y.toList)) := by
  have h : (Op.bytesLess x.toList y.toList = true ∧ cmpS x.toList y.toList = -1) ∨ (Op.bytesLess x.toList y.toList = false ∧ (x.toList == y.toList) = false ∧ cmpS x.toList y.toList = 1) ∨
      (Op.bytesLess x.toList y.toList = false ∧ (x.toList == y.toList) = true ∧ cmpS x.toList y.toList = 0) := by
    unfold cmpS
    cases h1 : Op.bytesLess x.toList y.toList with
    | true => exact .inl ⟨rfl, by simp⟩
    | false =>
      cases h2 : Op.bytesLess y.toList x.toList with
      | true => exact .inr (.inl ⟨rfl, (by rw [beq_eq_false_iff_ne]; intro e; rw [e, bl_irrefl] at h2; cases h2), by simp⟩)
      | false => exact .inr (.inr ⟨rfl, by rw [bl_total _ _ h1 h2]; simp, by simp⟩)
  rcases h with ⟨h1, h3⟩ | ⟨h1, h2, h3⟩ | ⟨h1, h2, h3⟩
  all_goals
    rw [h3]
    clear h3
    go_enter Tryd.func17, Tryd.ntmps17
    go_wp2_with fail
    refine (nan_s _ _).mono ?_
    rintro e w' ⟨rfl, rfl⟩
    go_wp2_with fail
    refine (nan_s _ _).mono ?_
    rintro e w' ⟨rfl, rfl⟩
    go_wp2_with fail
    go_ret
    exact ⟨rfl, rfl⟩
end Go.Proofs.YtjapcnahfbipeaaDoor
