/- Numbers: plain law: what strconv.ParseInt tells of words of a number's form is the number, where it is in range. -/
import Derived.Test.YtebjldgaibagpaaDoorNd
import Derived.Lib.ParseIntBCases
namespace Go.Proofs.YtebjldgaibagpaaDoor
open Go Go.RowKit

/-- The digits' number, behind those that were read. -/
def valF (acc : Nat) (l : List UInt8) : Nat := l.foldl (fun a c => a * 10 + (c.toNat - 48)) acc

theorem valF_nil (acc : Nat) : valF acc [] = acc := by unfold valF; rw [List.foldl_nil]
theorem valF_cons (acc : Nat) (c : UInt8) (r : List UInt8) : valF acc (c :: r) = valF (acc * 10 + (c.toNat - 48)) r := by unfold valF; rw [List.foldl_cons]

theorem valF_ge (l : List UInt8) : ∀ acc : Nat, acc ≤ valF acc l := by
  induction l with
  | nil => intro acc; rw [valF_nil]; exact Nat.le_refl _
  | cons c r ih => intro acc; rw [valF_cons]; exact Nat.le_trans (by omega) (ih _)

theorem valF_snoc (l : List UInt8) (acc : Nat) (c : UInt8) : valF acc (l ++ [c]) = valF acc l * 10 + (c.toNat - 48) := by
  unfold valF; rw [List.foldl_append, List.foldl_cons, List.foldl_nil]

/-- The number with its sign. -/
def sval (l : List UInt8) : Int := if l.head? = some 45 then -(valF 0 (strip l) : Int) else (valF 0 (strip l) : Int)

theorem um_nil (M acc : Nat) : Lib.parseUintM M acc [] = .ok acc := by simp only [Lib.parseUintM]
theorem um_cons (M acc : Nat) (c : UInt8) (r : List UInt8) (hc : 48 ≤ c.toNat ∧ c.toNat ≤ 57) : Lib.parseUintM M acc (c :: r) =
    if 1844674407370955162 ≤ acc then .range
    else if M < acc * 10 + (c.toNat - 48) then .range
    else Lib.parseUintM M (acc * 10 + (c.toNat - 48)) r := by
  simp only [Lib.parseUintM]
  rw [if_pos hc]

theorem parseUintM_all (M : Nat) (hM : M = 18446744073709551615) (l : List UInt8) : ∀ (acc : Nat), l.all isDig = true → acc ≤ M →
    Lib.parseUintM M acc l = if valF acc l ≤ M then .ok (valF acc l) else .range := by
  induction l with
  | nil =>
    intro acc _ h
    have e : valF acc [] = acc := valF_nil acc
    rw [e, if_pos h, um_nil]
  | cons c r ih =>
    intro acc hd h
    simp only [List.all_cons, Bool.and_eq_true, isDig, decide_eq_true_eq] at hd
    have hge := valF_ge r (acc * 10 + (c.toNat - 48))
    rw [valF_cons, um_cons _ _ _ _ hd.1]
    by_cases h1 : 1844674407370955162 ≤ acc
    · rw [if_pos h1, if_neg (by omega)]
    · rw [if_neg h1]
      by_cases h2 : M < acc * 10 + (c.toNat - 48)
      · rw [if_pos h2, if_neg (by omega)]
      · rw [if_neg h2, ih _ hd.2 (by omega)]

theorem parse_form {l : List UInt8} (hf : form l = true) :
    Lib.parseIntB 64 l = if inRange (sval l) = true then .ok (sval l) else .range := by
  have e64 : (2 : Nat) ^ 64 - 1 = 18446744073709551615 := by decide
  have e63 : (2 : Nat) ^ (64 - 1) = 9223372036854775808 := by decide
  cases l with
  | nil => cases hf
  | cons c r =>
    simp only [form, Bool.and_eq_true] at hf
    obtain ⟨_, ⟨hne, _⟩, hall⟩ := hf
    by_cases hc : c = 45
    · subst hc
      have hst : strip (45 :: r) = r := by simp [strip]
      rw [hst] at hne hall
      have hr : r ≠ [] := by intro h; subst h; simp at hne
      have hv : sval (45 :: r) = -(valF 0 r : Int) := by simp [sval, hst]
      rw [hv]
      simp only [Lib.parseIntB, Lib.parseUintB, e64, e63]
      have c45 : (45 : UInt8).toNat = 45 := rfl
      rw [c45]
      simp only [or_true, if_true, if_neg hr]
      rw [parseUintM_all _ rfl r 0 hall (by omega)]
      unfold inRange
      by_cases h1 : valF 0 r ≤ 18446744073709551615
      · rw [if_pos h1]
        by_cases h2 : 9223372036854775808 < valF 0 r
        · simp [h2]
          omega
        · simp [h2]
          omega
      · rw [if_neg h1]
        simp
        omega
    · have hst : strip (c :: r) = c :: r := by simp [strip, hc]
      rw [hst] at hne hall
      have hd : 48 ≤ c.toNat ∧ c.toNat ≤ 57 := by
        simp only [List.all_cons, Bool.and_eq_true, isDig, decide_eq_true_eq] at hall; exact hall.1
      have hv : sval (c :: r) = (valF 0 (c :: r) : Int) := by simp [sval, hst, hc]
      rw [hv]
      simp only [Lib.parseIntB, Lib.parseUintB, e64, e63]
      have n43 : ¬ c.toNat = 43 := by omega
      have n45 : ¬ c.toNat = 45 := by omega
      simp only [n43, n45, or_false, if_false, if_neg (List.cons_ne_nil c r)]
      rw [parseUintM_all _ rfl (c :: r) 0 hall (by omega)]
      unfold inRange
      by_cases h1 : valF 0 (c :: r) ≤ 18446744073709551615
      · rw [if_pos h1]
        by_cases h2 : 9223372036854775808 ≤ valF 0 (c :: r)
        · simp [h2]
          omega
        · simp [h2]
          omega
      · rw [if_neg h1]
        simp
        omega

theorem parseRes_form {l : List UInt8} (hf : form l = true) : parseRes l = numRes (sval l) := by
  unfold parseRes numRes
  rw [if_pos hf, parse_form hf]
  by_cases h : inRange (sval l) = true
  · simp [h]
  · simp [h]

end Go.Proofs.YtebjldgaibagpaaDoor
