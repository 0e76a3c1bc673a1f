/- Numbers: plain law: there and back. -/
import Derived.Test.YtebjldgaibagpaaDoorNl
import Derived.Test.YtebjldgaibagpaaDoorNk
namespace Go.Proofs.YtebjldgaibagpaaDoor
open Go Go.RowKit

theorem head_app {a b : List UInt8} (h : a ≠ []) : (a ++ b).head? = a.head? := by
  cases a with
  | nil => exact absurd rfl h
  | cons _ _ => rfl

theorem dig_nat {k : Nat} (h : k < 10) : (UInt8.ofNat (48 + k)).toNat = 48 + k := by
  rw [UInt8.toNat_ofNat']; omega

/-- A number's decimals: digits, not none, no idle nought ahead, and they spell it. -/
theorem dec_facts (u : Nat) : (Lib.decDigits u).all isDig = true ∧ Lib.decDigits u ≠ [] ∧ valF 0 (Lib.decDigits u) = u ∧ (0 < u → (Lib.decDigits u).head? ≠ some 48) := by
  induction u using Nat.strongRecOn with
  | _ u ih =>
    rw [dec_eq]
    by_cases h : u < 10
    · rw [if_pos h]
      have e := dig_nat h
      refine ⟨?_, by simp, ?_, fun h0 hh => ?_⟩
      · simp only [List.all_cons, List.all_nil, isDig, e]; simp; omega
      · rw [valF_cons, valF_nil, e]; omega
      · simp only [List.head?_cons, Option.some.injEq] at hh
        rw [hh] at e
        have : (48 : UInt8).toNat = 48 := rfl
        omega
    · rw [if_neg h]
      obtain ⟨a1, a2, a3, a4⟩ := ih (u / 10) (by omega)
      have e := dig_nat (k := u % 10) (by omega)
      refine ⟨?_, by simp, ?_, fun h0 hh => ?_⟩
      · rw [List.all_append, a1]
        simp only [List.all_cons, List.all_nil, isDig, e]; simp; omega
      · rw [valF_snoc, a3, e]; omega
      · rw [head_app a2] at hh
        exact a4 (by omega) hh

theorem itoa_form {n : Int} : form (Lib.itoa n) = true ∧ sval (Lib.itoa n) = n := by
  unfold Lib.itoa
  by_cases h : n < 0
  · rw [if_pos h]
    obtain ⟨a1, a2, a3, a4⟩ := dec_facts n.natAbs
    have a4 := a4 (by omega)
    have hst : strip (45 :: Lib.decDigits n.natAbs) = Lib.decDigits n.natAbs := by simp [strip]
    refine ⟨?_, ?_⟩
    · simp only [form, hst, a1]
      simp [a2, a4]
    · simp only [sval, hst, a3]
      simp; omega
  · rw [if_neg h]
    obtain ⟨a1, a2, a3, a4⟩ := dec_facts n.toNat
    have hh : (Lib.decDigits n.toNat).head? ≠ some 45 := by
      intro hh
      have : (45 : UInt8) ∈ Lib.decDigits n.toNat := List.mem_of_mem_head? hh
      have := List.all_eq_true.1 a1 _ this
      exact absurd this (by decide)
    have hst : strip (Lib.decDigits n.toNat) = Lib.decDigits n.toNat := by simp [strip, hh]
    refine ⟨?_, ?_⟩
    · simp only [form, hst, a1]
      by_cases h0 : n.toNat = 0
      · rw [h0, dec_eq]; rfl
      · simp [a2, a4 (by omega)]
    · simp only [sval, hst, a3, if_neg hh]
      omega

/-- Digits without an idle nought are the decimals of what they spell. -/
theorem dec_back (dl : List UInt8) : dl.all isDig = true → dl ≠ [] → (dl.head? ≠ some 48 ∨ dl = [48]) → Lib.decDigits (valF 0 dl) = dl ∧ (dl.head? ≠ some 48 → 0 < valF 0 dl) := by
  suffices hs : ∀ (k : Nat) (dl : List UInt8), dl.length = k → dl.all isDig = true → dl ≠ [] → (dl.head? ≠ some 48 ∨ dl = [48]) → Lib.decDigits (valF 0 dl) = dl ∧ (dl.head? ≠ some 48 → 0 < valF 0 dl) from
    hs _ dl rfl
  intro k
  induction k with
  | zero => intro dl hl _ hne; exact absurd (List.length_eq_zero_iff.1 hl) hne
  | succ k ih =>
    intro dl hl hall hne hhd
    have hsp := List.dropLast_concat_getLast hne
    generalize hi : dl.dropLast = ini at hsp
    generalize hc : dl.getLast hne = c at hsp
    have hil : ini.length = k := by rw [← hi, List.length_dropLast, hl]; rfl
    subst hsp
    simp only [List.all_append, Bool.and_eq_true, List.all_cons, List.all_nil, isDig, decide_eq_true_eq] at hall
    obtain ⟨hall1, ⟨hc1, hc2⟩, _⟩ := hall
    have ec : UInt8.ofNat (48 + (c.toNat - 48)) = c := UInt8.toNat_inj.1 (by rw [dig_nat (by omega)]; omega)
    rw [valF_snoc]
    by_cases hini : ini = []
    · subst hini
      rw [valF_nil, dec_eq, if_pos (by omega)]
      refine ⟨by rw [Nat.zero_mul, Nat.zero_add, ec]; rfl, fun hh => ?_⟩
      have : c ≠ 48 := by intro h; exact hh (by rw [h]; rfl)
      have : c.toNat ≠ 48 := fun h => this (UInt8.toNat_inj.1 (by rw [h]; rfl))
      omega
    · have hh1 : (ini ++ [c]).head? = ini.head? := head_app hini
      have hhd1 : ini.head? ≠ some 48 := by
        rcases hhd with h | h
        · rwa [hh1] at h
        · exfalso
          have e := congrArg List.length h
          rw [List.length_append] at e
          simp only [List.length_cons, List.length_nil] at e
          exact hini (List.length_eq_zero_iff.1 (by omega))
      obtain ⟨b1, b2⟩ := ih ini hil hall1 hini (Or.inl hhd1)
      have b3 := b2 hhd1
      refine ⟨?_, fun _ => by omega⟩
      rw [dec_eq, if_neg (by omega)]
      have e1 : (valF 0 ini * 10 + (c.toNat - 48)) / 10 = valF 0 ini := by omega
      have e2 : (valF 0 ini * 10 + (c.toNat - 48)) % 10 = c.toNat - 48 := by omega
      rw [e1, e2, b1, ec]

theorem form_itoa {l : List UInt8} (hf : form l = true) : Lib.itoa (sval l) = l := by
  cases l with
  | nil => cases hf
  | cons c r =>
    simp only [form, Bool.and_eq_true] at hf
    obtain ⟨_, ⟨hne, hno⟩, hall⟩ := hf
    by_cases hc : c = 45
    · subst hc
      have hst : strip (45 :: r) = r := by simp [strip]
      rw [hst] at hne hall hno
      have hr : r ≠ [] := by intro h; subst h; simp at hne
      have hh : r.head? ≠ some 48 := by
        intro h; simp [h] at hno
      obtain ⟨b1, b2⟩ := dec_back r hall hr (Or.inl hh)
      have b2 := b2 hh
      have hv : sval (45 :: r) = -(valF 0 r : Int) := by simp only [sval, hst]; simp
      rw [hv, Lib.itoa, if_pos (by omega)]
      have e : (-(valF 0 r : Int)).natAbs = valF 0 r := by omega
      rw [e, b1]
    · have hst : strip (c :: r) = c :: r := by simp [strip, hc]
      rw [hst] at hne hall hno
      have hh : (c :: r).head? ≠ some 48 ∨ (c :: r) = [48] := by
        by_cases h : c = 48
        · right
          simp [h] at hno
          rw [h, hno]
        · left; simpa using h
      obtain ⟨b1, _⟩ := dec_back (c :: r) hall (List.cons_ne_nil _ _) hh
      have hv : sval (c :: r) = (valF 0 (c :: r) : Int) := by simp only [sval, hst]; simp [hc]
      rw [hv, Lib.itoa, if_neg (by omega)]
      have e : ((valF 0 (c :: r) : Nat) : Int).toNat = valF 0 (c :: r) := by omega
      rw [e, b1]

end Go.Proofs.YtebjldgaibagpaaDoor
