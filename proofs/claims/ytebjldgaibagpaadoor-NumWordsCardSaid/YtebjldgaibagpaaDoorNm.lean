/- Numbers: words read as a number by the reference, whole; there and back. -/
import Derived.Test.YtebjldgaibagpaaDoorNj
import Derived.Test.YtebjldgaibagpaaDoorNk
namespace Go.Proofs.YtebjldgaibagpaaDoor
open Go Go.RowKit

set_option maxHeartbeats 2000000 in
theorem refp_empty (w : World) : Calls Tryd.prog 21 #[.string ⟨#[]⟩] w fun e w' => e = .returned (parseRes []) ∧ w' = w := by
  have E := Lib.hid (parse_bad (l := []) rfl)
  have e0 : (⟨#[]⟩ : ByteArray).size = 0 := rfl
  go_enter Tryd.func21, Tryd.ntmps21
  go_wp2
  go_ret2
  exact ⟨by rw [E.out]; first | done | rfl, rfl⟩

set_option maxHeartbeats 2000000 in
theorem refp_early1 (s : ByteArray) (w : World) (hs : 0 < s.size) (e2 : ((s[0].toNat : Int) == 45) = true) (hN : s.size - 1 = 0) (hbad : form s.data.toList = false) :
    Calls Tryd.prog 21 #[.string s] w fun e w' => e = .returned (parseRes s.data.toList) ∧ w' = w := by
  have E := Lib.hid (parse_bad hbad)
  clear hbad
  go_enter Tryd.func21, Tryd.ntmps21
  go_wp2
  go_ret2
  exact ⟨by rw [E.out]; first | done | rfl, rfl⟩

set_option maxHeartbeats 2000000 in
theorem refp_early2 (s : ByteArray) (n : Nat) (w : World) (hs : 0 < s.size) (hd0 : 0 < (s.extract 1 s.size).size) (e2 : ((s[0].toNat : Int) == 45) = true) (hN : s.size - 1 = n)
    (n0 : ((n : Int) == 0) = false) (np : 0 < n) (n1 : decide (1 < (n : Int)) = true) (e5 : (((s.extract 1 s.size)[0].toNat : Int) == 48) = true) (hbad : form s.data.toList = false) :
    Calls Tryd.prog 21 #[.string s] w fun e w' => e = .returned (parseRes s.data.toList) ∧ w' = w := by
  have E := Lib.hid (parse_bad hbad)
  clear hbad
  go_enter Tryd.func21, Tryd.ntmps21
  go_wp2
  go_ret2
  exact ⟨by rw [E.out]; first | done | rfl, rfl⟩

set_option maxHeartbeats 2000000 in
theorem refp_early3 (s : ByteArray) (n : Nat) (w : World) (hs : 0 < s.size) (hd0 : 0 < (s.extract 1 s.size).size) (e2 : ((s[0].toNat : Int) == 45) = true) (hN : s.size - 1 = n)
    (n0 : ((n : Int) == 0) = false) (np : 0 < n) (n1 : decide (1 < (n : Int)) = false) (e6 : ((s.extract 1 s.size).toList == [48]) = true) (hbad : form s.data.toList = false) :
    Calls Tryd.prog 21 #[.string s] w fun e w' => e = .returned (parseRes s.data.toList) ∧ w' = w := by
  have E := Lib.hid (parse_bad hbad)
  clear hbad
  go_enter Tryd.func21, Tryd.ntmps21
  go_wp2
  go_ret2
  exact ⟨by rw [E.out]; first | done | rfl, rfl⟩

set_option maxHeartbeats 2000000 in
theorem refp_early4 (s : ByteArray) (n : Nat) (w : World) (hs : 0 < s.size) (e2 : ((s[0].toNat : Int) == 45) = false) (hN : s.size = n)
    (n0 : ((n : Int) == 0) = false) (np : 0 < n) (n1 : decide (1 < (n : Int)) = true) (e5 : ((s[0].toNat : Int) == 48) = true) (hbad : form s.data.toList = false) :
    Calls Tryd.prog 21 #[.string s] w fun e w' => e = .returned (parseRes s.data.toList) ∧ w' = w := by
  have E := Lib.hid (parse_bad hbad)
  clear hbad
  go_enter Tryd.func21, Tryd.ntmps21
  go_wp2
  go_ret2
  exact ⟨by rw [E.out]; first | done | rfl, rfl⟩

theorem parse_ref (s : ByteArray) (w : World) (hlim : s.size ≤ 281474976710656) :
    Calls Tryd.prog 21 #[.string s] w fun e w' => e = .returned (parseRes s.data.toList) ∧ w' = w := by
  obtain ⟨⟨l⟩⟩ := s
  cases l with
  | nil => exact refp_empty w
  | cons c r =>
    have hs : 0 < (⟨⟨c :: r⟩⟩ : ByteArray).size := by show 0 < (c :: r).length; simp
    have e0 : (⟨⟨c :: r⟩⟩ : ByteArray)[0] = c := rfl
    have hD : ((⟨⟨c :: r⟩⟩ : ByteArray).extract 1 (⟨⟨c :: r⟩⟩ : ByteArray).size).data.toList = r := by
      rw [Lib.extract_data]; show List.take _ r = r; exact List.take_of_length_le (by show r.length ≤ (c :: r).length - 1; simp)
    have hDn : ((⟨⟨c :: r⟩⟩ : ByteArray).extract 1 (⟨⟨c :: r⟩⟩ : ByteArray).size).size = r.length := by rw [Lib.size_eq, hD]
    have hsz : (⟨⟨c :: r⟩⟩ : ByteArray).size = r.length + 1 := rfl
    have h1 : ∀ (b : ByteArray) (h : 0 < b.size) (x : UInt8) (y : List UInt8), b.data.toList = x :: y → b[0]'h = x := by
      intro b h x y hb
      obtain ⟨⟨l⟩⟩ := b
      simp at hb
      subst hb
      rfl
    by_cases hneg : c = 45
    · have e2 : (((⟨⟨c :: r⟩⟩ : ByteArray)[0].toNat : Int) == 45) = true := by rw [e0, hneg]; rfl
      have hst : strip (c :: r) = r := by simp [strip, hneg]
      have hsv : sval (c :: r) = sg true (valF 0 r : Int) := by simp only [sval, hst]; simp [hneg, sg]
      have hN : (⟨⟨c :: r⟩⟩ : ByteArray).size - 1 = r.length := by rw [hsz]; omega
      cases r with
      | nil => exact refp_early1 _ w hs e2 hN (by show form [c] = false; rw [hneg]; decide)
      | cons c2 r2 =>
        have hd0 : 0 < ((⟨⟨c :: c2 :: r2⟩⟩ : ByteArray).extract 1 (⟨⟨c :: c2 :: r2⟩⟩ : ByteArray).size).size := by rw [hDn]; simp
        have e50 := h1 _ hd0 c2 r2 hD
        have n0 : (((c2 :: r2).length : Int) == 0) = false := by simp; omega
        have np : 0 < (c2 :: r2).length := by simp
        have hl2 : (c2 :: r2).length ≤ 281474976710656 := by omega
        by_cases hr2 : r2 = []
        · have n1 : decide (1 < ((c2 :: r2).length : Int)) = false := by rw [hr2]; rfl
          by_cases h0 : c2 = 48
          · exact refp_early3 _ _ w hs hd0 e2 hN n0 np n1 (by rw [Lib.toList_data, hD, h0, hr2]; rfl) (by show form (c :: c2 :: r2) = false; rw [hneg, h0, hr2]; decide)
          · refine refp_neg_b _ (c2 :: r2) _ w hl2 hs hd0 e2 hN hDn n0 np n1 (by rw [Lib.toList_data, hD, hr2]; simpa using h0) hD hsv ?_ ?_
            · intro h; show form (c :: c2 :: r2) = false; simp only [form, hst, h]; simp
            · intro h; show form (c :: c2 :: r2) = true; simp only [form, hst, h]; simp [h0]
        · have n1 : decide (1 < ((c2 :: r2).length : Int)) = true := by
            have : 0 < r2.length := List.length_pos_iff.2 hr2
            simp; omega
          by_cases h0 : c2 = 48
          · exact refp_early2 _ _ w hs hd0 e2 hN n0 np n1 (by rw [e50, h0]; rfl) (by show form (c :: c2 :: r2) = false; simp only [form, hst]; simp [h0, hneg])
          · refine refp_neg_a _ (c2 :: r2) _ w hl2 hs hd0 e2 hN hDn n0 np n1 ?_ (by rw [Lib.toList_data, hD]; simp [h0]) hD hsv ?_ ?_
            · rw [e50]
              have : ¬ ((c2.toNat : Int) = 48) := fun h => h0 (UInt8.toNat_inj.1 (by show c2.toNat = 48; omega))
              simpa using this
            · intro h; show form (c :: c2 :: r2) = false; simp only [form, hst, h]; simp
            · intro h; show form (c :: c2 :: r2) = true; simp only [form, hst, h]; simp [h0]
    · have n45 : ¬ ((c.toNat : Int) = 45) := fun h => hneg (UInt8.toNat_inj.1 (by show c.toNat = 45; omega))
      have e2 : (((⟨⟨c :: r⟩⟩ : ByteArray)[0].toNat : Int) == 45) = false := by rw [e0]; simpa using n45
      have hst : strip (c :: r) = c :: r := by simp [strip, hneg]
      have hsv : sval (c :: r) = sg false (valF 0 (c :: r) : Int) := by simp only [sval, hst]; simp [hneg, sg]
      have n0 : (((c :: r).length : Int) == 0) = false := by simp; omega
      have np : 0 < (c :: r).length := by simp
      by_cases hr : r = []
      · have n1 : decide (1 < ((c :: r).length : Int)) = false := by rw [hr]; rfl
        refine refp_pos_b _ (c :: r) (c :: r).length w hlim hs hs e2 hsz hsz n0 np n1 rfl hsv ?_ ?_
        · intro h; show form (c :: r) = false; simp only [form, hst, h]; simp
        · intro h; show form (c :: r) = true; simp only [form, hst, h]; simp [hr]
      · have n1 : decide (1 < ((c :: r).length : Int)) = true := by
          have : 0 < r.length := List.length_pos_iff.2 hr
          simp; omega
        by_cases h0 : c = 48
        · exact refp_early4 _ _ w hs e2 hsz n0 np n1 (by rw [e0, h0]; rfl) (by show form (c :: r) = false; simp only [form, hst]; simp [h0, hr])
        · refine refp_pos_a _ (c :: r) (c :: r).length w hlim hs hs e2 hsz hsz n0 np n1 ?_ rfl hsv ?_ ?_
          · have : ¬ ((c.toNat : Int) = 48) := fun h => h0 (UInt8.toNat_inj.1 (by show c.toNat = 48; omega))
            rw [e0]; simpa using this
          · intro h; show form (c :: r) = false; simp only [form, hst, h]; simp
          · intro h; show form (c :: r) = true; simp only [form, hst, h]; simp [h0]

end Go.Proofs.YtebjldgaibagpaaDoor
