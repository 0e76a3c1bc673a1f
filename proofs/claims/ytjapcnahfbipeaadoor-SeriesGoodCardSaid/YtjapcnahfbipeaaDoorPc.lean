/- Numbers: words read as a number, whole; a number in words. -/
import Derived.Test.YtjapcnahfbipeaaDoorPb
namespace Go.Proofs.YtjapcnahfbipeaaDoor
open Go Go.RowKit

set_option maxHeartbeats 2000000 in
theorem parse_early1 (s : ByteArray) (w : World) (hs : 0 < s.size)
    (e1 : s.toList.isEmpty = false) (e2 : ((s[0].toNat : Int) == 45) = true) (e3 : (s.extract 1 s.size).toList.isEmpty = true) (hbad : form s.data.toList = false) :
    Calls Tryd.prog 23 #[.string s] w fun e w' => e = .returned (parseRes s.data.toList) ∧ Below w.heap.size w w' := by
  have E := Lib.hid (parse_bad hbad)
  clear hbad
  go_enter Tryd.func23, Tryd.ntmps23
  go_wp2
  go_ret2
  exact ⟨by rw [E.out]; first | done | rfl, Below.refl _ _⟩

set_option maxHeartbeats 2000000 in
theorem parse_early2 (s : ByteArray) (w : World) (hs : 0 < s.size)
    (e1 : s.toList.isEmpty = false) (e2 : ((s[0].toNat : Int) == 45) = true) (e3 : (s.extract 1 s.size).toList.isEmpty = false) (e4 : 0 < s.size - 1) (hd0 : 0 < (s.extract 1 s.size).size)
    (he5 : ((s.extract 1 s.size)[0].toNat : Int) = 48) (e6 : (s.toList == [48]) = false) (hbad : form s.data.toList = false) :
    Calls Tryd.prog 23 #[.string s] w fun e w' => e = .returned (parseRes s.data.toList) ∧ Below w.heap.size w w' := by
  have E := Lib.hid (parse_bad hbad)
  clear hbad
  go_enter Tryd.func23, Tryd.ntmps23
  go_wp2
  go_ret2
  exact ⟨by rw [E.out]; first | done | rfl, Below.refl _ _⟩

set_option maxHeartbeats 2000000 in
theorem parse_early3 (s : ByteArray) (w : World) (hs : 0 < s.size)
    (e1 : s.toList.isEmpty = false) (e2 : ((s[0].toNat : Int) == 45) = false) (he5 : ((s[0].toNat : Int) == 48) = true) (e6 : (s.toList == [48]) = false) (hbad : form s.data.toList = false) :
    Calls Tryd.prog 23 #[.string s] w fun e w' => e = .returned (parseRes s.data.toList) ∧ Below w.heap.size w w' := by
  have E := Lib.hid (parse_bad hbad)
  clear hbad
  go_enter Tryd.func23, Tryd.ntmps23
  go_wp2
  go_ret2
  exact ⟨by rw [E.out]; first | done | rfl, Below.refl _ _⟩

set_option maxHeartbeats 2000000 in
theorem parse_empty (w : World) (hS : Sents w) :
    Calls Tryd.prog 23 #[.string ⟨#[]⟩] w fun e w' => e = .returned (parseRes []) ∧ Below w.heap.size w w' := by
  have E := Lib.hid (parse_bad (l := []) rfl)
  have hcv := Lib.run_convert_string_bytes (P := Tryd.prog) w 9 47 5 ⟨#[]⟩ (u := .string) Tryd.underlying9 Tryd.underlying47 Tryd.underlying5
  have Hb1 : Hid (Below w.heap.size w (Lib.bytesWorld w 5 ⟨#[]⟩)) := Lib.bytesWorld_below _ _ _
  have HS : Hid (Sents (Lib.bytesWorld w 5 ⟨#[]⟩)) := sents_on hS fun _ _ h => Lib.bytesWorld_var w 5 _ h
  have e0 : (⟨#[]⟩ : ByteArray).size = 0 := rfl
  rw [e0] at hcv
  clear hS e0
  generalize grownCap w 0 0 5 = cap at hcv
  generalize Lib.bytesWorld w 5 ⟨#[]⟩ = W1 at hcv Hb1 HS
  go_enter Tryd.func23, Tryd.ntmps23
  go_wp2_with fail
  go_loopw [32] (fun s32 wr => DigRel [] 0 W1 s32 wr) (fun s32 _ => 0 - (intOf s32).toNat)
  case atStart => exact ⟨0, rfl, Nat.zero_le _, fun j hj => absurd hj (Nat.not_lt_zero j), rfl⟩
  case round =>
    obtain ⟨i, rfl, hi, hdig, rfl⟩ := hrel
    obtain rfl : i = 0 := by omega
    clear hdig
    go_wp2_with fail
    refine (pub_parse ⟨#[]⟩ (by decide) _ HS.out).mono ?_
    rintro e w3 ⟨⟨v, er, rfl, hm⟩, hb3⟩
    have Hb3 := Lib.hid (Hb1.out.trans (hb3.mono (by have := Hb1.out.size; omega)))
    clear hb3 hm
    go_wp2
    go_ret2
    exact ⟨by rw [E.out]; first | done | rfl, Hb3.out⟩

theorem parse_num (s : ByteArray) (w : World) (hlim : s.size ≤ 281474976710656) (hS : Sents w) :
    Calls Tryd.prog 23 #[.string s] w fun e w' => e = .returned (parseRes s.data.toList) ∧ Below w.heap.size w w' := by
  obtain ⟨⟨l⟩⟩ := s
  cases l with
  | nil => exact parse_empty w hS
  | cons c r =>
    have hs : 0 < (⟨⟨c :: r⟩⟩ : ByteArray).size := by show 0 < (c :: r).length; simp
    have e1 : (⟨⟨c :: r⟩⟩ : ByteArray).toList.isEmpty = false := by rw [Lib.toList_data]; rfl
    have e0 : (⟨⟨c :: r⟩⟩ : ByteArray)[0] = c := rfl
    have hD : ((⟨⟨c :: r⟩⟩ : ByteArray).extract 1 (⟨⟨c :: r⟩⟩ : ByteArray).size).data.toList = r := by
      rw [Lib.extract_data]; show List.take _ r = r; exact List.take_of_length_le (by show r.length ≤ (c :: r).length - 1; simp)
    have hDn : ((⟨⟨c :: r⟩⟩ : ByteArray).extract 1 (⟨⟨c :: r⟩⟩ : ByteArray).size).size = r.length := by rw [Lib.size_eq, hD]
    have hsz : (⟨⟨c :: r⟩⟩ : ByteArray).size = r.length + 1 := rfl
    by_cases hneg : c = 45
    · have e2 : (((⟨⟨c :: r⟩⟩ : ByteArray)[0].toNat : Int) == 45) = true := by rw [e0, hneg]; rfl
      have hst : strip (c :: r) = r := by simp [strip, hneg]
      cases r with
      | nil =>
        exact parse_early1 _ w hs e1 e2 (by rw [Lib.toList_data, hD]; rfl) (by show form [c] = false; rw [hneg]; decide)
      | cons c2 r2 =>
        have e3 : ((⟨⟨c :: c2 :: r2⟩⟩ : ByteArray).extract 1 (⟨⟨c :: c2 :: r2⟩⟩ : ByteArray).size).toList.isEmpty = false := by rw [Lib.toList_data, hD]; rfl
        have hd0 : 0 < ((⟨⟨c :: c2 :: r2⟩⟩ : ByteArray).extract 1 (⟨⟨c :: c2 :: r2⟩⟩ : ByteArray).size).size := by rw [hDn]; simp
        have e4 : 0 < (⟨⟨c :: c2 :: r2⟩⟩ : ByteArray).size - 1 := by rw [hsz]; simp
        have e50 : (((⟨⟨c :: c2 :: r2⟩⟩ : ByteArray).extract 1 (⟨⟨c :: c2 :: r2⟩⟩ : ByteArray).size)[0]'hd0) = c2 := by
          have h1 : ∀ (b : ByteArray) (h : 0 < b.size) (x : UInt8) (y : List UInt8), b.data.toList = x :: y → b[0]'h = x := by
            intro b h x y hb
            obtain ⟨⟨l⟩⟩ := b
            simp at hb
            subst hb
            rfl
          exact h1 _ hd0 c2 r2 hD
        have e6 : (⟨⟨c :: c2 :: r2⟩⟩ : ByteArray).toList = c :: c2 :: r2 := Lib.toList_data _
        by_cases h0 : c2 = 48
        · exact parse_early2 _ w hs e1 e2 e3 e4 hd0 (by rw [e50, h0]; rfl) (by rw [e6, hneg]; rfl) (by show form (c :: c2 :: r2) = false; simp only [form, hst]; simp [h0, hneg])
        · refine parse_neg_a _ (c2 :: r2) (c2 :: r2).length w hlim hS hs e1 e2 e3 e4 hd0 ?_ hD hDn ?_ ?_
          · rw [e50]
            have : ¬ ((c2.toNat : Int) = 48) := fun h => h0 (UInt8.toNat_inj.1 (by show c2.toNat = 48; omega))
            simpa using this
          · intro h; show form (c :: c2 :: r2) = false; simp [form, hst, h]
          · intro h; show form (c :: c2 :: r2) = true; simp [form, hst, h, h0]
    · have n45 : ¬ ((c.toNat : Int) = 45) := fun h => hneg (UInt8.toNat_inj.1 (by show c.toNat = 45; omega))
      have e2 : (((⟨⟨c :: r⟩⟩ : ByteArray)[0].toNat : Int) == 45) = false := by rw [e0]; simpa using n45
      have hst : strip (c :: r) = c :: r := by simp [strip, hneg]
      have e6 : (⟨⟨c :: r⟩⟩ : ByteArray).toList = c :: r := Lib.toList_data _
      by_cases h0 : c = 48
      · have e5 : (((⟨⟨c :: r⟩⟩ : ByteArray)[0].toNat : Int) == 48) = true := by rw [e0, h0]; rfl
        by_cases hr : r = []
        · exact parse_pos_b _ (c :: r) _ w hlim hS hs e1 e2 e1 hs hs e5 (by rw [e6, h0, hr]; rfl) rfl hsz (by rw [h0, hr]; intro h; cases h) (by rw [h0, hr]; intro _; decide)
        · exact parse_early3 _ w hs e1 e2 e5 (by rw [e6, h0]; simpa using hr) (by show form (c :: r) = false; simp only [form, hst]; simp [h0, hr])
      · refine parse_pos_a _ (c :: r) _ w hlim hS hs e1 e2 e1 hs hs ?_ rfl hsz ?_ ?_
        · have : ¬ ((c.toNat : Int) = 48) := fun h => h0 (UInt8.toNat_inj.1 (by show c.toNat = 48; omega))
          rw [e0]; simpa using this
        · intro h; show form (c :: r) = false; simp only [form, hst, h]; simp
        · intro h; show form (c :: r) = true; simp only [form, hst, h]; simp [h0]
end Go.Proofs.YtjapcnahfbipeaaDoor
