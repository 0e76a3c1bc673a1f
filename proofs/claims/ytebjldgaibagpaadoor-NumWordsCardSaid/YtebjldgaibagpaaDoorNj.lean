/- Numbers: words read as a number, by the reference. -/
import Derived.Test.YtebjldgaibagpaaDoorNb
import Derived.Test.YtebjldgaibagpaaDoorNl
namespace Go.Proofs.YtebjldgaibagpaaDoor
open Go Go.RowKit

theorem ba_idx (b : ByteArray) (i : Nat) (h : i < b.size) : (b[i]'h).toNat = (b.data.toList.getD i 0).toNat := by
  obtain ⟨⟨l⟩⟩ := b
  have h2 : i < l.length := h
  have e : l.getD i 0 = l[i] := by simp [List.getD, h2]
  show _ = (l.getD i 0).toNat
  rw [e]; rfl

/-- The sign's turn. -/
def sg (neg : Bool) (x : Int) : Int := if neg then -x else x

/-- The second loop's state. -/
def ValRel (neg : Bool) (dl : List UInt8) (n : Nat) (w : World) (s7 s8 : Value) (wr : World) : Prop :=
  ∃ (i : Nat) (v : Int), s8 = .int .i64 i ∧ s7 = .int .i64 v ∧ i ≤ n ∧ v = sg neg (valF 0 (dl.take i) : Int) ∧ I64 v ∧ wr = w

theorem take_next {dl : List UInt8} {n i : Nat} {c : Int} (hl : dl.length = n) (hi : i < n) (hc : ((dl.getD i 0).toNat : Int) = c) (h48 : 48 ≤ c) :
    (valF 0 (dl.take (i + 1)) : Int) = (valF 0 (dl.take i) : Int) * 10 + (c - 48) := by
  have e : dl.take (i + 1) = dl.take i ++ [dl.getD i 0] := by
    rw [List.take_add_one]
    have : dl[i]? = some (dl.getD i 0) := by simp [List.getD, show i < dl.length by omega]
    rw [this]; rfl
  rw [e, valF_snoc]
  omega

theorem valF_split (dl : List UInt8) (i : Nat) : valF 0 (dl.take i) ≤ valF 0 dl := by
  have e : valF 0 dl = valF (valF 0 (dl.take i)) (dl.drop i) := by
    unfold valF; rw [← List.foldl_append, List.take_append_drop]
  rw [e]; exact valF_ge _ _

/-- What goes over on the way is over in the end. -/
theorem over_end {neg : Bool} {dl : List UInt8} {l : List UInt8} {i : Nat} {c v : Int} (hs : sval l = sg neg (valF 0 dl : Int)) (n : Nat) (hl : dl.length = n) (hi : i < n)
    (hc : ((dl.getD i 0).toNat : Int) = c) (h48 : 48 ≤ c) (hv : v = sg neg (valF 0 (dl.take i) : Int))
    (ho : ¬ (-9223372036854775808 ≤ v * 10 ∧ v * 10 ≤ 9223372036854775807) ∨ ¬ (-9223372036854775808 ≤ v * 10 + sg neg (c - 48) ∧ v * 10 + sg neg (c - 48) ≤ 9223372036854775807)) :
    numRes (sval l) = .tuple #[.int .i64 0, .int .i64 9] := by
  have h1 := take_next hl hi hc h48
  have h2 := valF_split dl (i + 1)
  refine numRes_out ?_
  rw [hs]
  cases neg
  · simp only [sg] at hv ho ⊢; simp at hv ho ⊢; omega
  · simp only [sg] at hv ho ⊢; simp at hv ho ⊢; omega


set_option maxHeartbeats 4000000 in
set_option maxRecDepth 100000 in
theorem refp_neg_a (s : ByteArray) (dl : List UInt8) (n : Nat) (w : World) (hlim : n ≤ 281474976710656) (hs : 0 < s.size) (hd0 : 0 < (s.extract 1 s.size).size)
    (e2 : ((s[0].toNat : Int) == 45) = true) (hN : s.size - 1 = n) (hP : (s.extract 1 s.size).size = n) (n0 : ((n : Int) == 0) = false) (np : 0 < n) (n1 : decide (1 < (n : Int)) = true) (e5 : ((((s.extract 1 s.size)[0]'hd0).toNat : Int) == 48) = false) (e6 : ((s.extract 1 s.size).toList == [48]) = false)
    (hdl : (s.extract 1 s.size).data.toList = dl) (hsv : sval s.data.toList = sg true (valF 0 dl : Int))
    (hform : dl.all isDig = false → form s.data.toList = false) (hform1 : dl.all isDig = true → form s.data.toList = true) :
    Calls Tryd.prog 21 #[.string s] w fun e w' => e = .returned (parseRes s.data.toList) ∧ w' = w := by
  have Hcell : Hid (∀ i (h : i < (s.extract 1 s.size).size), (((s.extract 1 s.size)[i]'h).toNat : Int) = ((dl.getD i 0).toNat : Int)) := by
    intro i h
    rw [← hdl, ba_idx (s.extract 1 s.size) i h]
  have Hdl : Hid (dl.length = n) := by show dl.length = n; rw [← hdl, ← hP]; exact (Lib.size_eq _).symm
  have HP := Lib.hid hP
  have hform := Lib.hid hform
  have hform1 := Lib.hid hform1
  have Hsv := Lib.hid hsv
  have Hlim := Lib.hid hlim
  clear hdl hsv hlim
  clear hP
  go_enter Tryd.func21, Tryd.ntmps21
  go_wp2_with fail
  go_loopw [6] (fun s6 wr => DigRel dl n w s6 wr) (fun s6 _ => n - (intOf s6).toNat)
  case atStart => exact ⟨0, rfl, Nat.zero_le _, fun j hj => absurd hj (Nat.not_lt_zero j), rfl⟩
  case round =>
    obtain ⟨i, rfl, hi, hdig, rfl⟩ := hrel
    have HD := Lib.hid hdig
    clear hdig
    by_cases hlt : i < n
    · obtain ⟨c, hc⟩ : ∃ c : Int, ((dl.getD i 0).toNat : Int) = c := ⟨_, rfl⟩
      have hcell := Hcell.out i (by rw [HP.out]; exact hlt)
      rw [hc] at hcell
      have Hc := Lib.hid hc
      have Hn := Lib.hid hlt
      clear hc
      have hs1 : IntKind.i64.wrap ((i : Int) + 1) = (i : Int) + 1 := IntWalk.i64_in _ (by have := Hlim.out; omega)
      by_cases h1 : c < 48
      · have E := Lib.hid (parse_bad (hform.out (not_all Hdl.out hlt Hc.out (Or.inl h1))))
        go_wp2
        go_ret2
        exact ⟨by rw [E.out]; first | done | rfl, rfl⟩
      · by_cases h2 : 57 < c
        · have E := Lib.hid (parse_bad (hform.out (not_all Hdl.out hlt Hc.out (Or.inr h2))))
          go_wp2
          go_ret2
          exact ⟨by rw [E.out]; first | done | rfl, rfl⟩
        · have hr : Hid (DigRel dl n wr (.int .i64 ((i : Int) + 1)) wr) := ⟨i + 1, by push_cast; rfl, by omega, dig_next Hc.out h1 h2 HD.out, rfl⟩
          go_wp2
          exact ⟨hr.out, by have := Hn.out; simp [intOf]; omega⟩
    · obtain rfl : i = n := by omega
      have Hf := Lib.hid (hform1.out (all_dig Hdl.out HD.out))
      have Hdig : Hid (∀ j, j < i → 48 ≤ ((dl.getD j 0).toNat : Int) ∧ ((dl.getD j 0).toNat : Int) ≤ 57) := fun j hj => by
        have := HD.out j hj
        simp only [isDig, Bool.and_eq_true, decide_eq_true_eq] at this; omega
      have hstart2 : Hid (ValRel true dl i wr (.int .i64 0) (.int .i64 0) wr) := ⟨0, 0, rfl, rfl, Nat.zero_le _, by simp [sg, valF], by unfold I64; omega, rfl⟩
      clear HD hlt
      go_wp2_with fail
      go_loopw [7, 8] (fun s7 s8 wr2 => ValRel true dl i wr s7 s8 wr2) (fun _ s8 _ => i - (intOf s8).toNat)
      case atStart => exact hstart2.out
      case round =>
        obtain ⟨j, v, rfl, rfl, hj, hv, hv64, rfl⟩ := hrel
        clear hstart2
        have Hv := Lib.hid hv
        clear hv
        by_cases hlt : j < i
        · obtain ⟨c, hc⟩ : ∃ c : Int, ((dl.getD j 0).toNat : Int) = c := ⟨_, rfl⟩
          have hcell := Hcell.out j (by rw [HP.out]; exact hlt)
          obtain ⟨c48, c57⟩ := Hdig.out j hlt
          rw [hc] at hcell c48 c57
          have Hc := Lib.hid hc
          have Hn := Lib.hid hlt
          clear hc
          have hs1 : IntKind.i64.wrap ((j : Int) + 1) = (j : Int) + 1 := IntWalk.i64_in _ (by have := Hlim.out; omega)
          have hs2 : IntKind.u8.wrap (c - 48) = c - 48 := IntWalk.u8_in _ (by omega)
          have hs3 : IntKind.i64.wrap (c - 48) = c - 48 := IntWalk.i64_in _ (by omega)
          have hs4 : IntKind.i64.wrap (-(c - 48)) = -(c - 48) := IntWalk.i64_in _ (by omega)
          have hx64 : I64 (-(c - 48)) := by unfold I64; omega
          have hm := fun w => mul_ref v 10 hv64 (by unfold I64; omega) w
          have Hov := Lib.hid (@over_end true dl s.data.toList j c v Hsv.out i Hdl.out hlt Hc.out c48 Hv.out)
          have Htk := Lib.hid (take_next Hdl.out hlt Hc.out c48)
          by_cases m1 : -9223372036854775808 ≤ v * 10 ∧ v * 10 ≤ 9223372036854775807
          · have hm1 := numRes_in m1
            rw [hm1] at hm
            have ha := fun w => add_ref (v * 10) (-(c - 48)) m1 hx64 w
            by_cases m2 : -9223372036854775808 ≤ v * 10 + (-(c - 48)) ∧ v * 10 + (-(c - 48)) ≤ 9223372036854775807
            · have hm2 := numRes_in m2
              rw [hm2] at ha
              have hr : Hid (ValRel true dl i wr (.int .i64 (v * 10 + (-(c - 48)))) (.int .i64 ((j : Int) + 1)) wr) :=
                ⟨j + 1, _, by push_cast; rfl, rfl, by omega, by have h1 := Htk.out; have h2 := Hv.out; simp [sg] at h2 ⊢; omega, m2, rfl⟩
              have hm := Lib.hid hm
              have ha := Lib.hid ha
              clear hm1 hm2 m1 m2 Hov Htk
              generalize hp : v * 10 + (-(c - 48)) = p at ha hr
              generalize hq : v * 10 = q at hm ha
              have hp := Lib.hid hp
              have hq := Lib.hid hq
              clear hv64 hx64
              go_wp2_with fail
              refine (hm.out _).mono ?_
              rintro e w3 ⟨rfl, rfl⟩
              go_wp2_with fail
              refine (ha.out _).mono ?_
              rintro e w4 ⟨rfl, rfl⟩
              go_wp2
              exact ⟨hr.out, by have := Hn.out; simp [intOf]; omega⟩
            · have hm2 := numRes_out m2
              rw [hm2] at ha
              have E := Lib.hid ((parseRes_form Hf.out).trans (Hov.out (Or.inr (by simpa [sg] using m2))))
              have hm := Lib.hid hm
              have ha := Lib.hid ha
              clear hm1 hm2 m1 m2 Hov Htk
              generalize hq : v * 10 = q at hm ha
              have hq := Lib.hid hq
              clear hv64 hx64
              go_wp2_with fail
              refine (hm.out _).mono ?_
              rintro e w3 ⟨rfl, rfl⟩
              go_wp2_with fail
              refine (ha.out _).mono ?_
              rintro e w4 ⟨rfl, rfl⟩
              go_wp2
              go_ret2
              exact ⟨by rw [E.out]; first | done | rfl, rfl⟩
          · have hm1 := numRes_out m1
            rw [hm1] at hm
            have E := Lib.hid ((parseRes_form Hf.out).trans (Hov.out (Or.inl m1)))
            have hm := Lib.hid hm
            clear hm1 m1 Hov Htk hv64 hx64
            go_wp2_with fail
            refine (hm.out _).mono ?_
            rintro e w3 ⟨rfl, rfl⟩
            go_wp2
            go_ret2
            exact ⟨by rw [E.out]; first | done | rfl, rfl⟩
        · obtain rfl : j = i := by omega
          have E : Hid (parseRes s.data.toList = .tuple #[.int .i64 v, .int .i64 0]) := by
            have e : dl.take j = dl := List.take_of_length_le (by rw [Hdl.out]; exact Nat.le_refl _)
            have h2 := Hv.out
            rw [e, ← Hsv.out] at h2
            show parseRes s.data.toList = _
            rw [parseRes_form Hf.out, ← h2]
            exact numRes_in hv64
          clear hv64 hlt
          go_wp2
          go_ret2
          exact ⟨by rw [E.out]; first | done | rfl, rfl⟩

set_option maxHeartbeats 4000000 in
set_option maxRecDepth 100000 in
theorem refp_neg_b (s : ByteArray) (dl : List UInt8) (n : Nat) (w : World) (hlim : n ≤ 281474976710656) (hs : 0 < s.size) (hd0 : 0 < (s.extract 1 s.size).size)
    (e2 : ((s[0].toNat : Int) == 45) = true) (hN : s.size - 1 = n) (hP : (s.extract 1 s.size).size = n) (n0 : ((n : Int) == 0) = false) (np : 0 < n) (n1 : decide (1 < (n : Int)) = false) (e6 : ((s.extract 1 s.size).toList == [48]) = false)
    (hdl : (s.extract 1 s.size).data.toList = dl) (hsv : sval s.data.toList = sg true (valF 0 dl : Int))
    (hform : dl.all isDig = false → form s.data.toList = false) (hform1 : dl.all isDig = true → form s.data.toList = true) :
    Calls Tryd.prog 21 #[.string s] w fun e w' => e = .returned (parseRes s.data.toList) ∧ w' = w := by
  have Hcell : Hid (∀ i (h : i < (s.extract 1 s.size).size), (((s.extract 1 s.size)[i]'h).toNat : Int) = ((dl.getD i 0).toNat : Int)) := by
    intro i h
    rw [← hdl, ba_idx (s.extract 1 s.size) i h]
  have Hdl : Hid (dl.length = n) := by show dl.length = n; rw [← hdl, ← hP]; exact (Lib.size_eq _).symm
  have HP := Lib.hid hP
  have hform := Lib.hid hform
  have hform1 := Lib.hid hform1
  have Hsv := Lib.hid hsv
  have Hlim := Lib.hid hlim
  clear hdl hsv hlim
  clear hP
  go_enter Tryd.func21, Tryd.ntmps21
  go_wp2_with fail
  go_loopw [6] (fun s6 wr => DigRel dl n w s6 wr) (fun s6 _ => n - (intOf s6).toNat)
  case atStart => exact ⟨0, rfl, Nat.zero_le _, fun j hj => absurd hj (Nat.not_lt_zero j), rfl⟩
  case round =>
    obtain ⟨i, rfl, hi, hdig, rfl⟩ := hrel
    have HD := Lib.hid hdig
    clear hdig
    by_cases hlt : i < n
    · obtain ⟨c, hc⟩ : ∃ c : Int, ((dl.getD i 0).toNat : Int) = c := ⟨_, rfl⟩
      have hcell := Hcell.out i (by rw [HP.out]; exact hlt)
      rw [hc] at hcell
      have Hc := Lib.hid hc
      have Hn := Lib.hid hlt
      clear hc
      have hs1 : IntKind.i64.wrap ((i : Int) + 1) = (i : Int) + 1 := IntWalk.i64_in _ (by have := Hlim.out; omega)
      by_cases h1 : c < 48
      · have E := Lib.hid (parse_bad (hform.out (not_all Hdl.out hlt Hc.out (Or.inl h1))))
        go_wp2
        go_ret2
        exact ⟨by rw [E.out]; first | done | rfl, rfl⟩
      · by_cases h2 : 57 < c
        · have E := Lib.hid (parse_bad (hform.out (not_all Hdl.out hlt Hc.out (Or.inr h2))))
          go_wp2
          go_ret2
          exact ⟨by rw [E.out]; first | done | rfl, rfl⟩
        · have hr : Hid (DigRel dl n wr (.int .i64 ((i : Int) + 1)) wr) := ⟨i + 1, by push_cast; rfl, by omega, dig_next Hc.out h1 h2 HD.out, rfl⟩
          go_wp2
          exact ⟨hr.out, by have := Hn.out; simp [intOf]; omega⟩
    · obtain rfl : i = n := by omega
      have Hf := Lib.hid (hform1.out (all_dig Hdl.out HD.out))
      have Hdig : Hid (∀ j, j < i → 48 ≤ ((dl.getD j 0).toNat : Int) ∧ ((dl.getD j 0).toNat : Int) ≤ 57) := fun j hj => by
        have := HD.out j hj
        simp only [isDig, Bool.and_eq_true, decide_eq_true_eq] at this; omega
      have hstart2 : Hid (ValRel true dl i wr (.int .i64 0) (.int .i64 0) wr) := ⟨0, 0, rfl, rfl, Nat.zero_le _, by simp [sg, valF], by unfold I64; omega, rfl⟩
      clear HD hlt
      go_wp2_with fail
      go_loopw [7, 8] (fun s7 s8 wr2 => ValRel true dl i wr s7 s8 wr2) (fun _ s8 _ => i - (intOf s8).toNat)
      case atStart => exact hstart2.out
      case round =>
        obtain ⟨j, v, rfl, rfl, hj, hv, hv64, rfl⟩ := hrel
        clear hstart2
        have Hv := Lib.hid hv
        clear hv
        by_cases hlt : j < i
        · obtain ⟨c, hc⟩ : ∃ c : Int, ((dl.getD j 0).toNat : Int) = c := ⟨_, rfl⟩
          have hcell := Hcell.out j (by rw [HP.out]; exact hlt)
          obtain ⟨c48, c57⟩ := Hdig.out j hlt
          rw [hc] at hcell c48 c57
          have Hc := Lib.hid hc
          have Hn := Lib.hid hlt
          clear hc
          have hs1 : IntKind.i64.wrap ((j : Int) + 1) = (j : Int) + 1 := IntWalk.i64_in _ (by have := Hlim.out; omega)
          have hs2 : IntKind.u8.wrap (c - 48) = c - 48 := IntWalk.u8_in _ (by omega)
          have hs3 : IntKind.i64.wrap (c - 48) = c - 48 := IntWalk.i64_in _ (by omega)
          have hs4 : IntKind.i64.wrap (-(c - 48)) = -(c - 48) := IntWalk.i64_in _ (by omega)
          have hx64 : I64 (-(c - 48)) := by unfold I64; omega
          have hm := fun w => mul_ref v 10 hv64 (by unfold I64; omega) w
          have Hov := Lib.hid (@over_end true dl s.data.toList j c v Hsv.out i Hdl.out hlt Hc.out c48 Hv.out)
          have Htk := Lib.hid (take_next Hdl.out hlt Hc.out c48)
          by_cases m1 : -9223372036854775808 ≤ v * 10 ∧ v * 10 ≤ 9223372036854775807
          · have hm1 := numRes_in m1
            rw [hm1] at hm
            have ha := fun w => add_ref (v * 10) (-(c - 48)) m1 hx64 w
            by_cases m2 : -9223372036854775808 ≤ v * 10 + (-(c - 48)) ∧ v * 10 + (-(c - 48)) ≤ 9223372036854775807
            · have hm2 := numRes_in m2
              rw [hm2] at ha
              have hr : Hid (ValRel true dl i wr (.int .i64 (v * 10 + (-(c - 48)))) (.int .i64 ((j : Int) + 1)) wr) :=
                ⟨j + 1, _, by push_cast; rfl, rfl, by omega, by have h1 := Htk.out; have h2 := Hv.out; simp [sg] at h2 ⊢; omega, m2, rfl⟩
              have hm := Lib.hid hm
              have ha := Lib.hid ha
              clear hm1 hm2 m1 m2 Hov Htk
              generalize hp : v * 10 + (-(c - 48)) = p at ha hr
              generalize hq : v * 10 = q at hm ha
              have hp := Lib.hid hp
              have hq := Lib.hid hq
              clear hv64 hx64
              go_wp2_with fail
              refine (hm.out _).mono ?_
              rintro e w3 ⟨rfl, rfl⟩
              go_wp2_with fail
              refine (ha.out _).mono ?_
              rintro e w4 ⟨rfl, rfl⟩
              go_wp2
              exact ⟨hr.out, by have := Hn.out; simp [intOf]; omega⟩
            · have hm2 := numRes_out m2
              rw [hm2] at ha
              have E := Lib.hid ((parseRes_form Hf.out).trans (Hov.out (Or.inr (by simpa [sg] using m2))))
              have hm := Lib.hid hm
              have ha := Lib.hid ha
              clear hm1 hm2 m1 m2 Hov Htk
              generalize hq : v * 10 = q at hm ha
              have hq := Lib.hid hq
              clear hv64 hx64
              go_wp2_with fail
              refine (hm.out _).mono ?_
              rintro e w3 ⟨rfl, rfl⟩
              go_wp2_with fail
              refine (ha.out _).mono ?_
              rintro e w4 ⟨rfl, rfl⟩
              go_wp2
              go_ret2
              exact ⟨by rw [E.out]; first | done | rfl, rfl⟩
          · have hm1 := numRes_out m1
            rw [hm1] at hm
            have E := Lib.hid ((parseRes_form Hf.out).trans (Hov.out (Or.inl m1)))
            have hm := Lib.hid hm
            clear hm1 m1 Hov Htk hv64 hx64
            go_wp2_with fail
            refine (hm.out _).mono ?_
            rintro e w3 ⟨rfl, rfl⟩
            go_wp2
            go_ret2
            exact ⟨by rw [E.out]; first | done | rfl, rfl⟩
        · obtain rfl : j = i := by omega
          have E : Hid (parseRes s.data.toList = .tuple #[.int .i64 v, .int .i64 0]) := by
            have e : dl.take j = dl := List.take_of_length_le (by rw [Hdl.out]; exact Nat.le_refl _)
            have h2 := Hv.out
            rw [e, ← Hsv.out] at h2
            show parseRes s.data.toList = _
            rw [parseRes_form Hf.out, ← h2]
            exact numRes_in hv64
          clear hv64 hlt
          go_wp2
          go_ret2
          exact ⟨by rw [E.out]; first | done | rfl, rfl⟩

set_option maxHeartbeats 4000000 in
set_option maxRecDepth 100000 in
theorem refp_pos_a (s : ByteArray) (dl : List UInt8) (n : Nat) (w : World) (hlim : n ≤ 281474976710656) (hs : 0 < s.size) (hd0 : 0 < s.size)
    (e2 : ((s[0].toNat : Int) == 45) = false) (hN : s.size = n) (hP : s.size = n) (n0 : ((n : Int) == 0) = false) (np : 0 < n) (n1 : decide (1 < (n : Int)) = true) (e5 : (((s[0]'hd0).toNat : Int) == 48) = false)
    (hdl : s.data.toList = dl) (hsv : sval s.data.toList = sg false (valF 0 dl : Int))
    (hform : dl.all isDig = false → form s.data.toList = false) (hform1 : dl.all isDig = true → form s.data.toList = true) :
    Calls Tryd.prog 21 #[.string s] w fun e w' => e = .returned (parseRes s.data.toList) ∧ w' = w := by
  have Hcell : Hid (∀ i (h : i < s.size), ((s[i]'h).toNat : Int) = ((dl.getD i 0).toNat : Int)) := by
    intro i h
    rw [← hdl, ba_idx s i h]
  have Hdl : Hid (dl.length = n) := by show dl.length = n; rw [← hdl, ← hP]; exact (Lib.size_eq _).symm
  have HP := Lib.hid hP
  have hform := Lib.hid hform
  have hform1 := Lib.hid hform1
  have Hsv := Lib.hid hsv
  have Hlim := Lib.hid hlim
  clear hdl hsv hlim hP
  skip
  go_enter Tryd.func21, Tryd.ntmps21
  go_wp2_with fail
  go_loopw [6] (fun s6 wr => DigRel dl n w s6 wr) (fun s6 _ => n - (intOf s6).toNat)
  case atStart => exact ⟨0, rfl, Nat.zero_le _, fun j hj => absurd hj (Nat.not_lt_zero j), rfl⟩
  case round =>
    obtain ⟨i, rfl, hi, hdig, rfl⟩ := hrel
    have HD := Lib.hid hdig
    clear hdig
    by_cases hlt : i < n
    · obtain ⟨c, hc⟩ : ∃ c : Int, ((dl.getD i 0).toNat : Int) = c := ⟨_, rfl⟩
      have hcell := Hcell.out i (by rw [HP.out]; exact hlt)
      rw [hc] at hcell
      have Hc := Lib.hid hc
      have Hn := Lib.hid hlt
      clear hc
      have hs1 : IntKind.i64.wrap ((i : Int) + 1) = (i : Int) + 1 := IntWalk.i64_in _ (by have := Hlim.out; omega)
      by_cases h1 : c < 48
      · have E := Lib.hid (parse_bad (hform.out (not_all Hdl.out hlt Hc.out (Or.inl h1))))
        go_wp2
        go_ret2
        exact ⟨by rw [E.out]; first | done | rfl, rfl⟩
      · by_cases h2 : 57 < c
        · have E := Lib.hid (parse_bad (hform.out (not_all Hdl.out hlt Hc.out (Or.inr h2))))
          go_wp2
          go_ret2
          exact ⟨by rw [E.out]; first | done | rfl, rfl⟩
        · have hr : Hid (DigRel dl n wr (.int .i64 ((i : Int) + 1)) wr) := ⟨i + 1, by push_cast; rfl, by omega, dig_next Hc.out h1 h2 HD.out, rfl⟩
          go_wp2
          exact ⟨hr.out, by have := Hn.out; simp [intOf]; omega⟩
    · obtain rfl : i = n := by omega
      have Hf := Lib.hid (hform1.out (all_dig Hdl.out HD.out))
      have Hdig : Hid (∀ j, j < i → 48 ≤ ((dl.getD j 0).toNat : Int) ∧ ((dl.getD j 0).toNat : Int) ≤ 57) := fun j hj => by
        have := HD.out j hj
        simp only [isDig, Bool.and_eq_true, decide_eq_true_eq] at this; omega
      have hstart2 : Hid (ValRel false dl i wr (.int .i64 0) (.int .i64 0) wr) := ⟨0, 0, rfl, rfl, Nat.zero_le _, by simp [sg, valF], by unfold I64; omega, rfl⟩
      clear HD hlt
      go_wp2_with fail
      go_loopw [7, 8] (fun s7 s8 wr2 => ValRel false dl i wr s7 s8 wr2) (fun _ s8 _ => i - (intOf s8).toNat)
      case atStart => exact hstart2.out
      case round =>
        obtain ⟨j, v, rfl, rfl, hj, hv, hv64, rfl⟩ := hrel
        clear hstart2
        have Hv := Lib.hid hv
        clear hv
        by_cases hlt : j < i
        · obtain ⟨c, hc⟩ : ∃ c : Int, ((dl.getD j 0).toNat : Int) = c := ⟨_, rfl⟩
          have hcell := Hcell.out j (by rw [HP.out]; exact hlt)
          obtain ⟨c48, c57⟩ := Hdig.out j hlt
          rw [hc] at hcell c48 c57
          have Hc := Lib.hid hc
          have Hn := Lib.hid hlt
          clear hc
          have hs1 : IntKind.i64.wrap ((j : Int) + 1) = (j : Int) + 1 := IntWalk.i64_in _ (by have := Hlim.out; omega)
          have hs2 : IntKind.u8.wrap (c - 48) = c - 48 := IntWalk.u8_in _ (by omega)
          have hs3 : IntKind.i64.wrap (c - 48) = c - 48 := IntWalk.i64_in _ (by omega)
          have hs4 : IntKind.i64.wrap (-(c - 48)) = -(c - 48) := IntWalk.i64_in _ (by omega)
          have hx64 : I64 (c - 48) := by unfold I64; omega
          have hm := fun w => mul_ref v 10 hv64 (by unfold I64; omega) w
          have Hov := Lib.hid (@over_end false dl s.data.toList j c v Hsv.out i Hdl.out hlt Hc.out c48 Hv.out)
          have Htk := Lib.hid (take_next Hdl.out hlt Hc.out c48)
          by_cases m1 : -9223372036854775808 ≤ v * 10 ∧ v * 10 ≤ 9223372036854775807
          · have hm1 := numRes_in m1
            rw [hm1] at hm
            have ha := fun w => add_ref (v * 10) (c - 48) m1 hx64 w
            by_cases m2 : -9223372036854775808 ≤ v * 10 + (c - 48) ∧ v * 10 + (c - 48) ≤ 9223372036854775807
            · have hm2 := numRes_in m2
              rw [hm2] at ha
              have hr : Hid (ValRel false dl i wr (.int .i64 (v * 10 + (c - 48))) (.int .i64 ((j : Int) + 1)) wr) :=
                ⟨j + 1, _, by push_cast; rfl, rfl, by omega, by have h1 := Htk.out; have h2 := Hv.out; simp [sg] at h2 ⊢; omega, m2, rfl⟩
              have hm := Lib.hid hm
              have ha := Lib.hid ha
              clear hm1 hm2 m1 m2 Hov Htk
              generalize hp : v * 10 + (c - 48) = p at ha hr
              generalize hq : v * 10 = q at hm ha
              have hp := Lib.hid hp
              have hq := Lib.hid hq
              clear hv64 hx64
              go_wp2_with fail
              refine (hm.out _).mono ?_
              rintro e w3 ⟨rfl, rfl⟩
              go_wp2_with fail
              refine (ha.out _).mono ?_
              rintro e w4 ⟨rfl, rfl⟩
              go_wp2
              exact ⟨hr.out, by have := Hn.out; simp [intOf]; omega⟩
            · have hm2 := numRes_out m2
              rw [hm2] at ha
              have E := Lib.hid ((parseRes_form Hf.out).trans (Hov.out (Or.inr (by simpa [sg] using m2))))
              have hm := Lib.hid hm
              have ha := Lib.hid ha
              clear hm1 hm2 m1 m2 Hov Htk
              generalize hq : v * 10 = q at hm ha
              have hq := Lib.hid hq
              clear hv64 hx64
              go_wp2_with fail
              refine (hm.out _).mono ?_
              rintro e w3 ⟨rfl, rfl⟩
              go_wp2_with fail
              refine (ha.out _).mono ?_
              rintro e w4 ⟨rfl, rfl⟩
              go_wp2
              go_ret2
              exact ⟨by rw [E.out]; first | done | rfl, rfl⟩
          · have hm1 := numRes_out m1
            rw [hm1] at hm
            have E := Lib.hid ((parseRes_form Hf.out).trans (Hov.out (Or.inl m1)))
            have hm := Lib.hid hm
            clear hm1 m1 Hov Htk hv64 hx64
            go_wp2_with fail
            refine (hm.out _).mono ?_
            rintro e w3 ⟨rfl, rfl⟩
            go_wp2
            go_ret2
            exact ⟨by rw [E.out]; first | done | rfl, rfl⟩
        · obtain rfl : j = i := by omega
          have E : Hid (parseRes s.data.toList = .tuple #[.int .i64 v, .int .i64 0]) := by
            have e : dl.take j = dl := List.take_of_length_le (by rw [Hdl.out]; exact Nat.le_refl _)
            have h2 := Hv.out
            rw [e, ← Hsv.out] at h2
            show parseRes s.data.toList = _
            rw [parseRes_form Hf.out, ← h2]
            exact numRes_in hv64
          clear hv64 hlt
          go_wp2
          go_ret2
          exact ⟨by rw [E.out]; first | done | rfl, rfl⟩

set_option maxHeartbeats 4000000 in
set_option maxRecDepth 100000 in
theorem refp_pos_b (s : ByteArray) (dl : List UInt8) (n : Nat) (w : World) (hlim : n ≤ 281474976710656) (hs : 0 < s.size) (hd0 : 0 < s.size)
    (e2 : ((s[0].toNat : Int) == 45) = false) (hN : s.size = n) (hP : s.size = n) (n0 : ((n : Int) == 0) = false) (np : 0 < n) (n1 : decide (1 < (n : Int)) = false)
    (hdl : s.data.toList = dl) (hsv : sval s.data.toList = sg false (valF 0 dl : Int))
    (hform : dl.all isDig = false → form s.data.toList = false) (hform1 : dl.all isDig = true → form s.data.toList = true) :
    Calls Tryd.prog 21 #[.string s] w fun e w' => e = .returned (parseRes s.data.toList) ∧ w' = w := by
  have Hcell : Hid (∀ i (h : i < s.size), ((s[i]'h).toNat : Int) = ((dl.getD i 0).toNat : Int)) := by
    intro i h
    rw [← hdl, ba_idx s i h]
  have Hdl : Hid (dl.length = n) := by show dl.length = n; rw [← hdl, ← hP]; exact (Lib.size_eq _).symm
  have HP := Lib.hid hP
  have hform := Lib.hid hform
  have hform1 := Lib.hid hform1
  have Hsv := Lib.hid hsv
  have Hlim := Lib.hid hlim
  clear hdl hsv hlim hP
  skip
  go_enter Tryd.func21, Tryd.ntmps21
  go_wp2_with fail
  go_loopw [6] (fun s6 wr => DigRel dl n w s6 wr) (fun s6 _ => n - (intOf s6).toNat)
  case atStart => exact ⟨0, rfl, Nat.zero_le _, fun j hj => absurd hj (Nat.not_lt_zero j), rfl⟩
  case round =>
    obtain ⟨i, rfl, hi, hdig, rfl⟩ := hrel
    have HD := Lib.hid hdig
    clear hdig
    by_cases hlt : i < n
    · obtain ⟨c, hc⟩ : ∃ c : Int, ((dl.getD i 0).toNat : Int) = c := ⟨_, rfl⟩
      have hcell := Hcell.out i (by rw [HP.out]; exact hlt)
      rw [hc] at hcell
      have Hc := Lib.hid hc
      have Hn := Lib.hid hlt
      clear hc
      have hs1 : IntKind.i64.wrap ((i : Int) + 1) = (i : Int) + 1 := IntWalk.i64_in _ (by have := Hlim.out; omega)
      by_cases h1 : c < 48
      · have E := Lib.hid (parse_bad (hform.out (not_all Hdl.out hlt Hc.out (Or.inl h1))))
        go_wp2
        go_ret2
        exact ⟨by rw [E.out]; first | done | rfl, rfl⟩
      · by_cases h2 : 57 < c
        · have E := Lib.hid (parse_bad (hform.out (not_all Hdl.out hlt Hc.out (Or.inr h2))))
          go_wp2
          go_ret2
          exact ⟨by rw [E.out]; first | done | rfl, rfl⟩
        · have hr : Hid (DigRel dl n wr (.int .i64 ((i : Int) + 1)) wr) := ⟨i + 1, by push_cast; rfl, by omega, dig_next Hc.out h1 h2 HD.out, rfl⟩
          go_wp2
          exact ⟨hr.out, by have := Hn.out; simp [intOf]; omega⟩
    · obtain rfl : i = n := by omega
      have Hf := Lib.hid (hform1.out (all_dig Hdl.out HD.out))
      have Hdig : Hid (∀ j, j < i → 48 ≤ ((dl.getD j 0).toNat : Int) ∧ ((dl.getD j 0).toNat : Int) ≤ 57) := fun j hj => by
        have := HD.out j hj
        simp only [isDig, Bool.and_eq_true, decide_eq_true_eq] at this; omega
      have hstart2 : Hid (ValRel false dl i wr (.int .i64 0) (.int .i64 0) wr) := ⟨0, 0, rfl, rfl, Nat.zero_le _, by simp [sg, valF], by unfold I64; omega, rfl⟩
      clear HD hlt
      go_wp2_with fail
      go_loopw [7, 8] (fun s7 s8 wr2 => ValRel false dl i wr s7 s8 wr2) (fun _ s8 _ => i - (intOf s8).toNat)
      case atStart => exact hstart2.out
      case round =>
        obtain ⟨j, v, rfl, rfl, hj, hv, hv64, rfl⟩ := hrel
        clear hstart2
        have Hv := Lib.hid hv
        clear hv
        by_cases hlt : j < i
        · obtain ⟨c, hc⟩ : ∃ c : Int, ((dl.getD j 0).toNat : Int) = c := ⟨_, rfl⟩
          have hcell := Hcell.out j (by rw [HP.out]; exact hlt)
          obtain ⟨c48, c57⟩ := Hdig.out j hlt
          rw [hc] at hcell c48 c57
          have Hc := Lib.hid hc
          have Hn := Lib.hid hlt
          clear hc
          have hs1 : IntKind.i64.wrap ((j : Int) + 1) = (j : Int) + 1 := IntWalk.i64_in _ (by have := Hlim.out; omega)
          have hs2 : IntKind.u8.wrap (c - 48) = c - 48 := IntWalk.u8_in _ (by omega)
          have hs3 : IntKind.i64.wrap (c - 48) = c - 48 := IntWalk.i64_in _ (by omega)
          have hs4 : IntKind.i64.wrap (-(c - 48)) = -(c - 48) := IntWalk.i64_in _ (by omega)
          have hx64 : I64 (c - 48) := by unfold I64; omega
          have hm := fun w => mul_ref v 10 hv64 (by unfold I64; omega) w
          have Hov := Lib.hid (@over_end false dl s.data.toList j c v Hsv.out i Hdl.out hlt Hc.out c48 Hv.out)
          have Htk := Lib.hid (take_next Hdl.out hlt Hc.out c48)
          by_cases m1 : -9223372036854775808 ≤ v * 10 ∧ v * 10 ≤ 9223372036854775807
          · have hm1 := numRes_in m1
            rw [hm1] at hm
            have ha := fun w => add_ref (v * 10) (c - 48) m1 hx64 w
            by_cases m2 : -9223372036854775808 ≤ v * 10 + (c - 48) ∧ v * 10 + (c - 48) ≤ 9223372036854775807
            · have hm2 := numRes_in m2
              rw [hm2] at ha
              have hr : Hid (ValRel false dl i wr (.int .i64 (v * 10 + (c - 48))) (.int .i64 ((j : Int) + 1)) wr) :=
                ⟨j + 1, _, by push_cast; rfl, rfl, by omega, by have h1 := Htk.out; have h2 := Hv.out; simp [sg] at h2 ⊢; omega, m2, rfl⟩
              have hm := Lib.hid hm
              have ha := Lib.hid ha
              clear hm1 hm2 m1 m2 Hov Htk
              generalize hp : v * 10 + (c - 48) = p at ha hr
              generalize hq : v * 10 = q at hm ha
              have hp := Lib.hid hp
              have hq := Lib.hid hq
              clear hv64 hx64
              go_wp2_with fail
              refine (hm.out _).mono ?_
              rintro e w3 ⟨rfl, rfl⟩
              go_wp2_with fail
              refine (ha.out _).mono ?_
              rintro e w4 ⟨rfl, rfl⟩
              go_wp2
              exact ⟨hr.out, by have := Hn.out; simp [intOf]; omega⟩
            · have hm2 := numRes_out m2
              rw [hm2] at ha
              have E := Lib.hid ((parseRes_form Hf.out).trans (Hov.out (Or.inr (by simpa [sg] using m2))))
              have hm := Lib.hid hm
              have ha := Lib.hid ha
              clear hm1 hm2 m1 m2 Hov Htk
              generalize hq : v * 10 = q at hm ha
              have hq := Lib.hid hq
              clear hv64 hx64
              go_wp2_with fail
              refine (hm.out _).mono ?_
              rintro e w3 ⟨rfl, rfl⟩
              go_wp2_with fail
              refine (ha.out _).mono ?_
              rintro e w4 ⟨rfl, rfl⟩
              go_wp2
              go_ret2
              exact ⟨by rw [E.out]; first | done | rfl, rfl⟩
          · have hm1 := numRes_out m1
            rw [hm1] at hm
            have E := Lib.hid ((parseRes_form Hf.out).trans (Hov.out (Or.inl m1)))
            have hm := Lib.hid hm
            clear hm1 m1 Hov Htk hv64 hx64
            go_wp2_with fail
            refine (hm.out _).mono ?_
            rintro e w3 ⟨rfl, rfl⟩
            go_wp2
            go_ret2
            exact ⟨by rw [E.out]; first | done | rfl, rfl⟩
        · obtain rfl : j = i := by omega
          have E : Hid (parseRes s.data.toList = .tuple #[.int .i64 v, .int .i64 0]) := by
            have e : dl.take j = dl := List.take_of_length_le (by rw [Hdl.out]; exact Nat.le_refl _)
            have h2 := Hv.out
            rw [e, ← Hsv.out] at h2
            show parseRes s.data.toList = _
            rw [parseRes_form Hf.out, ← h2]
            exact numRes_in hv64
          clear hv64 hlt
          go_wp2
          go_ret2
          exact ⟨by rw [E.out]; first | done | rfl, rfl⟩

end Go.Proofs.YtebjldgaibagpaaDoor
