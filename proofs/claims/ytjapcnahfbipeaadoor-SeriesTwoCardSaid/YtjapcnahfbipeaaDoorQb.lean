/- A class: whether a text is one: the reference's walk; what is wrong with a series. -/
import Derived.Test.YtjapcnahfbipeaaDoorQa
namespace Go.Proofs.YtjapcnahfbipeaaDoor
open Go Go.RowKit

theorem getD_str {s : ByteArray} {i : Nat} (h : i < s.size) : s.data.toList.getD i 0 = s[i] := by
  obtain ⟨⟨l⟩⟩ := s
  have h' : i < l.length := h
  show l.getD i 0 = l[i]
  simp [List.getD, List.getElem?_eq_getElem h']
theorem bad_of {f : Bool} {c : UInt8} (h : okC f c = false) : ((c.toNat : Int) < 65 ∨ 90 < (c.toNat : Int)) ∧ (f = true ∨ (c.toNat : Int) < 48 ∨ 57 < (c.toNat : Int)) := by
  rw [ok_of rfl f] at h
  simp at h
  cases f
  · simp at h; exact ⟨by omega, .inr (by omega)⟩
  · simp at h; exact ⟨by omega, .inl rfl⟩
theorem ok_is {f : Bool} {c : UInt8} (h : okC f c = true) : (65 ≤ (c.toNat : Int) ∧ (c.toNat : Int) ≤ 90) ∨ (f = false ∧ 48 ≤ (c.toNat : Int) ∧ (c.toNat : Int) ≤ 57) := by
  rw [ok_of rfl f] at h
  cases f
  · simp at h; rcases h with h | h
    · exact .inl h
    · exact .inr ⟨rfl, h⟩
  · simp at h; exact .inl h
def GrRel (l : List UInt8) (n : Nat) (w1 : World) (iv : Value) (wr : World) : Prop := ∃ i : Nat, iv = .int .i64 i ∧ 1 ≤ i ∧ i ≤ n ∧ OkTo l i ∧ wr = w1

set_option maxHeartbeats 2000000 in
set_option maxRecDepth 100000 in
theorem good_ref (s : ByteArray) (w : World) (hs : s.size ≤ 50) : Calls Tryd.prog 12 #[.string s] w fun e w' => w = w' ∧ e = .returned (.bool (goodB s.data.toList)) := by
  obtain ⟨l, hl⟩ : ∃ l, s.data.toList = l := ⟨_, rfl⟩
  have hll : l.length = s.size := by rw [← hl]; rfl
  have hgd : ∀ i (h : i < s.size), l.getD i 0 = s[i] := fun i h => by rw [← hl]; exact getD_str h
  rw [hl]
  have Hll := Lib.hid hll
  have Hgd := Lib.hid hgd
  clear hl hll hgd
  by_cases h0 : s.size < 1
  · have E : Hid (goodB l = false) := by
      show _ = _
      cases h : goodB l with
      | false => rfl
      | true => have h1 := ((goodB_at l).1 h).1; have := Hll.out; omega
    go_enter Tryd.func12, Tryd.ntmps12
    go_wp2
    go_ret
    exact ⟨rfl, ret_bool E.out.symm⟩
  · by_cases h8 : 8 < s.size
    · have E : Hid (goodB l = false) := by
        show _ = _
        cases h : goodB l with
        | false => rfl
        | true => have h1 := ((goodB_at l).1 h).2.1; have := Hll.out; omega
      have h0' : 1 ≤ s.size := by omega
      go_enter Tryd.func12, Tryd.ntmps12
      go_wp2
      go_ret
      exact ⟨rfl, ret_bool E.out.symm⟩
    · have hp : 0 < s.size := by omega
      have h1' : 1 ≤ s.size := by omega
      have h8' : s.size ≤ 8 := by omega
      cases hc : okC true s[0] with
      | false =>
        have E : Hid (goodB l = false) := good_no (i := 0) (by rw [Hll.out]; exact hp) (by rw [Hgd.out 0 hp]; exact hc)
        obtain ⟨hb, _⟩ := bad_of hc
        clear hc h0 h8
        rcases hb with hb | hb
        · go_enter Tryd.func12, Tryd.ntmps12
          go_wp2
          go_ret
          exact ⟨rfl, ret_bool E.out.symm⟩
        · have hb2 : 65 ≤ (s[0].toNat : Int) := by omega
          go_enter Tryd.func12, Tryd.ntmps12
          go_wp2
          go_ret
          exact ⟨rfl, ret_bool E.out.symm⟩
      | true =>
        have hok : OkTo l 1 := fun j hj => by obtain rfl : j = 0 := by omega
                                              rw [Hgd.out 0 hp]; exact hc
        obtain ⟨hc1, hc2⟩ := (ok_is hc).resolve_right (fun h => by cases h.1)
        have Hok := Lib.hid hok
        clear hc hok h0 h8
        go_enter Tryd.func12, Tryd.ntmps12
        go_wp2_with fail
        go_loopw [3] (fun iv wr => GrRel l s.size w iv wr) (fun iv _ => s.size - (intOf iv).toNat)
        case atStart => exact ⟨1, rfl, Nat.le_refl _, h1', Hok.out, rfl⟩
        case round =>
          obtain ⟨i, rfl, hi1, hi2, hok, rfl⟩ := hrel
          have Hok2 := Lib.hid hok
          clear hok
          by_cases hlt : i < s.size
          · have b1 : (0 : Int) ≤ (i : Int) := by omega
            have b2 : (i : Int) < (s.size : Int) := by omega
            have Hlt := Lib.hid hlt
            have Hi1 := Lib.hid hi1
            cases hci : okC false s[i] with
            | false =>
              have E : Hid (goodB l = false) := good_no (i := i) (by rw [Hll.out]; exact hlt) (by rw [Hgd.out i hlt, show (i == 0) = false by simp; omega]; exact hci)
              obtain ⟨hb, hb'⟩ := bad_of hci
              have hb' := hb'.resolve_left (by simp)
              have hb3 : ((s[i].toNat : Int) < 48) ∨ (48 ≤ (s[i].toNat : Int) ∧ 57 < (s[i].toNat : Int) ∧ (s[i].toNat : Int) < 65) ∨ (48 ≤ (s[i].toNat : Int) ∧ 57 < (s[i].toNat : Int) ∧ 65 ≤ (s[i].toNat : Int) ∧ 90 < (s[i].toNat : Int)) := by omega
              clear hci hb hb'
              rcases hb3 with hb | ⟨hb, hb', hb3⟩ | ⟨hb, hb', hb3, hb4⟩
              all_goals
                go_wp2
                go_ret
                exact ⟨rfl, ret_bool E.out.symm⟩
            | true =>
              have nxt : Hid (GrRel l s.size wr (.int .i64 ((i : Int) + 1)) wr) := ⟨i + 1, by push_cast; rfl, by omega, by omega, Hok2.out.next (by rw [Hgd.out i hlt, show (i == 0) = false by simp; omega]; exact hci), rfl⟩
              have hb := ok_is hci
              clear hci
              rcases hb with ⟨hb, hb'⟩ | ⟨_, hb, hb'⟩
              · go_wp2
                exact ⟨nxt.out, by have := Hlt.out; simp [intOf]; omega⟩
              · have hb3 : (s[i].toNat : Int) < 65 := by omega
                go_wp2
                exact ⟨nxt.out, by have := Hlt.out; simp [intOf]; omega⟩
          · obtain rfl : i = s.size := by omega
            have E : Hid (goodB l = true) := (goodB_at l).2 ⟨by rw [Hll.out]; exact h1', by rw [Hll.out]; exact h8', by rw [Hll.out]; exact Hok2.out⟩
            go_wp2
            go_ret
            exact ⟨rfl, ret_bool E.out.symm⟩
end Go.Proofs.YtjapcnahfbipeaaDoor
