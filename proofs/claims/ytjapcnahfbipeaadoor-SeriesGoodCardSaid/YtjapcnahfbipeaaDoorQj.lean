/- The walks of 'SeriesGood', 'SeriesThree'. -/
import Derived.Test.YtjapcnahfbipeaaDoorQi
namespace Go.Proofs.YtjapcnahfbipeaaDoor
open Go Go.RowKit

def allTo (l : List UInt8) (i : Nat) : Bool := (List.range i).all fun j => okC (j == 0) (l.getD j 0)
theorem allTo_succ (l : List UInt8) (i : Nat) : allTo l (i + 1) = (allTo l i && okC (i == 0) (l.getD i 0)) := by
  unfold allTo; rw [List.range_succ]; simp
def okTo (l : List UInt8) (i : Nat) : Bool := (decide (1 ≤ l.length) && decide (l.length ≤ 8)) && allTo l i
theorem okTo_succ (l : List UInt8) (i : Nat) : okTo l (i + 1) = (okTo l i && okC (i == 0) (l.getD i 0)) := by
  unfold okTo; rw [allTo_succ]; simp [Bool.and_assoc]
theorem okTo_end (l : List UInt8) : okTo l l.length = goodB l := by
  rw [Bool.eq_iff_iff, goodB_at]
  simp [okTo, allTo, and_assoc]
theorem chk1 (s : ByteArray) : (goodB s.data.toList = true ∧ (chk ⟨s, 1, 1, 1⟩).2 = 0) ∨ (goodB s.data.toList = false ∧ (chk ⟨s, 1, 1, 1⟩).2 = 5) := by
  cases h : goodB s.data.toList with
  | false => right; refine ⟨rfl, ?_⟩; unfold chk; rw [if_pos h]
  | true => left; refine ⟨rfl, ?_⟩; unfold chk; rw [if_neg (by rw [h]; decide)]; rfl
def SgRel (s : ByteArray) (w0 : World) (ov iv : Value) (wr : World) : Prop := ∃ i : Nat, i ≤ s.size ∧ ov = .bool (okTo s.data.toList i) ∧ iv = .int .i64 i ∧ w0 = wr
theorem ok5 (f : Bool) (c : UInt8) : okC f c = ((decide ((65 : Int) ≤ c.toNat) && decide ((c.toNat : Int) ≤ 90)) || (!f && (decide ((48 : Int) ≤ c.toNat) && decide ((c.toNat : Int) ≤ 57)))) := ok_of rfl f
set_option maxHeartbeats 4000000 in
set_option maxRecDepth 100000 in
theorem seriesGood_walk (s : ByteArray) (w : World) (hL : Laid w) (m : Int) (hm : w.cell? ⟨0, 0, none⟩ = some (.int .i64 m)) : Calls Tryd.prog 5 #[.string s] w (KnownPost w) := by
  have Hm := Lib.hid hm
  have HL := Lib.hid hL
  clear hL hm
  by_cases hbig : s.size ≤ 50
  · have hlen : ((s.size : Int) ≤ 50) := by omega
    have Hlen := Lib.hid hbig
    clear hbig
    go_enter Tryd.func5, Tryd.ntmps5
    go_wp2_with fail
    refine (known_any w HL.out m Hm.out).mono ?_
    rintro e w1 ⟨rfl, hk⟩
    have hcase : ((1 : Int) ≤ s.size ∧ (s.size : Int) ≤ 8 ∧ okTo s.data.toList 0 = true) ∨ ((s.size : Int) < 1 ∧ okTo s.data.toList 0 = false) ∨ ((1 : Int) ≤ s.size ∧ (8 : Int) < s.size ∧ okTo s.data.toList 0 = false) := by
      have h0 : okTo s.data.toList 0 = (decide (1 ≤ s.size) && decide (s.size ≤ 8)) := by
        show ((decide (1 ≤ s.data.toList.length) && decide (s.data.toList.length ≤ 8)) && allTo s.data.toList 0) = _
        have : s.data.toList.length = s.size := rfl
        rw [this]; simp [allTo]
      rw [h0]
      by_cases h1 : 1 ≤ s.size <;> by_cases h2 : s.size ≤ 8 <;> simp [h1, h2] <;> omega
    have Hk := Lib.hid hk
    clear hk
    have hst : ∀ b, okTo s.data.toList 0 = b → SgRel s w1 (.bool b) (.int .i64 0) w1 := fun b hb => ⟨0, Nat.zero_le _, by rw [hb], rfl, rfl⟩
    have Hst := Lib.hid hst
    clear hst
    have key : ∀ (b : Bool), okTo s.data.toList 0 = b → True := fun _ _ => trivial
    clear key
    rcases hcase with ⟨h1, h2, h0⟩ | ⟨h1, h0⟩ | ⟨h1, h2, h0⟩
    all_goals
      have H0 := Lib.hid (Hst.out _ h0)
      clear h0
      go_wp2_with fail
      go_loopw [3, 4] (fun ov iv wr => SgRel s w1 ov iv wr) (fun ov iv _ => s.size - (intOf iv).toNat)
      case atStart => first | exact H0.out | (rw [show decide ((s.size : Int) ≤ 8) = false by simp; omega]; exact H0.out)
      case round =>
        clear H0
        obtain ⟨i, hi, rfl, rfl, rfl⟩ := hrel
        by_cases hlt : i < s.size
        · have b1 : (0 : Int) ≤ (i : Int) := by omega
          have b2 : (i : Int) < (s.size : Int) := by omega
          have hgd : s[i] = s.data.toList.getD i 0 := (getD_str hlt).symm
          have hn : Hid (∀ b, okTo s.data.toList (i + 1) = b → SgRel s w1 (.bool b) (.int .i64 ((i : Int) + 1)) w1) := fun b hb => ⟨i + 1, hlt, by rw [hb], by push_cast; rfl, rfl⟩
          obtain ⟨t, ht⟩ : ∃ t, okTo s.data.toList i = t := ⟨_, rfl⟩
          rw [ht]
          have hs := okTo_succ s.data.toList i
          rw [ht, ok5, ← hgd] at hs
          have Hlt := Lib.hid hlt
          have Hs := Lib.hid hs
          clear hs ht hgd h1
          have hi0 : ((i : Int) ≤ 0 ∧ (i == 0) = true) ∨ ((0 : Int) < i ∧ (i == 0) = false) := by
            by_cases e : i = 0
            · left; subst e; simp
            · right; refine ⟨by omega, by simpa using e⟩
          have hcc : ((s[i].toNat : Int) < 48 ∧ (s[i].toNat : Int) < 65) ∨ ((48 : Int) ≤ s[i].toNat ∧ (s[i].toNat : Int) ≤ 57 ∧ (s[i].toNat : Int) < 65) ∨ ((48 : Int) ≤ s[i].toNat ∧ (57 : Int) < s[i].toNat ∧ (s[i].toNat : Int) < 65) ∨ ((65 : Int) ≤ s[i].toNat ∧ (s[i].toNat : Int) ≤ 90) ∨ ((48 : Int) ≤ s[i].toNat ∧ (57 : Int) < s[i].toNat ∧ (65 : Int) ≤ s[i].toNat ∧ (90 : Int) < s[i].toNat) := by omega
          have fin : Hid (∀ b, okTo s.data.toList (i + 1) = b → SgRel s w1 (.bool b) (.int .i64 ((i : Int) + 1)) w1 ∧ s.size - (intOf (.int .i64 ((i : Int) + 1))).toNat < s.size - (intOf (.int .i64 (i : Int))).toNat) := fun b hb => ⟨hn.out b hb, by have := Hlt.out; simp [intOf]; omega⟩
          clear hn
          cases t with
          | false =>
            have hT : okTo s.data.toList (i + 1) = false := by rw [Hs.out]; rfl
            have E : Hid (∀ b, b = false → SgRel s w1 (.bool b) (.int .i64 ((i : Int) + 1)) w1 ∧ s.size - (intOf (.int .i64 ((i : Int) + 1))).toNat < s.size - (intOf (.int .i64 (i : Int))).toNat) := fun b hb => fin.out b (hT.trans hb.symm)
            clear fin hi0 hT
            rcases hcc with ⟨g1, g2⟩ | ⟨g1, g2, g3⟩ | ⟨g1, g2, g3⟩ | ⟨g1, g2⟩ | ⟨g1, g2, g3, g4⟩
            all_goals
              clear Hs
              go_wp2
              all_goals exact E.out _ (by simp <;> omega)
          | true =>
            rcases hcc with ⟨g1, g2⟩ | ⟨g1, g2, g3⟩ | ⟨g1, g2, g3⟩ | ⟨g1, g2⟩ | ⟨g1, g2, g3, g4⟩
            all_goals
              rcases hi0 with ⟨k1, k2⟩ | ⟨k1, k2⟩
            all_goals
              obtain ⟨z, hz⟩ : ∃ z, okTo s.data.toList (i + 1) = z := ⟨_, rfl⟩
              have hz' := Hs.out.symm.trans hz
              rw [k2] at hz'
              have E : Hid (∀ b, b = z → SgRel s w1 (.bool b) (.int .i64 ((i : Int) + 1)) w1 ∧ s.size - (intOf (.int .i64 ((i : Int) + 1))).toNat < s.size - (intOf (.int .i64 (i : Int))).toNat) := fun b hb => fin.out b (hz.trans hb.symm)
              have hzz : (z = true ∧ (((65 : Int) ≤ s[i].toNat ∧ (s[i].toNat : Int) ≤ 90) ∨ ((0 : Int) < i ∧ (48 : Int) ≤ s[i].toNat ∧ (s[i].toNat : Int) ≤ 57))) ∨ (z = false ∧ ¬ (((65 : Int) ≤ s[i].toNat ∧ (s[i].toNat : Int) ≤ 90) ∨ ((0 : Int) < i ∧ (48 : Int) ≤ s[i].toNat ∧ (s[i].toNat : Int) ≤ 57))) := by
                cases z <;> simp at hz' <;> simp <;> omega
              clear fin Hs k2 hz hz'
              rcases hzz with ⟨rfl, hzz⟩ | ⟨rfl, hzz⟩
              all_goals first
                | (exfalso; omega)
                | (clear hzz
                   go_wp2
                   all_goals exact E.out _ (by simp <;> omega))
        · obtain rfl : i = s.size := by omega
          rw [show okTo s.data.toList s.size = goodB s.data.toList from okTo_end _]
          have hg := chk1 s
          have Hlt : Hid (¬ s.size < s.size) := hlt
          clear hlt hi h1
          rcases hg with ⟨hg, hc⟩ | ⟨hg, hc⟩
          all_goals
            rw [hg]
            go_wp2_with fail
            refine (check_any ⟨s, 1, 1, 1⟩ w1 Hlen.out).mono ?_
            rintro e w2 ⟨rfl, k2⟩
            have hk2 := Hk.out.trans (kb k2)
            rw [hc]
            go_wp2_with fail
            refine (good_any s w2 Hlen.out).mono ?_
            rintro e w3 ⟨rfl, k3⟩
            have hk3 := hk2.trans (kb k3)
            rw [hg]
            go_wp2
            go_ret
            exact ⟨rfl, hk3⟩
  · have hlen : ((50 : Int) < s.size) := by omega
    clear hbig
    go_enter Tryd.func5, Tryd.ntmps5
    go_wp2_with fail
    refine (known_any w HL.out m Hm.out).mono ?_
    rintro e w1 ⟨rfl, hk⟩
    go_wp2
    go_ret
    exact ⟨rfl, hk⟩
end Go.Proofs.YtjapcnahfbipeaaDoor
