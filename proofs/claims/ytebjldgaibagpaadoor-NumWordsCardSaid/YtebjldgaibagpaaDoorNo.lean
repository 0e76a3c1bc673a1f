/- Numbers: the walk of the law NumWords. -/
import Derived.Test.YtebjldgaibagpaaDoorNm
import Derived.Test.YtebjldgaibagpaaDoorNn
namespace Go.Proofs.YtebjldgaibagpaaDoor
open Go Go.RowKit

theorem parse_cases (l : List UInt8) : (∃ v, parseRes l = .tuple #[.int .i64 v, .int .i64 0] ∧ I64 v ∧ Lib.itoa v = l) ∨ (∃ e, ¬ e = 0 ∧ parseRes l = .tuple #[.int .i64 0, .int .i64 e]) := by
  by_cases hf : form l = true
  · rw [parseRes_form hf]
    by_cases h : -9223372036854775808 ≤ sval l ∧ sval l ≤ 9223372036854775807
    · exact Or.inl ⟨_, numRes_in h, h, form_itoa hf⟩
    · exact Or.inr ⟨9, by decide, numRes_out h⟩
  · have hf : form l = false := by simpa using hf
    exact Or.inr ⟨2, by decide, parse_bad hf⟩

theorem parse_itoa {n : Int} (h : I64 n) : parseRes (Lib.itoa n) = .tuple #[.int .i64 n, .int .i64 0] := by
  obtain ⟨h1, h2⟩ := @itoa_form n
  rw [parseRes_form h1, h2]
  exact numRes_in h

set_option maxHeartbeats 4000000 in
set_option maxRecDepth 100000 in
theorem numWords_walk (s : ByteArray) (n : Int) (hn : I64 n) (w : World) (hL : Laid w) :
    Calls Tryd.prog 4 #[.string s, .int .i64 n] w (KnownPost w) := by
  have hk := Lib.hid (known_walk w hL)
  by_cases hlen : 100 < s.size
  · have hl : decide (100 < (s.size : Int)) = true := by simp; omega
    clear hlen
    go_enter Tryd.func4, Tryd.ntmps4
    go_wp2_with fail
    refine hk.out.mono ?_
    rintro e w1 ⟨rfl, hb1⟩
    have hb1 := Lib.hid hb1
    go_wp2
    go_ret
    exact ⟨rfl, hb1.out⟩
  · have hl : decide (100 < (s.size : Int)) = false := by simp; omega
    have hlim : s.size ≤ 281474976710656 := by omega
    obtain ⟨t, ht⟩ : ∃ t : ByteArray, t = ⟨(Lib.itoa n).toArray⟩ := ⟨_, rfl⟩
    have htl : t.data.toList = Lib.itoa n := by rw [ht]
    have htlim : t.size ≤ 281474976710656 := by
      have h1 := Lib.itoa_length_le n hn.1 hn.2
      rw [Lib.size_eq, htl]; omega
    have p1 := fun w hS => parse_num s w hlim hS
    have p2 := fun w => parse_ref s w hlim
    have p3 := fun w hL => text_num n hn w hL
    have p4 := fun w hS => parse_num t w htlim hS
    have p5 := fun w => text_ref n hn w
    rw [htl, parse_itoa hn] at p4
    rw [← ht] at p3 p5
    have hL := Lib.hid hL
    have p3 := Lib.hid p3; have p4 := Lib.hid p4; have p5 := Lib.hid p5
    clear ht htl htlim hlim hlen hn
    rcases parse_cases s.data.toList with ⟨v, hv, hv64, hvs⟩ | ⟨er, her, hv⟩
    · rw [hv] at p1 p2
      have p6 := fun w hL => text_num v hv64 w hL
      have es : (⟨(Lib.itoa v).toArray⟩ : ByteArray) = s := ba_eq (by rw [hvs])
      rw [es] at p6
      have p1 := Lib.hid p1; have p2 := Lib.hid p2; have p6 := Lib.hid p6
      clear hv hv64 hvs es
      go_enter Tryd.func4, Tryd.ntmps4
      go_wp2_with fail
      refine hk.out.mono ?_
      rintro e w1 ⟨rfl, hb1⟩
      have hb1 := Lib.hid hb1
      go_wp2_with fail
      refine (p1.out _ (hL.out.on hb1.out).sents).mono ?_
      rintro e w2 ⟨rfl, hb2⟩
      have hb2 := Lib.hid (hb1.out.trans (hb2.mono hb1.out.size))
      go_wp2_with fail
      refine (p2.out _).mono ?_
      rintro e w3 ⟨rfl, rfl⟩
      go_wp2_with fail
      refine (p3.out _ (hL.out.on hb2.out)).mono ?_
      rintro e w4 ⟨rfl, hb4⟩
      have hb4 := Lib.hid (hb2.out.trans (hb4.mono hb2.out.size))
      go_wp2_with fail
      refine (p4.out _ (hL.out.on hb4.out).sents).mono ?_
      rintro e w5 ⟨rfl, hb5⟩
      have hb5 := Lib.hid (hb4.out.trans (hb5.mono hb4.out.size))
      go_wp2_with fail
      refine (p5.out _).mono ?_
      rintro e w6 ⟨rfl, hb6⟩
      have hb6 := Lib.hid (hb5.out.trans (hb6.mono hb5.out.size))
      go_wp2_with fail
      refine (p6.out _ (hL.out.on hb6.out)).mono ?_
      rintro e w7 ⟨rfl, hb7⟩
      have hb7 := Lib.hid (hb6.out.trans (hb7.mono hb6.out.size))
      go_wp2
      go_ret
      exact ⟨ret_bool (by first | rfl | simp), hb7.out⟩
    · rw [hv] at p1 p2
      have p1 := Lib.hid p1; have p2 := Lib.hid p2
      have de : (er != 0) = true := by simpa using her
      clear hv her
      go_enter Tryd.func4, Tryd.ntmps4
      go_wp2_with fail
      refine hk.out.mono ?_
      rintro e w1 ⟨rfl, hb1⟩
      have hb1 := Lib.hid hb1
      go_wp2_with fail
      refine (p1.out _ (hL.out.on hb1.out).sents).mono ?_
      rintro e w2 ⟨rfl, hb2⟩
      have hb2 := Lib.hid (hb1.out.trans (hb2.mono hb1.out.size))
      go_wp2_with fail
      refine (p2.out _).mono ?_
      rintro e w3 ⟨rfl, rfl⟩
      go_wp2_with fail
      refine (p3.out _ (hL.out.on hb2.out)).mono ?_
      rintro e w4 ⟨rfl, hb4⟩
      have hb4 := Lib.hid (hb2.out.trans (hb4.mono hb2.out.size))
      go_wp2_with fail
      refine (p4.out _ (hL.out.on hb4.out).sents).mono ?_
      rintro e w5 ⟨rfl, hb5⟩
      have hb5 := Lib.hid (hb4.out.trans (hb5.mono hb4.out.size))
      go_wp2_with fail
      refine (p5.out _).mono ?_
      rintro e w6 ⟨rfl, hb6⟩
      have hb6 := Lib.hid (hb5.out.trans (hb6.mono hb5.out.size))
      go_wp2
      go_ret
      exact ⟨ret_bool (by first | rfl | simp), hb6.out⟩

end Go.Proofs.YtebjldgaibagpaaDoor
