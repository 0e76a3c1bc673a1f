/- Numbers: a number in words, by the reference. -/
import Derived.Test.YtebjldgaibagpaaDoorNf
import Derived.Lib.SmallJoins
import Derived.Lib.ItoaLen
namespace Go.Proofs.YtebjldgaibagpaaDoor
open Go Go.RowKit

/-- What is not yet written. -/
def preD (u : Nat) : List UInt8 := if u < 10 then [] else Lib.decDigits (u / 10)

theorem dec_eq (u : Nat) : Lib.decDigits u = if u < 10 then [UInt8.ofNat (48 + u)] else Lib.decDigits (u / 10) ++ [UInt8.ofNat (48 + u % 10)] := by
  rw [Lib.decDigits]
  split <;> rfl

theorem preD_first (u : Nat) : preD u ++ [UInt8.ofNat (48 + u % 10)] = Lib.decDigits u := by
  unfold preD
  rw [dec_eq u]
  split
  · rename_i h; rw [Nat.mod_eq_of_lt h]; rfl
  · rfl

theorem preD_next {u : Nat} (h : 10 ≤ u) : preD u = preD (u / 10) ++ [UInt8.ofNat (48 + u / 10 % 10)] := by
  rw [preD_first, preD, if_neg (by omega)]

theorem conv1 (w : World) (z : Int) (h0 : 0 ≤ z) (h1 : z < 10) :
    (convert 43 9 (.slice (some ⟨w.heap.size, 0, none⟩) 1 1)).run Tryd.prog (w.alloc (.cells #[.int .u8 (48 + z)] 5)) = .ok (.string ⟨#[UInt8.ofNat (48 + z.toNat)]⟩) (w.alloc (.cells #[.int .u8 (48 + z)] 5)) := by
  have e : ((UInt8.ofNat (48 + z.toNat)).toNat : Int) = 48 + z := by
    rw [UInt8.toNat_ofNat']; omega
  refine run_convert_bytes_back (w.alloc (.cells #[.int .u8 (48 + z)] 5)) 43 9 5 ⟨w.heap.size, 0, none⟩ 1 [UInt8.ofNat (48 + z.toNat)] Tryd.underlying43 Tryd.underlying5 Tryd.underlying9 ?_
  intro j hj
  obtain rfl : j = 0 := by simpa using hj
  show (w.alloc (.cells #[.int .u8 (48 + z)] 5)).cell? ⟨w.heap.size, 0, none⟩ = _
  rw [World.cell?_alloc_at _ _ _ _ rfl]
  simp only [List.getElem_cons_zero]
  rw [e]
  rfl

theorem ba_eq {a b : ByteArray} (h : a.data.toList = b.data.toList) : a = b := by
  obtain ⟨⟨x⟩⟩ := a
  obtain ⟨⟨y⟩⟩ := b
  simp at h
  rw [h]

def TextRel (U : Nat) (w : World) (s3 s4 : Value) (wr : World) : Prop :=
  ∃ (u : Int) (t : ByteArray), s3 = .int .u64 u ∧ s4 = .string t ∧ 0 ≤ u ∧ u ≤ 9223372036854775808 ∧ preD u.toNat ++ t.data.toList = Lib.decDigits U ∧ Below w.heap.size w wr

set_option maxHeartbeats 2000000 in
set_option maxRecDepth 100000 in
theorem text_ref (n : Int) (hn : I64 n) (w : World) :
    Calls Tryd.prog 23 #[.int .i64 n] w fun e w' => e = .returned (.string ⟨(Lib.itoa n).toArray⟩) ∧ Below w.heap.size w w' := by
  have hx := size_ref n hn w
  obtain ⟨u, hu⟩ : ∃ u : Int, (n.natAbs : Int) = u := ⟨_, rfl⟩
  rw [hu] at hx
  have hx := Lib.hid hx
  have hcv := conv1 w (u % 10) (by omega) (by omega)
  have p0 : 0 ≤ u := by omega
  have p1 : u ≤ 9223372036854775808 := by unfold I64 at hn; omega
  have hU : Hid (u.toNat = n.natAbs) := by show u.toNat = n.natAbs; omega
  have hlen : Hid ((Lib.decDigits u.toNat).length ≤ 21) := by
    have := Lib.itoa_length_le n hn.1 hn.2
    have e1 : u.toNat = n.natAbs := by omega
    show (Lib.decDigits u.toNat).length ≤ 21
    rw [e1]
    unfold Lib.itoa at this
    split at this
    · simp at this; omega
    · have e2 : n.toNat = n.natAbs := by omega
      rw [e2] at this; exact this
  clear hu hn
  have hp := Lib.hid (preD_first u.toNat)
  generalize hc0 : UInt8.ofNat (48 + (u % 10).toNat) = c0 at hcv
  have hc0 := Lib.hid hc0
  have hstart : TextRel u.toNat w (.int .u64 u) (.string ⟨#[c0]⟩) (w.alloc (.cells #[.int .u8 (48 + u % 10)] 5)) := by
    refine ⟨u, _, rfl, rfl, p0, p1, ?_, (Below.refl _ _).alloc (Nat.le_refl _) _⟩
    rw [← hp.out, ← hc0.out]
    have e : (u % 10).toNat = u.toNat % 10 := by omega
    rw [e]
  have hstart := Lib.hid hstart
  clear hp hc0
  go_enter Tryd.func23, Tryd.ntmps23
  go_wp2_with fail
  refine hx.out.mono ?_
  rintro e w1 ⟨rfl, rfl⟩
  clear hx
  go_wp2_with fail
  go_loopw [3, 4] (fun s3 s4 wr => TextRel u.toNat w1 s3 s4 wr) (fun s3 _ _ => (intOf s3).toNat)
  case atStart => exact hstart.out
  case round =>
    obtain ⟨v, t, rfl, rfl, v0, v1, ht, hb⟩ := hrel
    clear hstart hcv
    have Hb := Lib.hid hb
    have Ht := Lib.hid ht
    have hts : t.size ≤ 21 := by
      have h1 := hlen.out
      have h2 := Lib.size_eq t
      rw [← ht] at h1
      simp at h1
      have h3 : t.data.toList.length = t.data.size := Array.length_toList
      omega
    clear hb ht
    by_cases h10 : 10 ≤ v
    · have hcv := conv1 wr (v / 10 % 10) (by omega) (by omega)
      generalize hc0 : UInt8.ofNat (48 + (v / 10 % 10).toNat) = c1 at hcv
      have hc0 := Lib.hid hc0
      have hm : Hid ((v / 10).toNat < v.toNat) := by show (v / 10).toNat < v.toNat; omega
      have hrel2 : Hid (TextRel u.toNat w1 (.int .u64 (v / 10)) (.string (⟨#[c1]⟩ ++ t)) (wr.alloc (.cells #[.int .u8 (48 + v / 10 % 10)] 5))) := by
        refine ⟨v / 10, _, rfl, rfl, by omega, by omega, ?_, Hb.out.alloc (by have := Hb.out.size; exact this) _⟩
        rw [Joins.data_append, ← Ht.out, preD_next (u := v.toNat) (by omega), ← hc0.out]
        have e1 : (v / 10).toNat = v.toNat / 10 := by omega
        have e2 : (v / 10 % 10).toNat = v.toNat / 10 % 10 := by omega
        rw [e1, e2]
        simp
      have q1 : IntKind.u64.wrap (v.tdiv 10) = v / 10 := IntWalk.u64_quo v 10 ⟨v0, by omega, by decide⟩
      have q2 : 0 ≤ v / 10 := by omega
      have q3 : v / 10 ≤ 922337203685477580 := by omega
      clear hc0
      go_wp2
      exact ⟨hrel2.out, by have := hm.out; simp [intOf]; omega⟩
    · have hp : t.data.toList = Lib.decDigits u.toNat := by
        have := Ht.out
        rw [preD, if_pos (by omega)] at this
        simpa using this
      by_cases hneg : n < 0
      · have E : Hid (Lib.itoa n = 45 :: t.data.toList) := by
          show Lib.itoa n = 45 :: t.data.toList
          rw [Lib.itoa, if_pos hneg, hp, hU.out]
        clear hp
        go_wp2
        go_ret
        refine ⟨?_, Hb.out⟩
        have e : (⟨#[45]⟩ : ByteArray) ++ t = ⟨(45 :: t.data.toList).toArray⟩ := ba_eq (by rw [Joins.data_append]; rfl)
        rw [E.out, ← e]
        rfl
      · have E : Hid (Lib.itoa n = t.data.toList) := by
          show Lib.itoa n = t.data.toList
          rw [Lib.itoa, if_neg hneg, hp, hU.out]
          congr 1; omega
        clear hp
        go_wp2
        go_ret
        refine ⟨?_, Hb.out⟩
        rw [E.out]
        rfl
end Go.Proofs.YtebjldgaibagpaaDoor
