/- The walk of 'FifoFull'. -/
import Derived.Test.YtpcoffpdkfbhdaaFk
import Derived.Test.YtpcoffpdkfbhdaaFi
namespace Go.Proofs.Ytpcoffpdkfbhdaa
open Go.RowKit

def mfull (j : Nat) : List Ent := (List.range j).map fun i => Ent.mk i (i % 3) i
theorem mfull_succ (j : Nat) : mfull (j + 1) = mfull j ++ [Ent.mk j (j % 3) j] := by unfold mfull; rw [List.range_succ]; simp
theorem mfull_len (j : Nat) : (mfull j).length = j := by simp [mfull]

theorem rows3 : ∀ (m : List Ent), (∀ e ∈ m, e.row < 3) → (rowOf m 0).length + (rowOf m 1).length + (rowOf m 2).length = m.length
  | [], _ => rfl
  | e :: m, h => by
    have ih := rows3 m fun e' he => h e' (List.mem_cons_of_mem _ he)
    have he := h e (List.mem_cons_self ..)
    unfold rowOf at *
    match hr : e.row, he with
    | 0, _ | 1, _ | 2, _ => simp [List.filter_cons, hr] at ih ⊢; omega

def R1 (n : Nat) (a bc br : Nat) (O : Nat → Bool) (w1 : World) (i : Value) (wr : World) : Prop :=
  ∃ (j : Nat) (S : Ar) (fa : Option Addr) (fc : Nat), j ≤ n ∧ i = .int .i64 j ∧ ArAt wr a bc br fa fc S O ∧ Inv S (mfull j) [] j ∧ S.N = n ∧ S.R = 3 ∧ Grows O O w1 wr

set_option maxHeartbeats 2000000 in
set_option maxRecDepth 100000 in
theorem full_any (c0 o0 : Int) (w0 : (Lit.int .u8 c0).wf = true) (w1 : (Lit.int .u8 o0).wf = true) (w : World) :
    Calls Try.prog 4 #[.int .u8 c0, .int .u8 o0] w (FinPost w) := by
  obtain ⟨l0, u0⟩ := u8_bd w0
  obtain ⟨l1, u1⟩ := u8_bd w1
  clear w0 w1
  go_enter Try.func4, Try.ntmps4
  go_wp2_with fail
  refine (known_any w).mono ?_
  rintro e w1 ⟨rfl, k1⟩
  go_wp2_with fail
  obtain ⟨n, hn⟩ : ∃ n : Nat, 1 + c0 % 60 = n := ⟨(1 + c0 % 60).toNat, by omega⟩
  have hn1 : 1 ≤ n ∧ n ≤ 60 := by omega
  rw [hn]
  clear hn
  refine (new_good' 3 n rfl rfl (by decide) (by omega)).mono ?_
  rintro e w2 ⟨a, bc, br, fa, fc, O, rfl, h1, hk, hO⟩
  have HO := Lib.hid hO
  clear hO
  go_wp2_with fail
  have hstart : R1 n a bc br O w2 (.int .i64 0) w2 := ⟨0, _, fa, fc, Nat.zero_le _, rfl, h1, Inv.new 3 n (by omega), rfl, rfl, Grows.refl _ _⟩
  clear h1
  go_loopw [8] (fun i wr => R1 n a bc br O w2 i wr) (fun i _ => n - (intOf i).toNat)
  case atStart => exact hstart
  case round =>
    obtain ⟨j, S, fa', fc', hj, rfl, hA, hI, hN, hR, hg⟩ := hrel
    clear hstart
    by_cases hlt : j < n
    · have hcan := hI.can (r := j % 3) (by rw [hR]; omega) (by rw [mfull_len, hN]; omega)
      have hpush := hI.push (r := j % 3) (by rw [hR]; omega) (by rw [mfull_len, hN]; omega) j
      have htake := takeI_of hI
      obtain ⟨pN, pR⟩ := push_NR S (j % 3) j
      have hmod : ((j : Int) % 3) = ((j % 3 : Nat) : Int) := by omega
      have Hcan := Lib.hid hcan
      have Hpush := Lib.hid hpush
      have Htake := Lib.hid htake
      have Hmod := Lib.hid hmod
      have HN : Hid (S.N = n) := hN
      have HR : Hid (S.R = 3) := hR
      have HpN : Hid _ := pN
      have HpR : Hid _ := pR
      clear hcan hpush htake hmod hI hN hR pN pR
      go_wp2_with fail
      refine (push_in' hA (j % 3) Hmod.out j Hcan.out _ rfl j (Htake.out.trans rfl)).mono ?_
      rintro e w3 ⟨fa3, fc3, rfl, h3, g3⟩
      go_wp2
      exact ⟨⟨j + 1, _, fa3, fc3, hlt, by go_num, h3, by rw [mfull_succ]; exact Hpush.out, by rw [HpN.out, HN.out], by rw [HpR.out, HR.out], hg.trans g3⟩, by simp [intOf]; omega⟩
    · obtain rfl : j = n := by omega
      have hfull : S.freeI = 0 := by rw [freeI_of hI, mfull_len, hN]; omega
      have hin0 : S.inB 0 = true := by simp [Ar.inB, hR]
      have Hfull := Lib.hid hfull
      have Hin0 := Lib.hid hin0
      obtain ⟨k, hk'⟩ : ∃ k : Nat, o0 % (j : Int) = k := ⟨(o0 % (j : Int)).toNat, by have := Int.emod_nonneg o0 (show (j : Int) ≠ 0 by omega); omega⟩
      have hkj : k < j := by have := Int.emod_lt_of_pos o0 (show (0 : Int) < j by omega); omega
      have Hk := Lib.hid hk'
      have hmem : Ent.mk k (k % 3) k ∈ mfull j := by unfold mfull; exact List.mem_map.2 ⟨k, List.mem_range.2 hkj, rfl⟩
      obtain ⟨m1, m2, hm⟩ := List.append_of_mem hmem
      have hI' := hI
      rw [hm] at hI'
      have hhas := hI'.has
      have hrem := hI'.remove
      obtain ⟨rN, rR⟩ := remove_NR S k
      have hml : (m1 ++ m2).length + 1 = j := by have := mfull_len j; rw [hm] at this; simp at this ⊢; omega
      have hcan2 := hrem.can (r := 2) (by rw [rR, hR]; decide) (by rw [rN, hN]; omega)
      have hpush2 := hrem.push (r := 2) (by rw [rR, hR]; decide) (by rw [rN, hN]; omega) 99
      have htake2 := takeI_of hrem
      obtain ⟨pN, pR⟩ := push_NR (S.removeS k) 2 99
      generalize hS2 : (S.removeS k).pushS 2 99 = S2 at hpush2 pN pR
      have hpick : pickC [k] j = k := rfl
      simp only [List.nil_append] at hpush2 htake2 hcan2 hrem
      rw [hpick] at htake2 hpush2
      have hval := hpush2.valI (e := Ent.mk k 2 99) (by simp)
      have htk := hpush2.taken (e := Ent.mk k 2 99) (by simp)
      have hfree2 : S2.freeI = 0 := by rw [freeI_of hpush2, pN, rN, hN]; simp at hml ⊢; omega
      have hl0 := hpush2.lenI (r := 0) (by rw [pR, rR, hR]; decide)
      have hl1 := hpush2.lenI (r := 1) (by rw [pR, rR, hR]; decide)
      have hl2 := hpush2.lenI (r := 2) (by rw [pR, rR, hR]; decide)
      have hsum := rows3 _ fun e he => by have := (hpush2.ent he).2.2.2; rw [pR, rR, hR] at this; exact this
      have hl0' : S2.lenI 0 = ((rowOf (m1 ++ m2 ++ [Ent.mk k 2 99]) 0).length : Int) := hl0
      have hl1' : S2.lenI 1 = ((rowOf (m1 ++ m2 ++ [Ent.mk k 2 99]) 1).length : Int) := hl1
      have hl2' : S2.lenI 2 = ((rowOf (m1 ++ m2 ++ [Ent.mk k 2 99]) 2).length : Int) := hl2
      have hml2 : (m1 ++ m2 ++ [Ent.mk k 2 99]).length = j := by simp at hml ⊢; omega
      have hsum' : S2.lenI 0 + S2.lenI 1 + S2.lenI 2 = j := by omega
      have b0 : 0 ≤ S2.lenI 0 ∧ 0 ≤ S2.lenI 1 ∧ 0 ≤ S2.lenI 2 := by omega
      have Hhas := Lib.hid hhas
      have Hcan2 := Lib.hid hcan2
      have Htake2 := Lib.hid htake2
      have HS2 := Lib.hid hS2
      have Hval : Hid (S2.valI k = 99) := hval
      have Htk : Hid (S2.takenB k = true) := htk
      have Hfree2 := Lib.hid hfree2
      have Hsum := Lib.hid hsum'
      clear hhas hcan2 htake2 hS2 hval htk hfree2 hl0 hl1 hl2 hl0' hl1' hl2' hsum hml2 hml hpush2 hrem hI' hI hm hmem hfull hin0 hk' hN hR pN pR rN rR hpick
      go_wp2_with fail
      refine (push_full hA 0 7 Hin0.out Hfull.out).mono ?_
      rintro e w' ⟨⟨q, rfl⟩, rfl⟩
      go_wp2_with fail
      rw [Hk.out]
      refine (remove_yes' (hA.drewN q) k (k % 3) rfl Hhas.out _ rfl).mono ?_
      rintro e w3 ⟨fa3, fc3, O3, rfl, h3, g3⟩
      go_wp2_with fail
      refine (push_in' h3 2 rfl 99 Hcan2.out _ HS2.out k Htake2.out).mono ?_
      rintro e w4 ⟨fa4, fc4, rfl, h4, g4⟩
      go_wp2_with fail
      refine (value_any h4 k).mono ?_
      rintro e w' ⟨rfl, rfl⟩
      rw [Hval.out, Htk.out]
      go_wp2_with fail
      refine (free_any h4).mono ?_
      rintro e w' ⟨q2, rfl, rfl⟩
      rw [Hfree2.out]
      go_wp2_with fail
      refine (len_any (h4.drewN q2) 0).mono ?_
      rintro e w' ⟨rfl, rfl⟩
      go_wp2_with fail
      refine (len_any (h4.drewN q2) 1).mono ?_
      rintro e w' ⟨rfl, rfl⟩
      go_wp2_with fail
      refine (len_any (h4.drewN q2) 2).mono ?_
      rintro e w' ⟨rfl, rfl⟩
      have hs := Hsum.out
      have hfin : (S2.lenI 0 + S2.lenI 1 + S2.lenI 2 == (j : Int)) = true := beq_iff_eq.2 hs
      have hlt' : S2.lenI 0 + S2.lenI 1 ≤ 1000 ∧ S2.lenI 0 + S2.lenI 1 + S2.lenI 2 ≤ 1000 := by omega
      clear hs
      go_wp2_with fail
      go_ret
      exact ⟨rfl, k1.trans ((kept_new hk HO.out (hg.trans (g3.of_drewN.trans g4))).drewN _)⟩
end Go.Proofs.Ytpcoffpdkfbhdaa
