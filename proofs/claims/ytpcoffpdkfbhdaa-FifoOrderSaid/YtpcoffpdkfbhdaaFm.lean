/- The walk of 'FifoOrder'. -/
import Derived.Test.YtpcoffpdkfbhdaaFk
import Derived.Test.YtpcoffpdkfbhdaaFi
namespace Go.Proofs.Ytpcoffpdkfbhdaa
open Go.RowKit

def entO (rw : Nat → Nat) (i : Nat) : Ent := ⟨i, rw i, i⟩
/-- What is put in the first j rounds. -/
def mPut (rw : Nat → Nat) (j : Nat) : List Ent := (List.range j).map (entO rw)
/-- What is still there in row r's round i. -/
def stay (rw : Nat → Nat) (r i : Nat) (k : Nat) : Bool := decide (r < rw k) || (decide (rw k = r) && decide (i ≤ k))
def mOut (rw : Nat → Nat) (len r i : Nat) : List Ent := ((List.range len).filter (stay rw r i)).map (entO rw)

theorem mPut_succ (rw : Nat → Nat) (j : Nat) : mPut rw (j + 1) = mPut rw j ++ [entO rw j] := by unfold mPut; rw [List.range_succ]; simp
theorem mPut_len (rw : Nat → Nat) (j : Nat) : (mPut rw j).length = j := by simp [mPut]
theorem mOut_start (rw : Nat → Nat) (len : Nat) : mOut rw len 0 0 = mPut rw len := by
  unfold mOut mPut
  rw [List.filter_eq_self.2]
  intro k _
  simp [stay]; omega
theorem mOut_next (rw : Nat → Nat) (len r : Nat) : mOut rw len r len = mOut rw len (r + 1) 0 := by
  unfold mOut
  congr 1
  refine List.filter_congr fun k hk => ?_
  have := List.mem_range.1 hk
  rw [Bool.eq_iff_iff]; simp [stay]; omega
theorem mOut_none (rw : Nat → Nat) (len r : Nat) (h : ∀ k, rw k < r) : mOut rw len r 0 = [] := by
  unfold mOut
  rw [List.map_eq_nil_iff, List.filter_eq_nil_iff]
  intro k _
  have := h k
  simp [stay]; omega
theorem range_split {i len : Nat} (h : i < len) : ∃ l2 : List Nat, List.range len = List.range i ++ i :: l2 ∧ ∀ k ∈ l2, i < k := by
  refine ⟨(List.range (len - i - 1)).map (fun x => i + (x + 1)), ?_, fun k hk => by obtain ⟨x, _, rfl⟩ := List.mem_map.1 hk; omega⟩
  conv => lhs; rw [show len = i + (len - i - 1 + 1) by omega, List.range_add, List.range_succ_eq_map]
  simp [Function.comp_def]
theorem mOut_other (rw : Nat → Nat) (len r i : Nat) (hr : rw i ≠ r) : mOut rw len r i = mOut rw len r (i + 1) := by
  unfold mOut
  congr 1
  refine List.filter_congr fun k hk => ?_
  rw [Bool.eq_iff_iff]
  by_cases e : k = i
  · subst e; simp [stay, hr]
  · simp [stay]; omega
theorem mOut_this (rw : Nat → Nat) (len r i : Nat) (hi : i < len) (hr : rw i = r) : ∃ m1 m2, mOut rw len r i = m1 ++ entO rw i :: m2 ∧ mOut rw len r (i + 1) = m1 ++ m2 ∧ rowOf m1 r = [] := by
  obtain ⟨l2, hl, hl2⟩ := range_split hi
  refine ⟨((List.range i).filter (stay rw r i)).map (entO rw), (l2.filter (stay rw r i)).map (entO rw), ?_, ?_, ?_⟩
  · unfold mOut
    rw [hl, List.filter_append, List.filter_cons_of_pos (by simp [stay, hr]), List.map_append]; rfl
  · unfold mOut
    rw [hl, List.filter_append, List.filter_cons_of_neg (by simp [stay, hr]), List.map_append]
    congr 2
    · refine List.filter_congr fun k hk => ?_
      have := List.mem_range.1 hk
      rw [Bool.eq_iff_iff]; simp [stay]; omega
    · refine List.filter_congr fun k hk => ?_
      have := hl2 k hk
      rw [Bool.eq_iff_iff]; simp [stay]; omega
  · unfold rowOf
    rw [List.map_eq_nil_iff, List.filter_eq_nil_iff]
    intro e he
    obtain ⟨k, hk, rfl⟩ := List.mem_map.1 he
    obtain ⟨hk1, hk2⟩ := List.mem_filter.1 hk
    have := List.mem_range.1 hk1
    simp [stay] at hk2
    simp [entO]; omega
theorem mOut_len (rw : Nat → Nat) (len r i : Nat) : (mOut rw len r i).length ≤ len := by
  unfold mOut; rw [List.length_map]
  have := List.length_filter_le (stay rw r i) (List.range len)
  simpa using this
theorem mOut_row (rw : Nat → Nat) (len r : Nat) : rowOf (mOut rw len (r + 1) 0) r = [] := by
  unfold rowOf mOut
  rw [List.map_eq_nil_iff, List.filter_eq_nil_iff]
  intro e he
  obtain ⟨k, hk, rfl⟩ := List.mem_map.1 he
  obtain ⟨hk1, hk2⟩ := List.mem_filter.1 hk
  simp [stay] at hk2
  simp [entO]; omega

structure Q (rw : Nat → Nat) (a bc br : Nat) (O1 : Nat → Bool) (w1 : World) (m : List Ent) (free : List Nat) (next : Nat) (S : Ar) (fa : Option Addr) (fc : Nat) (O : Nat → Bool) (wr : World) : Prop where
  ar : ArAt wr a bc br fa fc S O
  inv : Inv S m free next
  N : S.N = 100
  R : S.R = 8
  g : Grows O1 O w1 wr

def QP (rw : Nat → Nat) (a bc br : Nat) (O1 : Nat → Bool) (w1 : World) (len : Nat) (i : Value) (wr : World) : Prop :=
  ∃ (j : Nat) (S : Ar) (fa : Option Addr) (fc : Nat), j ≤ len ∧ i = .int .i64 j ∧ Q rw a bc br O1 w1 (mPut rw j) [] j S fa fc O1 wr
def QR (rw : Nat → Nat) (a bc br : Nat) (O1 : Nat → Bool) (w1 : World) (len : Nat) (rv : Value) (wr : World) : Prop :=
  ∃ (r : Nat) (S : Ar) (fa : Option Addr) (fc : Nat) (O : Nat → Bool) (free : List Nat), r ≤ 8 ∧ rv = .int .i64 r ∧ Q rw a bc br O1 w1 (mOut rw len r 0) free len S fa fc O wr
def QI (rw : Nat → Nat) (a bc br : Nat) (O1 : Nat → Bool) (w1 : World) (len r : Nat) (iv : Value) (wr : World) : Prop :=
  ∃ (i : Nat) (S : Ar) (fa : Option Addr) (fc : Nat) (O : Nat → Bool) (free : List Nat), i ≤ len ∧ iv = .int .i64 i ∧ Q rw a bc br O1 w1 (mOut rw len r i) free len S fa fc O wr

set_option maxHeartbeats 2000000 in
set_option maxRecDepth 100000 in
theorem order_any (a0 : Option Addr) (b off len cap : Nat) (zs : List Int) (w : World) (ha : 0 < len → a0 = some ⟨b, off, none⟩ ∧ b < w.heap.size) (hlen : len ≤ 100) (hz : len ≤ zs.length)
    (hc : ∀ i, i < zs.length → w.cell? ⟨b, off + i, none⟩ = some (.int .u8 (zs.getD i 0))) (hwf : ∀ n ∈ zs, 0 ≤ n ∧ n ≤ 255) :
    Calls Try.prog 5 #[.slice a0 len cap] w (FinPost w) := by
  obtain ⟨rw, hrw, hrw8⟩ : ∃ rw : Nat → Nat, (∀ i, zs.getD i 0 % 8 = rw i) ∧ ∀ i, rw i < 8 :=
    ⟨fun i => (zs.getD i 0 % 8).toNat, fun i => by show _ = (((zs.getD i 0 % 8).toNat : Nat) : Int); omega, fun i => by show (zs.getD i 0 % 8).toNat < 8; omega⟩
  have Hrw := Lib.hid hrw
  have Hrw8 := Lib.hid hrw8
  have Hc := Lib.hid hc
  have Hwf := Lib.hid hwf
  have Ha := Lib.hid ha
  clear hc hwf ha hrw hrw8
  go_enter Try.func5, Try.ntmps5
  go_wp2_with fail
  refine (known_any w).mono ?_
  rintro e w1 ⟨rfl, k1⟩
  go_wp2_with fail
  refine (new_good' 8 100 rfl rfl (by decide) (by decide)).mono ?_
  rintro e w2 ⟨a, bc, br, fa, fc, O, rfl, h1, hk, hO⟩
  have HO := Lib.hid hO
  clear hO
  have hbel0 : Kept (fun _ => False) w w2 := k1.trans hk
  have Hbel0 := Lib.hid hbel0
  clear hbel0
  go_wp2_with fail
  have hstart : QP rw a bc br O w2 len (.int .i64 0) w2 := ⟨0, _, fa, fc, Nat.zero_le _, rfl, h1, Inv.new 8 100 (by decide), rfl, rfl, Grows.refl _ _⟩
  clear h1
  go_loopw [5] (fun i wr => QP rw a bc br O w2 len i wr) (fun i _ => len - (intOf i).toNat)
  case atStart => exact hstart
  case round =>
    obtain ⟨j, S, fa', fc', hj, rfl, hA, hI, hN, hR, hg⟩ := hrel
    clear hstart
    by_cases hlt : j < len
    · obtain ⟨rfl, hb⟩ := Ha.out (by omega)
      have hmem := Hwf.out (zs.getD j 0) (by rw [List.getD, List.getElem?_eq_getElem (by omega)]; exact List.getElem_mem _)
      have hbw := (Hbel0.out.trans' (G := fun i => O i = true) hg.kept (fun i hi hG => by rw [HO.out i (Nat.lt_of_lt_of_le hi k1.size)] at hG; cases hG)).block b hb (fun h => h)
      have hcell : wr.cell? ⟨b, off + j, none⟩ = some (.int .u8 (zs.getD j 0)) := by rw [World.cell?_of_block (a := ⟨b, off + j, none⟩) (w := w) hbw]; exact Hc.out j (by omega)
      have hm := Hrw.out j
      have hm8 := Hrw8.out j
      generalize zs.getD j 0 = z at hmem hcell hm
      have Hm := Lib.hid hm
      have hcan := hI.can (r := rw j) (by rw [hR]; omega) (by rw [mPut_len, hN]; omega)
      have hpush := hI.push (r := rw j) (by rw [hR]; omega) (by rw [mPut_len, hN]; omega) j
      have htake := takeI_of hI
      obtain ⟨pN, pR⟩ := push_NR S (rw j) j
      have Hcan := Lib.hid hcan
      have Hpush := Lib.hid hpush
      have Htake := Lib.hid htake
      have HN : Hid (S.N = 100) := hN
      have HR : Hid (S.R = 8) := hR
      have HpN : Hid _ := pN
      have HpR : Hid _ := pR
      clear hm hbw hcan hpush htake hI hN hR pN pR
      go_wp2_with fail
      rw [Hm.out]
      refine (push_in' hA (rw j) rfl j Hcan.out _ rfl j (Htake.out.trans rfl)).mono ?_
      rintro e w3 ⟨fa3, fc3, rfl, h3, g3⟩
      clear hcell
      go_wp2
      exact ⟨⟨j + 1, _, fa3, fc3, hlt, by go_num, h3, by rw [mPut_succ]; exact Hpush.out, by rw [HpN.out, HN.out], by rw [HpR.out, HR.out], hg.trans g3⟩, by simp [intOf]; omega⟩
    · obtain rfl : j = len := by omega
      go_wp2_with fail
      have hstart2 : QR rw a bc br O w2 j (.int .i64 0) wr := ⟨0, S, fa', fc', O, [], by omega, rfl, hA, by rw [mOut_start]; exact hI, hN, hR, hg⟩
      clear hA hI hN hR hg
      go_loopw [8] (fun rv wr => QR rw a bc br O w2 j rv wr) (fun rv _ => 8 - (intOf rv).toNat)
      case atStart => exact hstart2
      case round =>
        obtain ⟨r, S, fa', fc', O3, free, hr, rfl, hA, hI, hN, hR, hg⟩ := hrel
        clear hstart2
        by_cases hlt2 : r < 8
        · have hb8 : decide ((r : Int) < 8) = true := decide_eq_true (by omega)
          go_wp2_with fail
          have hstart3 : QI rw a bc br O w2 j r (.int .i64 0) wr := ⟨0, S, fa', fc', O3, free, by omega, rfl, hA, hI, hN, hR, hg⟩
          clear hA hI hN hR hg
          go_loopw [9] (fun iv wr => QI rw a bc br O w2 j r iv wr) (fun iv _ => j - (intOf iv).toNat)
          case atStart => exact hstart3
          case round =>
            obtain ⟨i, S, fa', fc', O3, free, hi, rfl, hA, hI, hN, hR, hg⟩ := hrel
            clear hstart3
            by_cases hlt3 : i < j
            · obtain ⟨rfl, hb⟩ := Ha.out (by omega)
              have hmem := Hwf.out (zs.getD i 0) (by rw [List.getD, List.getElem?_eq_getElem (by omega)]; exact List.getElem_mem _)
              have hbw := (Hbel0.out.trans' (G := fun i => O i = true) hg.kept (fun i hi hG => by rw [HO.out i (Nat.lt_of_lt_of_le hi k1.size)] at hG; cases hG)).block b hb (fun h => h)
              have hcell : wr.cell? ⟨b, off + i, none⟩ = some (.int .u8 (zs.getD i 0)) := by rw [World.cell?_of_block (a := ⟨b, off + i, none⟩) (w := w) hbw]; exact Hc.out i (by omega)
              have hm := Hrw.out i
              generalize zs.getD i 0 = z at hmem hcell hm
              clear hbw
              by_cases hri : rw i = r
              · have hne : ((z % 8) != (r : Int)) = false := by rw [hm, hri]; simp
                obtain ⟨m1, m2, e1, e2, e3⟩ := mOut_this rw j r i hlt3 hri
                have hml := mOut_len rw j r i
                have hI' := hI
                rw [e1] at hI'
                have hfr := hI'.front (r := r) (by rw [hR]; exact hlt2)
                have hrw1 : (entO rw i).row = r := hri
                rw [rowOf_mid, if_pos hrw1, e3] at hfr
                have hf1 : S.frontI r = i := hfr.1
                have hf2 : S.frontB r = true := hfr.2
                have hv : S.valI i = i := hI'.valI (e := entO rw i) (by simp)
                have ht : S.takenB i = true := hI'.taken (e := entO rw i) (by simp)
                have hhas := hI'.has
                have hrem := hI'.remove
                obtain ⟨rN, rR⟩ := remove_NR S i
                have Hf1 := Lib.hid hf1
                have Hf2 := Lib.hid hf2
                have Hv := Lib.hid hv
                have Ht := Lib.hid ht
                have Hhas : Hid (S.Has i (rw i)) := hhas
                have Hrem : Hid (Inv (S.removeS i) (mOut rw j r (i + 1)) (free ++ [i]) j) := by rw [e2]; exact hrem
                have HN : Hid (S.N = 100) := hN
                have HR : Hid (S.R = 8) := hR
                have HrN : Hid _ := rN
                have HrR : Hid _ := rR
                clear hfr hf1 hf2 hv ht hhas hrem hI' hI e1 e2 e3 hN hR rN rR hm hri hrw1 hml
                go_wp2_with fail
                refine (front_any hA r).mono ?_
                rintro e w' ⟨rfl, rfl⟩
                rw [Hf1.out, Hf2.out]
                go_wp2_with fail
                refine (value_any hA i).mono ?_
                rintro e w' ⟨rfl, rfl⟩
                rw [Hv.out, Ht.out]
                go_wp2_with fail
                refine (remove_yes' hA i (rw i) rfl Hhas.out _ rfl).mono ?_
                rintro e w3 ⟨fa3, fc3, O4, rfl, h3, g3⟩
                clear hcell
                have HQ : Hid (QI rw a bc br O w2 j r (.int .i64 ((i : Int) + 1)) w3) := ⟨i + 1, _, fa3, fc3, O4, free ++ [i], hlt3, by go_num, h3, Hrem.out, by rw [HrN.out, HN.out], by rw [HrR.out, HR.out], hg.trans g3⟩
                go_wp2
                refine ⟨?_, by simp [intOf]; omega⟩
                first
                  | exact HQ.out
                  | ((repeat apply Exists.intro); exact ⟨HQ.out, rfl⟩)
              · have hne : ((z % 8) != (r : Int)) = true := by rw [hm, bne_iff_ne]; omega
                have hoth := mOut_other rw j r i hri
                have Hoth := Lib.hid hoth
                have HI := Lib.hid hI
                have HN : Hid (S.N = 100) := hN
                have HR : Hid (S.R = 8) := hR
                clear hoth hI hN hR hm hri
                go_wp2
                exact ⟨⟨i + 1, S, fa', fc', O3, free, hlt3, by go_num, hA, by rw [← Hoth.out]; exact HI.out, HN.out, HR.out, hg⟩, by simp [intOf]; omega⟩
            · obtain rfl : i = j := by omega
              have hrow := mOut_row rw i r
              have hI' := hI
              rw [mOut_next] at hI'
              have hfr := hI'.front (r := r) (by rw [hR]; exact hlt2)
              have hle := hI'.lenI (r := r) (by rw [hR]; exact hlt2)
              rw [hrow] at hfr hle
              have hf1 : S.frontI r = 0 := hfr.1
              have hf2 : S.frontB r = false := hfr.2
              have hl : S.lenI r = 0 := hle
              have Hf1 := Lib.hid hf1
              have Hf2 := Lib.hid hf2
              have Hl := Lib.hid hl
              have HI := Lib.hid hI'
              have HN : Hid (S.N = 100) := hN
              have HR : Hid (S.R = 8) := hR
              clear hrow hI hI' hfr hle hf1 hf2 hl hN hR
              go_wp2_with fail
              refine (front_any hA r).mono ?_
              rintro e w' ⟨rfl, rfl⟩
              rw [Hf1.out, Hf2.out]
              go_wp2_with fail
              refine (len_any hA r).mono ?_
              rintro e w' ⟨rfl, rfl⟩
              rw [Hl.out]
              go_wp2
              exact ⟨⟨r + 1, S, fa', fc', O3, free, hlt2, by go_num, hA, HI.out, HN.out, HR.out, hg⟩, by simp [intOf]; omega⟩
        · obtain rfl : r = 8 := by omega
          rw [mOut_none rw j 8 Hrw8.out] at hI
          have hfree : S.freeI = 100 := by rw [freeI_of hI, hN]; rfl
          have Hfree := Lib.hid hfree
          clear hfree hI hN hR
          go_wp2_with fail
          refine (free_any hA).mono ?_
          rintro e w' ⟨q, rfl, rfl⟩
          rw [Hfree.out]
          go_wp2_with fail
          go_ret
          exact ⟨rfl, (Hbel0.out.trans' (G := fun i => O i = true) (hg.drewN q).kept (fun i hi hG => by rw [HO.out i (Nat.lt_of_lt_of_le hi k1.size)] at hG; cases hG))⟩

theorem order_long (a : Option Addr) (len cap : Nat) (w : World) (h : 100 < len) (hm : len ≤ maxLen) : Calls Try.prog 5 #[.slice a len cap] w (FinPost w) := by
  unfold maxLen at hm
  go_enter Try.func5, Try.ntmps5
  go_wp2_with fail
  refine (known_any w).mono ?_
  rintro e w1 ⟨rfl, k1⟩
  go_wp2_with fail
  go_ret
  exact ⟨rfl, k1⟩
end Go.Proofs.Ytpcoffpdkfbhdaa
