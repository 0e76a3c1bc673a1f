/- The walks of the switch: the count. -/
import Derived.Test.YtpcacnlkhicekaaKb
namespace Go.Proofs.Ytpcacnlkhicekaa
open Go.RowKit

def inW (W now t : Int) : Bool := decide (IntKind.u64.wrap (wrap64 (now - t)) < IntKind.u64.wrap W)
def cnt (W now : Int) (ts : List Int) : Nat := (ts.filter (inW W now)).length

theorem cnt_le (W now : Int) (ts : List Int) : cnt W now ts ≤ ts.length := List.length_filter_le _ _
theorem cnt_take_succ (W now : Int) (ts : List Int) (i : Nat) (h : i < ts.length) : cnt W now (ts.take (i + 1)) = cnt W now (ts.take i) + (if inW W now (ts.getD i 0) = true then 1 else 0) := by
  unfold cnt
  rw [List.take_succ_eq_append_getElem h, List.filter_append, List.length_append]
  congr 1
  simp [List.filter_cons, List.getD, List.getElem?_eq_getElem h]
  split <;> simp

theorem count_any {w : World} {k b len cap : Nat} {W now : Int} {a : Option Addr} {xs : List Int} (c1 : w.cell? ⟨k, 1, none⟩ = some (.int .i64 W)) (c3 : w.cell? ⟨b, 3, none⟩ = some (.slice a len cap))
    (hr : SlAt w 2 1 a len cap (xs.map (Value.int .i64))) (hl : len ≤ 1000000) :
    Calls Try.prog 14 #[.pointer (some ⟨k, 0, none⟩), .pointer (some ⟨b, 0, none⟩), .int .i64 now] w fun e w' => w = w' ∧ e = .returned (.int .i64 (cnt W now xs)) := by
  obtain ⟨hlen, hlc, hr⟩ := hr
  rw [List.length_map, Nat.mul_one] at hlen
  rcases hr with ⟨rfl, rfl⟩ | ⟨t, o, arr, rfl, hb, ho, hx⟩
  · obtain rfl : len = 0 := by omega
    have hnil : xs = [] := List.length_eq_zero_iff.1 hlen
    subst hnil
    clear hlen
    go_enter Try.func14, Try.ntmps14
    go_wp2
    go_loop [7, 15] (fun c i => c = .int .i64 0 ∧ i = .int .i64 0) (fun _ _ => 0)
    case atStart => exact ⟨rfl, rfl⟩
    case round =>
      obtain ⟨rfl, rfl⟩ := hrel
      go_wp2
      go_ret
      exact ⟨rfl, rfl⟩
  · go_enter Try.func14, Try.ntmps14
    go_wp2
    go_loop [7, 15] (fun c i => ∃ j : Nat, j ≤ len ∧ i = .int .i64 j ∧ c = .int .i64 (cnt W now (xs.take j))) (fun _ i => len - (intOf i).toNat)
    case atStart => exact ⟨0, Nat.zero_le _, rfl, rfl⟩
    case round =>
      obtain ⟨j, hj, rfl, rfl⟩ := hrel
      have hcl := cnt_le W now (xs.take j)
      have htl : (xs.take j).length ≤ j := List.length_take_le _ _
      by_cases hlt : j < len
      · have hc : w.cell? ⟨t, o + j, none⟩ = some (.int .i64 (xs.getD j 0)) := by rw [cell_of_block hb, hx j (by omega)]; simp [List.getD, show j < xs.length by omega]
        have Hs : Hid _ := cnt_take_succ W now xs j (by omega)
        have Hlen := Lib.hid hlen
        have Hx := Lib.hid hx
        have Hb := Lib.hid hb
        clear hlen hx hb
        go_wp2
        · have hy : inW W now (xs.getD j 0) = true := decide_eq_true (by assumption)
          refine ⟨⟨j + 1, by omega, by go_num, ?_⟩, by simp [intOf]; omega⟩
          rw [Hs.out, if_pos hy]; go_num
        · have hy : ¬ inW W now (xs.getD j 0) = true := by
            have : IntKind.u64.wrap W ≤ IntKind.u64.wrap (wrap64 (now - xs.getD j 0)) := by assumption
            unfold inW; rw [decide_eq_true_eq]; omega
          refine ⟨⟨j + 1, by omega, by go_num, ?_⟩, by simp [intOf]; omega⟩
          rw [Hs.out, if_neg hy]; go_num
      · have hfin : xs.take j = xs := List.take_of_length_le (by omega)
        have Hfin := Lib.hid hfin
        clear hfin
        go_wp2
        go_ret
        exact ⟨rfl, ret_int (by rw [Hfin.out])⟩
end Go.Proofs.Ytpcacnlkhicekaa
