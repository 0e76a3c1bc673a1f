/- Alloc: a table's steps from behind: slices.Backward's closure, its contract (turned from the guide's worked contract of slices.All). -/
import Derived.RangeFuncNested
import Derived.RangeFuncBound
import Derived.RangeFuncCalls
import Derived.RangeFuncLeaves
import Derived.RangeFuncBox
import Derived.Shelf.Abstract
import Derived.Shelf.RegionOpen
import Derived.WalkKit
import Derived.OwnWalkIn
import Derived.TacticsInMore
import Derived.LoopNIn
import Derived.LoopIn
import Derived.Test.YtgbdnodkbdkaeaaAc
namespace Go.Proofs.Ytgbdnodkbdkaeaa
open Go Go.RowKit Go.Shelf
attribute [local go_sem] Oper.semAt_some

/-- What has come when r are left: from behind. -/
def come (xs : List (Int × Int)) (r : Nat) : List (Nat × Int × Int) := (List.range (xs.length - r)).map fun j => (xs.length - 1 - j, xs.getD (xs.length - 1 - j) (0, 0))
theorem come_all (xs : List (Int × Int)) : come xs xs.length = [] := by simp [come]
theorem come_succ (xs : List (Int × Int)) {r : Nat} (h : r < xs.length) : come xs r = come xs (r + 1) ++ [(r, xs.getD r (0, 0))] := by
  unfold come
  rw [show xs.length - r = (xs.length - (r + 1)) + 1 by omega, List.range_succ, List.map_append, List.map_singleton, show xs.length - 1 - (xs.length - (r + 1)) = r by omega]
theorem come_length (xs : List (Int × Int)) (r : Nat) : (come xs r).length = xs.length - r := by simp [come]
/-- Steps lie in a slice. -/
def StAt (w : World) (b off : Nat) (xs : List (Int × Int)) : Prop := ∀ j, j < xs.length → w.cell? ⟨b, off + j * 2, none⟩ = some (.int .i64 (xs.getD j (0, 0)).1) ∧ w.cell? ⟨b, off + j * 2 + 1, none⟩ = some (.int .i64 (xs.getD j (0, 0)).2)

set_option maxRecDepth 100000 in
set_option maxHeartbeats 2000000 in
theorem back1_in (F : Fence) (n : Nat) (h64 : F.fn 64) (hro : F.round = none) (hn : 1 ≤ n) (l Bs n₀ b off len cap : Nat) (xs : List (Int × Int)) (hlen : len = xs.length) (hreach : (len : Int) ≤ 1000) (hb : b < n₀) (J Jx : List (Nat × Int × Int) → World → Prop)
    (hY : ∀ pre x W, J pre W → pre.length < len → YieldAt F (n - 1) Try.prog l #[.int .i64 (x.1 : Int), .agg #[.int .i64 x.2.1, .int .i64 x.2.2]] W fun e W' =>
      (e = .returned (.bool true) ∧ J (pre ++ [x]) W' ∧ Below n₀ W W') ∨ (e = .returned (.bool false) ∧ Jx (pre ++ [x]) W'))
    (W : World) (hBs : W.cell? ⟨Bs, 0, none⟩ = some (.slice (some ⟨b, off, none⟩) len cap)) (hBn : Bs < n₀) (hc : StAt W b off xs) (h0 : J [] W) :
    CallsIn F n Try.prog 64 #[.func (.yield l) #[] #[], .pointer (some ⟨Bs, 0, none⟩)] W fun e W' => (∃ v, e = .returned v) ∧
      ((∃ ys, ys = come xs 0 ∧ J ys W') ∨ (∃ pre, (∃ r, r ≤ len ∧ pre = come xs r) ∧ Jx pre W')) := by
  refine callsIn_of_wp Try.func64 rfl h64 ?_ hro
  simp only [Try.ntmps64, List.size_toArray, List.length_cons, List.length_nil, Nat.reduceAdd, Nat.reduceSub, Array.replicate_succ, Array.replicate_zero, List.push_toArray, List.append_toArray, List.nil_append, List.cons_append]
  have hl0 : (0 : Int) ≤ (len : Int) := by omega
  have Hlen := Lib.hid hlen
  clear hlen
  gi_wp2
  gi_loopw [3] (fun i wr => ∃ r : Nat, r ≤ len ∧ i = .int .i64 ((r : Int) - 1) ∧ J (come xs r) wr ∧ Below n₀ W wr)
    (fun i _ => (intOf i + 1).toNat)
  case atStart => exact ⟨len, Nat.le_refl _, rfl, by rw [Hlen.out, come_all]; exact h0, Below.refl _ _⟩
  case round =>
    obtain ⟨r, hr, rfl, hJs, hnx⟩ := hrel
    have hBs' := (hnx.cell (p := ⟨Bs, 0, none⟩) hBn).trans hBs
    rcases r with _ | r
    · gi_wp2
      go_end0
      exact ⟨⟨_, rfl⟩, .inl ⟨_, rfl, hJs⟩⟩
    · have e1 : ((r + 1 : Nat) : Int) - 1 = (r : Int) := by omega
      rw [e1]
      have hrl : r < xs.length := by have := Hlen.out; omega
      obtain ⟨c0, c1⟩ := hc r hrl
      obtain ⟨sx, hsx⟩ : ∃ sx, xs.getD r (0, 0) = sx := ⟨_, rfl⟩
      have hcs : come xs r = come xs (r + 1) ++ [(r, sx)] := by rw [come_succ xs hrl, hsx]
      rw [hsx] at c0 c1
      have Hcs := Lib.hid hcs
      have Hrl := Lib.hid hrl
      clear hcs hsx hrl
      have d0 := (hnx.cell (p := ⟨b, off + r * 2, none⟩) hb).trans c0
      have d1 := (hnx.cell (p := ⟨b, off + r * 2 + 1, none⟩) hb).trans c1
      obtain ⟨fn, tmps, assign, body, hy, hR⟩ := hY _ (r, sx) wr hJs (by rw [come_length]; have := Hlen.out; omega)
      dsimp only at hy
      have b1 : (0 : Int) ≤ (r : Int) := by omega
      have b2 : (r : Int) < (len : Int) := by omega
      gi_wp2
      refine hR.mono ?_
      rintro e W3 (⟨rfl, hJ3, hk3⟩ | ⟨rfl, hJx3⟩)
      · gi_wp2
        go_roundw
        case rel => exact ⟨r, by omega, by simp, by rw [Hcs.out]; exact hJ3, hnx.trans hk3⟩
        case measure => simp [intOf] <;> omega
      · gi_wp2
        refine bodyPost_ret (results_none rfl _ _ _) rfl ?_
        exact ⟨⟨_, rfl⟩, .inr ⟨_, ⟨r, by omega, Hcs.out.symm⟩, hJx3⟩⟩

end Go.Proofs.Ytgbdnodkbdkaeaa
