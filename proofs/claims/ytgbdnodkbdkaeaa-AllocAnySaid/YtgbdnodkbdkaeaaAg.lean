/- Alloc: a table's prices: On 50, Up 42, Down 43: the program's. -/
import Derived.Test.YtgbdnodkbdkaeaaAf
namespace Go.Proofs.Ytgbdnodkbdkaeaa
open Go Go.RowKit

def onT (xs : List (Int × Int)) (p : Int) : Bool := decide (1 ≤ p) && (nearT xs p == p)
def upT (xs : List (Int × Int)) (p : Int) : Option Int := if onT xs p = true then (if p + (stepT xs p).2 ≤ 1000000 then some (p + (stepT xs p).2) else none) else none
def downT (xs : List (Int × Int)) (p : Int) : Option Int := if onT xs p = true ∧ p ≠ 1 then some (nearT xs (p - 1)) else none
theorem nearT_le {xs : List (Int × Int)} (hg : GoodT xs) {p : Int} (hp : 1 ≤ p) : 1 ≤ nearT xs p ∧ nearT xs p ≤ min p 1000000 := by
  obtain ⟨k, hk, he, hst, hle⟩ := hg.step (p := min p 1000000) (by omega)
  obtain ⟨h1, h2, h3, h4⟩ := hg.rows k hk
  unfold nearT stepT
  rw [if_neg (by omega), hst]
  have t0 := Int.emod_nonneg (min p 1000000 - (xs.getD k (0, 0)).1) (show (xs.getD k (0, 0)).2 ≠ 0 by omega)
  have t1 := Int.mul_ediv_add_emod (min p 1000000 - (xs.getD k (0, 0)).1) (xs.getD k (0, 0)).2
  have t2 := Int.mul_nonneg (show 0 ≤ (xs.getD k (0, 0)).2 by omega) (Int.ediv_nonneg (show 0 ≤ min p 1000000 - (xs.getD k (0, 0)).1 by omega) (show 0 ≤ (xs.getD k (0, 0)).2 by omega))
  omega
theorem onT_range {xs : List (Int × Int)} (hg : GoodT xs) {p : Int} (h : onT xs p = true) : 1 ≤ p ∧ p ≤ 1000000 := by
  simp only [onT, Bool.and_eq_true, decide_eq_true_eq, beq_iff_eq] at h
  have := (nearT_le hg h.1).2
  omega
set_option maxHeartbeats 1000000 in
theorem on_any {w : World} {b off cap : Nat} {xs : List (Int × Int)} (p : Int) (hg : GoodT xs) (hb : b < w.heap.size) (hs : StAt w b off xs) :
    Calls Try.prog 50 #[.slice (some ⟨b, off, none⟩) xs.length cap, .int .i64 p] w (BlPost (onT xs p) w) := by
  have hn := near_any (cap := cap) p hg hb hs
  by_cases hp : 1 ≤ p
  · have hE : Hid (onT xs p = (nearT xs p == p)) := by show _ = _; unfold onT; simp [hp]
    have HN := Lib.hid hn
    clear hn hs hg
    generalize xs.length = len at HN ⊢
    go_enter Try.func50, Try.ntmps50
    go_wp2_with fail
    refine HN.out.mono ?_
    rintro e w' ⟨rfl, hk⟩
    go_wp2
    go_ret
    exact ⟨ret_bool hE.out.symm, hk⟩
  · have hE : Hid (onT xs p = false) := by show _ = _; unfold onT; simp [hp]
    have hp' : p < 1 := by omega
    clear hn hs hg
    go_enter Try.func50, Try.ntmps50
    go_wp2
    go_ret
    exact ⟨ret_bool hE.out.symm, Kept.refl _ _⟩
def OpPost (o : Option Int) (w : World) (e : Ending) (w' : World) : Prop := e = .returned (.tuple #[.int .i64 (o.getD 0), .bool o.isSome]) ∧ Kept (fun _ => False) w w'
theorem ret_op {o : Option Int} {z : Int} {c : Bool} (h : o = if c then some z else none) (h2 : c = false → z = 0) : Ending.returned (.tuple #[.int .i64 z, .bool c]) = .returned (.tuple #[.int .i64 (o.getD 0), .bool o.isSome]) := by
  subst h; cases c
  · rw [h2 rfl]; rfl
  · rfl
theorem StAt.kept {A B : World} {b off : Nat} {xs : List (Int × Int)} (hb : b < A.heap.size) (h : Kept (fun _ => False) A B) (hs : StAt A b off xs) : StAt B b off xs := fun j hj => by
  obtain ⟨c0, c1⟩ := hs j hj
  exact ⟨by rw [World.cell?_of_block (a := ⟨b, off + j * 2, none⟩) (w := A) (h.block b hb (fun h => h))]; exact c0, by rw [World.cell?_of_block (a := ⟨b, off + j * 2 + 1, none⟩) (w := A) (h.block b hb (fun h => h))]; exact c1⟩
set_option maxHeartbeats 1000000 in
theorem down_any {w : World} {b off cap : Nat} {xs : List (Int × Int)} (p : Int) (hg : GoodT xs) (hb : b < w.heap.size) (hs : StAt w b off xs) :
    Calls Try.prog 43 #[.slice (some ⟨b, off, none⟩) xs.length cap, .int .i64 p] w (OpPost (downT xs p) w) := by
  have ho := on_any (cap := cap) p hg hb hs
  have Hg := Lib.hid hg
  have Hs := Lib.hid hs
  have HO := Lib.hid ho
  clear ho hs hg
  cases hon : onT xs p with
  | false =>
    have hE : Hid (downT xs p = none) := by show _ = _; unfold downT; rw [if_neg (by rw [hon]; simp)]
    rw [hon] at HO
    clear hon
    generalize xs.length = len at HO ⊢
    go_enter Try.func43, Try.ntmps43
    go_wp2_with fail
    refine HO.out.mono ?_
    rintro e w' ⟨rfl, hk⟩
    go_wp2
    go_ret2
    exact ⟨ret_op hE.out (fun _ => rfl), hk⟩
  | true =>
    obtain ⟨hp1, hp2⟩ := onT_range Hg.out hon
    by_cases h1 : p = 1
    · have hE : Hid (downT xs p = none) := by show _ = _; unfold downT; rw [if_neg (by simp [h1])]
      rw [hon] at HO
      have hb1 : (p == 1) = true := by simp [h1]
      clear hon h1
      generalize xs.length = len at HO ⊢
      go_enter Try.func43, Try.ntmps43
      go_wp2_with fail
      refine HO.out.mono ?_
      rintro e w' ⟨rfl, hk⟩
      go_wp2
      go_ret2
      exact ⟨ret_op hE.out (fun _ => rfl), hk⟩
    · have hE : Hid (downT xs p = some (nearT xs (p - 1))) := by show _ = _; unfold downT; rw [if_pos ⟨hon, h1⟩]
      have hb1 : (p == 1) = false := by simp [h1]
      have hz := (nearT_le Hg.out (p := p - 1) (by omega)).1
      have hw1 : wrap64 (p - 1) = p - 1 := IntWalk.wrap64_in _ (by omega)
      rw [hon] at HO
      clear hon h1
      obtain ⟨len, hlen⟩ : ∃ len, xs.length = len := ⟨_, rfl⟩
      have Hlen := Lib.hid hlen
      rw [hlen] at HO ⊢
      clear hlen
      go_enter Try.func43, Try.ntmps43
      go_wp2_with fail
      refine HO.out.mono ?_
      rintro e w' ⟨rfl, hk⟩
      have hnr : Hid (Calls Try.prog 56 #[.slice (some ⟨b, off, none⟩) len cap, .int .i64 (p - 1)] w' (NrPost (nearT xs (p - 1)) w')) := by
        have := near_any (cap := cap) (p - 1) Hg.out (Nat.lt_of_lt_of_le hb hk.size) (Hs.out.kept hb hk); rw [Hlen.out] at this; exact this
      go_wp2_with fail
      refine hnr.out.mono ?_
      rintro e w'' ⟨rfl, hk2⟩
      go_wp2
      go_ret2
      exact ⟨ret_op (by rw [hE.out, if_pos (by simp; omega)]) (fun h => by simp at h; omega), hk.trans hk2⟩
end Go.Proofs.Ytgbdnodkbdkaeaa
