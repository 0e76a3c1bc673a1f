/- Alloc: a table's prices: Near 56, On 50: the program's. -/
import Derived.Test.YtgbdnodkbdkaeaaAe
namespace Go.Proofs.Ytgbdnodkbdkaeaa
open Go Go.RowKit

theorem ofT_any {w : World} {b off cap : Nat} {xs : List (Int × Int)} (p : Int) (hreach : (xs.length : Int) ≤ 1000) (hb : b < w.heap.size) (hI : StAt w b off xs) :
    Calls Try.prog 55 #[.slice (some ⟨b, off, none⟩) xs.length cap, .int .i64 p] w fun e W' => e = .returned (.int .i64 (lastAt xs p xs.length)) ∧ Kept (fun _ => False) w W' :=
  ((callsIn_wide (n := 3)).1 (of_in Fence.wide 3 trivial trivial trivial rfl (by omega) b off cap xs p hreach w hb hI)).mono fun _ _ h => ⟨h.1, Kept.of_below h.2⟩

/-- A table that may be (as the document's Check has it, but for what divides). -/
structure GoodT (xs : List (Int × Int)) : Prop where
  len : 1 ≤ xs.length ∧ xs.length ≤ 8
  one : (xs.getD 0 (0, 0)).1 = 1
  rows : ∀ j, j < xs.length → 1 ≤ (xs.getD j (0, 0)).1 ∧ (xs.getD j (0, 0)).1 ≤ 1000000 ∧ 1 ≤ (xs.getD j (0, 0)).2 ∧ (xs.getD j (0, 0)).2 ≤ 10000
/-- The step of a price. -/
def stepK (xs : List (Int × Int)) (p : Int) : Nat := (lastAt xs p xs.length).toNat
theorem lastAt_at (xs : List (Int × Int)) (p : Int) (h1 : (xs.getD 0 (0, 0)).1 ≤ p) (r : Nat) (h0 : 1 ≤ r) : ∃ k : Nat, k < r ∧ lastAt xs p r = (k : Int) ∧ (xs.getD k (0, 0)).1 ≤ p := by
  induction r with
  | zero => omega
  | succ r ih =>
    by_cases h : (xs.getD r (0, 0)).1 ≤ p
    · exact ⟨r, by omega, if_pos h, h⟩
    · have hr : 1 ≤ r := by
        rcases r with _ | r
        · exact absurd h1 h
        · omega
      obtain ⟨k, hk, he, hp⟩ := ih hr
      exact ⟨k, by omega, (if_neg h).trans he, hp⟩
theorem GoodT.step {xs : List (Int × Int)} (h : GoodT xs) {p : Int} (hp : 1 ≤ p) : ∃ k : Nat, k < xs.length ∧ lastAt xs p xs.length = (k : Int) ∧ stepK xs p = k ∧ (xs.getD k (0, 0)).1 ≤ p := by
  obtain ⟨k, hk, he, hq⟩ := lastAt_at xs p (by rw [h.one]; exact hp) xs.length h.len.1
  exact ⟨k, hk, he, by unfold stepK; rw [he]; rfl, hq⟩
def stepT (xs : List (Int × Int)) (p : Int) : Int × Int := xs.getD (stepK xs p) (0, 0)
/-- The greatest price on the table that isn't above one. -/
def nearT (xs : List (Int × Int)) (p : Int) : Int := if p < 1 then 0 else min p 1000000 - (min p 1000000 - (stepT xs (min p 1000000)).1) % (stepT xs (min p 1000000)).2
def NrPost (z : Int) (w : World) (e : Ending) (w' : World) : Prop := e = .returned (.int .i64 z) ∧ Kept (fun _ => False) w w'
set_option maxHeartbeats 2000000 in
set_option maxRecDepth 100000 in
theorem near_any {w : World} {b off cap : Nat} {xs : List (Int × Int)} (p : Int) (hg : GoodT xs) (hb : b < w.heap.size) (hs : StAt w b off xs) :
    Calls Try.prog 56 #[.slice (some ⟨b, off, none⟩) xs.length cap, .int .i64 p] w (NrPost (nearT xs p) w) := by
  have hreach : (xs.length : Int) ≤ 1000 := by have := hg.len; omega
  have ho := ofT_any (cap := cap) (min p 1000000) hreach hb hs
  by_cases hp : p < 1
  · have hE : Hid (nearT xs p = 0) := if_pos hp
    have hmin : min p 1000000 = p := by omega
    rw [hmin] at ho
    generalize lastAt xs p xs.length = z at ho
    generalize xs.length = len at ho
    have HO := Lib.hid ho
    clear ho hs hreach hg
    go_enter Try.func56, Try.ntmps56
    go_wp2_with fail
    refine HO.out.mono ?_
    rintro e w' ⟨rfl, hk⟩
    go_wp2
    go_ret
    exact ⟨ret_int hE.out.symm, hk⟩
  · obtain ⟨q, hq⟩ : ∃ q, min p 1000000 = q := ⟨_, rfl⟩
    have hq1 : 1 ≤ q := by omega
    have hq2 : q ≤ 1000000 := by omega
    obtain ⟨k, hk, he, hst, hle⟩ := hg.step hq1
    obtain ⟨h1, h2, h3, h4⟩ := hg.rows k hk
    obtain ⟨c0, c1⟩ := hs k hk
    have hE : nearT xs p = q - (q - (xs.getD k (0, 0)).1) % (xs.getD k (0, 0)).2 := by
      unfold nearT stepT; rw [if_neg hp, hq, hst]
    rw [hq, he] at ho
    obtain ⟨sx, hsx⟩ : ∃ sx, xs.getD k (0, 0) = sx := ⟨_, rfl⟩
    rw [hsx] at c0 c1 hE h1 h2 h3 h4 hle
    obtain ⟨f, y⟩ := sx
    have hp' : 1 ≤ p := by omega
    have hkl : (k : Int) < (xs.length : Int) := by omega
    have hk0 : (0 : Int) ≤ (k : Int) := by omega
    have t0 : 0 ≤ (q - f) % y := Int.emod_nonneg _ (by simp at h3; omega)
    have t1 : (q - f) % y < y := Int.emod_lt_of_pos _ (by simp at h3; omega)
    have hW : Hid (wrap64 (q - (q - f) % y) = q - (q - f) % y) := IntWalk.wrap64_in _ (by simp at h4; omega)
    clear t0 t1
    have HE := Lib.hid hE
    have HO := Lib.hid ho
    have C0 := Lib.hid c0
    have C1 := Lib.hid c1
    have Hq := Lib.hid hq
    simp only at h1 h2 h3 h4 hle
    clear ho hs hreach hg hp hk hst he hsx hE c0 c1 hq
    generalize xs.length = len at hkl HO ⊢
    go_enter Try.func56, Try.ntmps56
    go_wp2_with fail
    rw [Hq.out]
    refine HO.out.mono ?_
    rintro e w' ⟨rfl, hk⟩
    have d0 : w'.cell? ⟨b, off + k * 2, none⟩ = some (.int .i64 f) := by rw [World.cell?_of_block (a := ⟨b, off + k * 2, none⟩) (w := w) (hk.block b hb (fun h => h))]; exact C0.out
    have d1 : w'.cell? ⟨b, off + k * 2 + 1, none⟩ = some (.int .i64 y) := by rw [World.cell?_of_block (a := ⟨b, off + k * 2 + 1, none⟩) (w := w) (hk.block b hb (fun h => h))]; exact C1.out
    go_wp2_with fail
    go_quiet (fail)
    go_wp2_with fail
    go_ret
    exact ⟨ret_int (hW.out.trans HE.out.symm), hk.drewN _⟩
end Go.Proofs.Ytgbdnodkbdkaeaa
