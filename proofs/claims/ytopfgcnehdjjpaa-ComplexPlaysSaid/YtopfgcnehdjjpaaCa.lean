/- Complex orders: as values, in memory; how they compare: the walks. -/
import Derived.Test.YtopfgcnehdjjpaaRo
namespace Go.Proofs.Ytopfgcnehdjjpaa
open Go.RowKit

structure Od where
  id : Int
  owner : Int
  side : Int
  net : Int
  units : Int
  deriving DecidableEq
def odC (o : Od) : List Value := [.int .i64 o.id, .int .i64 o.owner, .int .i64 o.side, .int .i64 o.net, .int .i64 o.units]
theorem odC_len (o : Od) : (odC o).length = 5 := rfl
def ordI (a b : Int) : Int := if a < b then -1 else if b < a then 1 else 0
theorem ordI_bd (a b : Int) : -1 ≤ ordI a b ∧ ordI a b ≤ 1 := by unfold ordI; split <;> (try split) <;> omega
def netI (a b : Od) : Int := if a.side = 1 then -(ordI a.net b.net) else ordI a.net b.net
def cmpI (a b : Od) : Int := if netI a b ≠ 0 then netI a b else ordI a.id b.id

theorem isnan_any (a : Int) (w : World) : Calls Try.prog 45 #[.int .i64 a] w fun e w' => w = w' ∧ e = .returned (.bool false) := by
  go_enter Try.func45, Try.ntmps45
  go_wp2
  go_ret
  exact ⟨rfl, rfl⟩
theorem ord_any (a b : Int) (w : World) : Calls Try.prog 39 #[.int .i64 a, .int .i64 b] w fun e w' => w = w' ∧ e = .returned (.int .i64 (ordI a b)) := by
  have h : (a < b ∧ ordI a b = -1) ∨ (b < a ∧ ordI a b = 1) ∨ (a = b ∧ ordI a b = 0) := by unfold ordI; split <;> (try split) <;> omega
  rcases h with ⟨h1, h2⟩ | ⟨h1, h2⟩ | ⟨rfl, h2⟩
  all_goals
    rw [h2]
    clear h2
    go_enter Try.func39, Try.ntmps39
    go_wp2_with fail
    refine (isnan_any _ _).mono ?_
    rintro e w' ⟨rfl, rfl⟩
    go_wp2_with fail
    refine (isnan_any _ _).mono ?_
    rintro e w' ⟨rfl, rfl⟩
    go_wp2
    go_ret
    exact ⟨rfl, rfl⟩

def orI (n m : Int) : Int := if n ≠ 0 then n else m
def OrPost (n m : Int) (w : World) (e : Ending) (w' : World) : Prop := w = w' ∧ e = .returned (.int .i64 (orI n m))
theorem or_any (n m : Int) (b : Nat) (w : World) (h : w.heap[b]? = some (.cells #[.int .i64 n, .int .i64 m] 3 (0, 0))) : Calls Try.prog 40 #[.slice (some ⟨b, 0, none⟩) 2 2] w (OrPost n m w) := by
  have c0 : w.cell? ⟨b, 0, none⟩ = some (.int .i64 n) := by rw [cell_of_block h]; rfl
  have c1 : w.cell? ⟨b, 1, none⟩ = some (.int .i64 m) := by rw [cell_of_block h]; rfl
  clear h
  go_enter Try.func40, Try.ntmps40
  go_wp2
  go_loop [8] (fun i => ∃ k : Nat, k ≤ 2 ∧ i = .int .i64 k ∧ (1 ≤ k → n = 0) ∧ (2 ≤ k → m = 0)) (fun i => 2 - (intOf i).toNat)
  case atStart => exact ⟨0, by omega, rfl, by omega, by omega⟩
  case round =>
    obtain ⟨k, hk, rfl, h1, h2⟩ := hrel
    match k, hk with
    | 0, _ =>
      clear h1 h2
      by_cases hn : n = 0
      · subst hn
        go_wp2
        exact ⟨⟨1, by omega, rfl, by simp, fun h => by omega⟩, by simp [intOf]⟩
      · have hb : (n != 0) = true := by simpa using hn
        have hI : orI n m = n := if_pos hn
        have HI := Lib.hid hI
        clear hI hn
        go_wp2
        go_ret
        exact ⟨rfl, ret_int HI.out.symm⟩
    | 1, _ =>
      have hn := h1 (by omega)
      subst hn
      clear h1 h2
      by_cases hm : m = 0
      · subst hm
        go_wp2
        exact ⟨⟨2, by omega, rfl, by simp, by simp⟩, by simp [intOf]⟩
      · have hb : (m != 0) = true := by simpa using hm
        have hI : orI 0 m = m := rfl
        have HI := Lib.hid hI
        clear hI hm
        go_wp2
        go_ret
        exact ⟨rfl, ret_int HI.out.symm⟩
    | 2, _ =>
      have hn := h1 (by omega)
      have hm := h2 (by omega)
      subst hn hm
      clear h1 h2
      go_wp2
      go_ret
      exact ⟨rfl, rfl⟩

def CmpPost (a b : Od) (w : World) (e : Ending) (w' : World) : Prop := e = .returned (.int .i64 (cmpI a b)) ∧ Kept (fun _ => False) w w'
set_option maxHeartbeats 1000000 in
theorem compare_any (a b : Od) (w : World) : Calls Try.prog 30 #[.agg #[.int .i64 a.id, .int .i64 a.owner, .int .i64 a.side, .int .i64 a.net, .int .i64 a.units], .agg #[.int .i64 b.id, .int .i64 b.owner, .int .i64 b.side, .int .i64 b.net, .int .i64 b.units]] w (CmpPost a b w) := by
  obtain ⟨o1, o2⟩ := ordI_bd a.net b.net
  have hsb : (a.side = 1 ∧ (a.side == 1) = true) ∨ (a.side ≠ 1 ∧ (a.side == 1) = false) := by by_cases h : a.side = 1 <;> simp [h]
  rcases hsb with ⟨hs, hb⟩ | ⟨hs, hb⟩
  all_goals
    have Hs := Lib.hid hs
    clear hs
    go_enter Try.func30, Try.ntmps30
    go_wp2_with fail
    refine (ord_any _ _ _).mono ?_
    rintro e w' ⟨rfl, rfl⟩
    generalize hn : ordI a.net b.net = n at o1 o2 ⊢
    have Hn := Lib.hid hn
    clear hn
    go_wp2_with fail
    refine (ord_any _ _ _).mono ?_
    rintro e w' ⟨rfl, rfl⟩
    go_wp2_with fail
    refine (or_any _ _ _ _ (by exact block_new (by simp))).mono ?_
    rintro e w' ⟨rfl, rfl⟩
    go_wp2
    go_ret
    refine ⟨ret_int ?_, (((Kept.refl _ _).alloc _).alloc _).alloc _⟩
    simp only [cmpI, netI, orI, Hn.out]
  · rw [if_pos Hs.out]
  · rw [if_neg Hs.out]
def AhPost (a b : Od) (w : World) (e : Ending) (w' : World) : Prop := e = .returned (.bool (decide (cmpI a b < 0))) ∧ Kept (fun _ => False) w w'
theorem ahead_any (a b : Od) (w : World) : Calls Try.prog 21 #[.agg #[.int .i64 a.id, .int .i64 a.owner, .int .i64 a.side, .int .i64 a.net, .int .i64 a.units], .agg #[.int .i64 b.id, .int .i64 b.owner, .int .i64 b.side, .int .i64 b.net, .int .i64 b.units]] w (AhPost a b w) := by
  go_enter Try.func21, Try.ntmps21
  go_wp2_with fail
  refine (compare_any a b _).mono ?_
  rintro e w1 ⟨rfl, hk⟩
  generalize hc : cmpI a b = c at hk ⊢
  have Hc := Lib.hid hc
  clear hc
  go_wp2
  go_ret
  exact ⟨ret_bool (by rw [Hc.out]), (((Kept.refl _ _).alloc _).alloc _).trans hk⟩
def takesB (o : Od) (net : Int) : Bool := if o.side = 1 then decide (net ≤ o.net) else decide (o.net ≤ net)
def TkPost (o : Od) (net : Int) (w : World) (e : Ending) (w' : World) : Prop := e = .returned (.bool (takesB o net)) ∧ Kept (fun _ => False) w w'
theorem takes_any (o : Od) (net : Int) (w : World) : Calls Try.prog 23 #[.agg #[.int .i64 o.id, .int .i64 o.owner, .int .i64 o.side, .int .i64 o.net, .int .i64 o.units], .int .i64 net] w (TkPost o net w) := by
  have hsb : (o.side = 1 ∧ (o.side == 1) = true) ∨ (o.side ≠ 1 ∧ (o.side == 1) = false) := by by_cases h : o.side = 1 <;> simp [h]
  rcases hsb with ⟨hs, hb⟩ | ⟨hs, hb⟩
  all_goals
    have Hs := Lib.hid hs
    clear hs
    go_enter Try.func23, Try.ntmps23
    go_wp2
    go_ret
  · exact ⟨ret_bool (by rw [takesB, if_pos Hs.out]), (Kept.refl _ _).alloc _⟩
  · exact ⟨ret_bool (by rw [takesB, if_neg Hs.out]), (Kept.refl _ _).alloc _⟩
def placeI (side : Int) : Int := if side = 2 then 1 else if side = 1 then 0 else -1
theorem place_any (side : Int) (w : World) : Calls Try.prog 27 #[.int .i64 side] w fun e w' => w = w' ∧ e = .returned (.int .i64 (placeI side)) := by
  have h : (side = 2 ∧ placeI side = 1) ∨ (side = 1 ∧ placeI side = 0) ∨ (((side == 2) = false ∧ (side == 1) = false) ∧ placeI side = -1) := by
    unfold placeI; by_cases h2 : side = 2 <;> by_cases h1 : side = 1 <;> simp [h1, h2]
  rcases h with ⟨rfl, h2⟩ | ⟨rfl, h2⟩ | ⟨⟨h1, h3⟩, h2⟩
  all_goals
    rw [h2]
    clear h2
    go_enter Try.func27, Try.ntmps27
    go_wp2
    go_ret
    exact ⟨rfl, rfl⟩
def inI (n lo hi : Int) : Bool := decide (lo ≤ n) && decide (n ≤ hi)
theorem inI_any (n lo hi : Int) (w : World) : Calls Try.prog 28 #[.int .i64 n, .int .i64 lo, .int .i64 hi] w fun e w' => w = w' ∧ e = .returned (.bool (inI n lo hi)) := by
  by_cases h1 : lo ≤ n
  · by_cases h2 : n ≤ hi
    · have h : inI n lo hi = true := by simp [inI, h1, h2]
      rw [h]; clear h
      go_enter Try.func28, Try.ntmps28
      go_wp2
      go_ret
      exact ⟨rfl, rfl⟩
    · have h : inI n lo hi = false := by simp [inI, h2]
      rw [h]; clear h
      go_enter Try.func28, Try.ntmps28
      go_wp2
      go_ret
      exact ⟨rfl, rfl⟩
  · have h : inI n lo hi = false := by simp [inI, h1]
    rw [h]; clear h
    go_enter Try.func28, Try.ntmps28
    go_wp2
    go_ret
    exact ⟨rfl, rfl⟩
end Go.Proofs.Ytopfgcnehdjjpaa
