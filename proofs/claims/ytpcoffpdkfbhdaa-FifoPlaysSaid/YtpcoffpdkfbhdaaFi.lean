/- The walk of 'known'. -/
import Derived.Test.YtpcoffpdkfbhdaaFh
namespace Go.Proofs.Ytpcoffpdkfbhdaa
open Go.RowKit
variable {w : World} {a bc br fc : Nat} {fa : Option Addr} {S : Ar} {O : Nat → Bool}

theorem push_in' (h : ArAt w a bc br fa fc S O) {row : Int} (r : Nat) (hrow : row = r) (v : Int) (hc : S.Can r) (S' : Ar) (hS : S.pushS r v = S') (c : Int) (hI : S.takeI = c) :
    Calls Try.prog 8 #[.pointer (some ⟨a, 0, none⟩), .int .i64 row, .int .i64 v] w (PushPost a bc br S' c O w) := by
  subst hrow; subst hS; subst hI; exact push_in h r v hc
theorem remove_yes' (h : ArAt w a bc br fa fc S O) {c : Int} (i r : Nat) (hci : c = i) (hh : S.Has i r) (S' : Ar) (hS : S.removeS i = S') :
    Calls Try.prog 9 #[.pointer (some ⟨a, 0, none⟩), .int .i64 c] w (RemPost a bc br S' O w) := by
  subst hci; subst hS; exact remove_yes h i r hh
theorem new_good' {w : World} {r c : Int} (R N : Nat) (hr : r = R) (hc : c = N) (hR : 1 ≤ R ∧ R ≤ 1024) (hN : 1 ≤ N ∧ N ≤ 4096) : Calls Try.prog 7 #[.int .i64 r, .int .i64 c] w (NewPost R N w) := by
  subst hr; subst hc; exact new_good hR hN

def FinPost (w : World) (e : Ending) (w' : World) : Prop := e = .returned (.bool true) ∧ Kept (fun _ => False) w w'
theorem kept_new {O O' : Nat → Bool} {w w1 w' : World} (h : Kept (fun _ => False) w w1) (hO : ∀ i, i < w.heap.size → O i = false) (hg : Grows O O' w1 w') : Kept (fun _ => False) w w' :=
  h.trans' hg.kept fun i hi hG => by rw [hO i hi] at hG; cases hG

def K0 : Ar := Ar.new 2 3
def K1 : Ar := K0.pushS 1 10
def K2 : Ar := K1.pushS 1 20
def K3 : Ar := K2.removeS 0
def K4 : Ar := K3.pushS 0 30

set_option maxHeartbeats 2000000 in
set_option maxRecDepth 100000 in
theorem known_any (w : World) : Calls Try.prog 6 #[] w (FinPost w) := by
  go_enter Try.func6, Try.ntmps6
  go_wp2_with fail
  refine (new_good' 2 3 rfl rfl (by decide) (by decide)).mono ?_
  rintro e w1 ⟨a, bc, br, fa, fc, O, rfl, h1, hk, hO⟩
  have HO := Lib.hid hO
  clear hO
  go_wp2_with fail
  refine (push_in' h1 1 rfl 10 ⟨by decide, by decide, by decide, by decide, by decide⟩ K1 rfl 0 rfl).mono ?_
  rintro e w2 ⟨fa2, fc2, rfl, h2, g2⟩
  go_wp2_with fail
  refine (push_in' h2 1 rfl 20 ⟨by decide, by decide, by decide, by decide, by decide⟩ K2 rfl 1 rfl).mono ?_
  rintro e w3 ⟨fa3, fc3, rfl, h3, g3⟩
  go_wp2_with fail
  refine (front_any h3 1).mono ?_
  rintro e w' ⟨rfl, rfl⟩
  rw [show K2.frontI 1 = 0 by decide, show K2.frontB 1 = true by decide]
  go_wp2_with fail
  refine (next_any h3 0).mono ?_
  rintro e w' ⟨rfl, rfl⟩
  rw [show K2.nextI 0 = 1 by decide, show K2.nextB 0 = true by decide]
  go_wp2_with fail
  refine (value_any h3 1).mono ?_
  rintro e w' ⟨rfl, rfl⟩
  rw [show K2.valI 1 = 20 by decide, show K2.takenB 1 = true by decide]
  go_wp2_with fail
  refine (remove_yes' h3 0 1 rfl ⟨by decide, by decide, by decide, by decide, by decide, by decide, by decide⟩ K3 rfl).mono ?_
  rintro e w4 ⟨fa4, fc4, O4, rfl, h4, g4⟩
  go_wp2_with fail
  refine (push_in' h4 0 rfl 30 ⟨by decide, by decide, by decide, by decide, by decide⟩ K4 rfl 0 rfl).mono ?_
  rintro e w5 ⟨fa5, fc5, rfl, h5, g5⟩
  go_wp2_with fail
  refine (new_bad (by omega)).mono ?_
  rintro e w' ⟨rfl, rfl⟩
  go_wp2_with fail
  refine (row_any h5 1 [1] (by rw [show K4.inB 1 = true by decide, if_pos rfl]; exact ⟨by decide, by decide, by decide, (by show (K4.cell 1).next = -1; decide)⟩) (by decide)).mono ?_
  rintro e w6 ⟨p, rfl, _, h6, g6, _⟩
  go_wp2_with fail
  refine (len_any h6 0).mono ?_
  rintro e w' ⟨rfl, rfl⟩
  rw [show K4.lenI 0 = 1 by decide]
  go_wp2_with fail
  refine (free_any h6).mono ?_
  rintro e w' ⟨q, rfl, rfl⟩
  rw [show K4.freeI = 1 by decide]
  go_wp2_with fail
  go_ret
  exact ⟨rfl, ((kept_new hk HO.out (g2.trans (g3.trans (g4.trans g5)))).trans g6).drewN _⟩
end Go.Proofs.Ytpcoffpdkfbhdaa
