/- The walk of 'ComplexTwo'. -/
import Derived.Test.YtopfgcnehdjjpaaCn
import Derived.Test.YtopfgcnehdjjpaaKw
namespace Go.Proofs.Ytopfgcnehdjjpaa
open Go.RowKit

def OfPost (d : Od) (w : World) (e : Ending) (w' : World) : Prop := e = .returned (.agg #[.int .i64 d.id, .int .i64 d.owner, .int .i64 d.side, .int .i64 d.net, .int .i64 d.units]) ∧ Kept (fun _ => False) w w'
theorem of_any (d : Od) (w : World) : Calls Try.prog 11 #[.agg #[.int .i64 d.id, .int .i64 d.owner, .int .i64 d.side, .int .i64 d.net, .int .i64 d.units]] w (OfPost d w) := by
  go_enter Try.func11, Try.ntmps11
  go_wp2
  refine bodyPost_ret (v := .agg #[.int .i64 d.id, .int .i64 d.owner, .int .i64 d.side, .int .i64 d.net, .int .i64 d.units]) (by simp [results, Try.results11, go_sem]) rfl ⟨rfl, ?_⟩
  repeat refine Kept.setCell ?_ (fun h => by simp at h; omega) _
  exact ((Kept.refl _ _).alloc _).alloc _
def rahB (a b : Od) : Bool := if a.net ≠ b.net then (decide (b.net < a.net) == (a.side == 1)) else decide (a.id < b.id)
def RahPost (a b : Od) (w : World) (e : Ending) (w' : World) : Prop := e = .returned (.bool (rahB a b)) ∧ Kept (fun _ => False) w w'
theorem rahead_any (a b : Od) (w : World) : Calls Try.prog 22 #[.agg #[.int .i64 a.id, .int .i64 a.owner, .int .i64 a.side, .int .i64 a.net, .int .i64 a.units], .agg #[.int .i64 b.id, .int .i64 b.owner, .int .i64 b.side, .int .i64 b.net, .int .i64 b.units]] w (RahPost a b w) := by
  by_cases hn : a.net = b.net
  · have hb : (a.net != b.net) = false := by simpa using hn
    have Hn := Lib.hid hn
    clear hn
    go_enter Try.func22, Try.ntmps22
    go_wp2
    go_ret
    exact ⟨ret_bool (by rw [rahB, if_neg (by simpa using Hn.out)]), ((Kept.refl _ _).alloc _).alloc _⟩
  · have hb : (a.net != b.net) = true := by simpa using hn
    have Hn : Hid (¬ a.net = b.net) := hn
    clear hn
    go_enter Try.func22, Try.ntmps22
    go_wp2
    go_ret
    exact ⟨ret_bool (by rw [rahB, if_pos Hn.out]), ((Kept.refl _ _).alloc _).alloc _⟩
theorem rtakes_any (o : Od) (net : Int) (w : World) : Calls Try.prog 24 #[.agg #[.int .i64 o.id, .int .i64 o.owner, .int .i64 o.side, .int .i64 o.net, .int .i64 o.units], .int .i64 net] w (TkPost o net w) := by
  have hsb : (o.side = 1 ∧ (o.side == 1) = true) ∨ (o.side ≠ 1 ∧ (o.side == 1) = false) := by by_cases h : o.side = 1 <;> simp [h]
  rcases hsb with ⟨hs, hb⟩ | ⟨hs, hb⟩
  all_goals
    have Hs := Lib.hid hs
    clear hs
    go_enter Try.func24, Try.ntmps24
    go_wp2
    go_ret
  · exact ⟨ret_bool (by rw [takesB, if_pos Hs.out]), (Kept.refl _ _).alloc _⟩
  · exact ⟨ret_bool (by rw [takesB, if_neg Hs.out]), (Kept.refl _ _).alloc _⟩

theorem two_law {a b : Od} (hs : a.side = b.side) (h12 : a.side = 1 ∨ a.side = 2) :
    decide (cmpI a b < 0) = rahB a b ∧ decide (cmpI b a < 0) = rahB b a ∧ (rahB a b && rahB b a) = false ∧ (rahB a b = false → rahB b a = false → a.id = b.id) := by
  unfold cmpI netI rahB ordI
  rw [← hs]
  rcases h12 with h | h <;> rw [h] <;> rcases Int.lt_trichotomy a.net b.net with h1 | h1 | h1 <;> rcases Int.lt_trichotomy a.id b.id with h2 | h2 | h2 <;>
    simp [h1, h2, Int.lt_asymm, Int.ne_of_lt, Int.ne_of_gt] <;> omega
theorem ahead_is {a b : Od} {v : Bool} (h : decide (cmpI a b < 0) = v) (w : World) : Calls Try.prog 21 #[.agg #[.int .i64 a.id, .int .i64 a.owner, .int .i64 a.side, .int .i64 a.net, .int .i64 a.units], .agg #[.int .i64 b.id, .int .i64 b.owner, .int .i64 b.side, .int .i64 b.net, .int .i64 b.units]] w (EqPost v w) := by
  subst h; exact ahead_any a b w
theorem of_kw {w : World} (d : Od) (x : KW w) : Calls Try.prog 11 #[.agg #[.int .i64 d.id, .int .i64 d.owner, .int .i64 d.side, .int .i64 d.net, .int .i64 d.units]] x.w fun e w'' => e = .returned (.agg #[.int .i64 d.id, .int .i64 d.owner, .int .i64 d.side, .int .i64 d.net, .int .i64 d.units]) ∧ ∃ y : KW w, w'' = y.w := Calls.kw (of_any d _)
theorem rahead_kw {w : World} {a b : Od} {v : Bool} (h : rahB a b = v) (x : KW w) : Calls Try.prog 22 #[.agg #[.int .i64 a.id, .int .i64 a.owner, .int .i64 a.side, .int .i64 a.net, .int .i64 a.units], .agg #[.int .i64 b.id, .int .i64 b.owner, .int .i64 b.side, .int .i64 b.net, .int .i64 b.units]] x.w fun e w'' => e = .returned (.bool v) ∧ ∃ y : KW w, w'' = y.w := by
  subst h; exact Calls.kw (rahead_any a b _)
theorem takes_kw {w : World} {o : Od} {net : Int} {v : Bool} (h : takesB o net = v) (x : KW w) : Calls Try.prog 23 #[.agg #[.int .i64 o.id, .int .i64 o.owner, .int .i64 o.side, .int .i64 o.net, .int .i64 o.units], .int .i64 net] x.w fun e w'' => e = .returned (.bool v) ∧ ∃ y : KW w, w'' = y.w := by
  subst h; exact Calls.kw (takes_any o net _)
theorem rtakes_kw {w : World} {o : Od} {net : Int} {v : Bool} (h : takesB o net = v) (x : KW w) : Calls Try.prog 24 #[.agg #[.int .i64 o.id, .int .i64 o.owner, .int .i64 o.side, .int .i64 o.net, .int .i64 o.units], .int .i64 net] x.w fun e w'' => e = .returned (.bool v) ∧ ∃ y : KW w, w'' = y.w := by
  subst h; exact Calls.kw (rtakes_any o net _)
theorem rahead_is {a b : Od} {v : Bool} (h : rahB a b = v) (w : World) : Calls Try.prog 22 #[.agg #[.int .i64 a.id, .int .i64 a.owner, .int .i64 a.side, .int .i64 a.net, .int .i64 a.units], .agg #[.int .i64 b.id, .int .i64 b.owner, .int .i64 b.side, .int .i64 b.net, .int .i64 b.units]] w (EqPost v w) := by
  subst h; exact rahead_any a b w

end Go.Proofs.Ytopfgcnehdjjpaa
