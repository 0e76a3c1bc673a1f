/- slices.BinarySearchFunc over complex orders: the walk. -/
import Derived.Test.YtopfgcnehdjjpaaCd
import Derived.Test.YtopfgcnehdjjpaaKw
namespace Go.Proofs.Ytopfgcnehdjjpaa
open Go.RowKit

/-- Up to pos the orders stand ahead of d, from there on not. -/
def Splits (xs : List Od) (d : Od) (pos : Nat) : Prop := pos ≤ xs.length ∧ (∀ i x, i < pos → xs[i]? = some x → cmpI x d < 0) ∧ ∀ i x, pos ≤ i → xs[i]? = some x → 0 ≤ cmpI x d
def BsPost (pos : Nat) (w : World) (e : Ending) (w' : World) : Prop := ∃ b, e = .returned (.tuple #[.int .i64 pos, .bool b]) ∧ Kept (fun _ => False) w w'
def BsRel (n pos q : Nat) (d : Od) (w : World) (iv jv : Value) (wr : World) : Prop :=
  ∃ i j : Nat, i ≤ pos ∧ pos ≤ j ∧ j ≤ n ∧ iv = .int .i64 i ∧ jv = .int .i64 j ∧ Kept (fun _ => False) w wr ∧ wr.heap[q]? = some (.cells #[.int .i64 d.id, .int .i64 d.owner, .int .i64 d.side, .int .i64 d.net, .int .i64 d.units] 31 (0, 0))
def BsMid (x d : Od) (w : World) (v : Value) (w' : World) : Prop := v = .bool (decide (cmpI x d < 0)) ∧ Kept (fun _ => False) w w'

def Two (t k q : Nat) (x d : Od) (w : World) : Prop :=
  w.cell? ⟨t, k, none⟩ = some (.int .i64 x.id) ∧ w.cell? ⟨t, k + 1, none⟩ = some (.int .i64 x.owner) ∧ w.cell? ⟨t, k + 2, none⟩ = some (.int .i64 x.side) ∧ w.cell? ⟨t, k + 3, none⟩ = some (.int .i64 x.net) ∧ w.cell? ⟨t, k + 4, none⟩ = some (.int .i64 x.units) ∧
  w.cell? ⟨q, 0, none⟩ = some (.int .i64 d.id) ∧ w.cell? ⟨q, 1, none⟩ = some (.int .i64 d.owner) ∧ w.cell? ⟨q, 2, none⟩ = some (.int .i64 d.side) ∧ w.cell? ⟨q, 3, none⟩ = some (.int .i64 d.net) ∧ w.cell? ⟨q, 4, none⟩ = some (.int .i64 d.units)
theorem Two.kept {t k q : Nat} {x d : Od} {w w' : World} (h : Two t k q x d w) (hk : Kept (fun _ => False) w w') : Two t k q x d w' := by
  obtain ⟨x0, x1, x2, x3, x4, q0, q1, q2, q3, q4⟩ := h
  have ht := hk.block t (World.block_lt_of_cell? _ _ x0) (fun h => h)
  have hq := hk.block q (World.block_lt_of_cell? _ _ q0) (fun h => h)
  have ct : ∀ j, w'.cell? ⟨t, j, none⟩ = w.cell? ⟨t, j, none⟩ := fun j => World.cell?_of_block (a := ⟨t, j, none⟩) ht
  have cq : ∀ j, w'.cell? ⟨q, j, none⟩ = w.cell? ⟨q, j, none⟩ := fun j => World.cell?_of_block (a := ⟨q, j, none⟩) hq
  exact ⟨(ct _).trans x0, (ct _).trans x1, (ct _).trans x2, (ct _).trans x3, (ct _).trans x4, (cq _).trans q0, (cq _).trans q1, (cq _).trans q2, (cq _).trans q3, (cq _).trans q4⟩

theorem compare_kw {w : World} (a b : Od) (x : KW w) : Calls Try.prog 30 #[.agg #[.int .i64 a.id, .int .i64 a.owner, .int .i64 a.side, .int .i64 a.net, .int .i64 a.units], .agg #[.int .i64 b.id, .int .i64 b.owner, .int .i64 b.side, .int .i64 b.net, .int .i64 b.units]] x.w fun e w'' => e = .returned (.int .i64 (cmpI a b)) ∧ ∃ y : KW w, w'' = y.w := Calls.kw (compare_any a b _)
set_option maxHeartbeats 4000000 in
theorem bs_any (p : Option Addr) (cap : Nat) (xs : List Od) (d : Od) (pos : Nat) (w : World) (h : SlAt w 31 5 p xs.length cap (xs.flatMap odC)) (hp : Splits xs d pos) (h256 : xs.length ≤ 256) :
    Calls Try.prog 29 #[.slice p xs.length cap, .agg #[.int .i64 d.id, .int .i64 d.owner, .int .i64 d.side, .int .i64 d.net, .int .i64 d.units], .func (.func 30) #[] #[]] w (BsPost pos w) := by
  obtain ⟨hpos, hlo, hhi⟩ := hp
  have Hlo := Lib.hid hlo
  have Hhi := Lib.hid hhi
  clear hlo hhi
  have h0 := h.alloc (.cells #[.int .i64 d.id, .int .i64 d.owner, .int .i64 d.side, .int .i64 d.net, .int .i64 d.units] 31)
  go_enter Try.func29, Try.ntmps29
  go_wp2
  have hstart : BsRel xs.length pos w.heap.size d w (.int .i64 0) (.int .i64 xs.length) (w.alloc (.cells #[.int .i64 d.id, .int .i64 d.owner, .int .i64 d.side, .int .i64 d.net, .int .i64 d.units] 31)) :=
    ⟨0, xs.length, Nat.zero_le _, hpos, Nat.le_refl _, rfl, rfl, (Kept.refl _ _).alloc _, block_alloc_new _ _⟩
  generalize w.heap.size = q at hstart ⊢
  generalize w.alloc (.cells #[.int .i64 d.id, .int .i64 d.owner, .int .i64 d.side, .int .i64 d.net, .int .i64 d.units] 31) = w0 at hstart ⊢
  clear h0
  go_loopw [9, 10] (fun iv jv wr => BsRel xs.length pos q d w iv jv wr) (fun iv jv _ => (intOf jv).toNat - (intOf iv).toNat)
  case atStart => exact hstart
  case round =>
    obtain ⟨i, j, hi, hj, hjn, rfl, rfl, hkept, hq⟩ := hrel
    clear hstart
    have q0 : wr.cell? ⟨q, 0, none⟩ = some (.int .i64 d.id) := by rw [cell_of_block hq]; rfl
    have q1 : wr.cell? ⟨q, 1, none⟩ = some (.int .i64 d.owner) := by rw [cell_of_block hq]; rfl
    have q2 : wr.cell? ⟨q, 2, none⟩ = some (.int .i64 d.side) := by rw [cell_of_block hq]; rfl
    have q3 : wr.cell? ⟨q, 3, none⟩ = some (.int .i64 d.net) := by rw [cell_of_block hq]; rfl
    have q4 : wr.cell? ⟨q, 4, none⟩ = some (.int .i64 d.units) := by rw [cell_of_block hq]; rfl
    have hqs := lt_of_block hq
    have Hq := Lib.hid hq
    clear hq
    have hr := h.kept (w' := wr) fun t ht => hkept.block _ (h.lt t ht) (fun h => h)
    by_cases hlt : i < j
    · obtain ⟨m, hm⟩ : ∃ m : Nat, (i + j) / 2 = m := ⟨_, rfl⟩
      have hmi : i ≤ m ∧ m < j := by omega
      obtain ⟨hm1, hm2⟩ := hmi
      obtain ⟨t, o, rfl⟩ := sl_some hr (by omega)
      have hd : xs[m]? = some (xs[m]'(by omega)) := List.getElem?_eq_getElem (by omega)
      obtain ⟨x0, x1, x2, x3, x4⟩ := od_cells hr rfl hd
      generalize xs[m]'(by omega) = x at hd x0 x1 x2 x3 x4
      have Hd := Lib.hid hd
      have Hm := Lib.hid hm
      clear hd hr hm
      go_upto_region 5 with fail
      rw [show ((i : Int) + (j : Int)) / 2 = (m : Int) by have := Hm.out; omega]
      go_cut [31] (fun v wx => BsMid x d wr v wx)
      case first =>
        go_region_with (first | (refine (compare_any x d _).mono ?_; rintro e w1 ⟨rfl, hk1⟩))
        all_goals (go_wp2_with fail; go_meet; exact ⟨rfl, by first | exact hk1 | exact hk1.drew | exact ((Kept.refl _ wr).drew).trans hk1 | exact (((Kept.refl _ wr).drew).trans hk1).drew⟩)
      case rest =>
        obtain ⟨rfl, hk1⟩ := hcut
        have hbox : wc.heap[q]? = _ := (hk1.block q hqs (fun h => h)).trans Hq.out
        by_cases hc : cmpI x d < 0
        · have hb : decide (cmpI x d < 0) = true := decide_eq_true hc
          have hmp : m < pos := by
            rcases Nat.lt_or_ge m pos with h | h
            · exact h
            · have := Hhi.out m x h Hd.out; omega
          clear q0 q1 q2 q3 q4 x0 x1 x2 x3 x4
          generalize cmpI x d = cc at hc hb ⊢
          go_wp2
          exact ⟨⟨m + 1, j, by omega, hj, hjn, by go_num, rfl, hkept.trans hk1, hbox⟩, by simp [intOf]; omega⟩
        · have hb : decide (cmpI x d < 0) = false := decide_eq_false hc
          have hmp : pos ≤ m := by
            rcases Nat.lt_or_ge m pos with h | h
            · have := Hlo.out m x h Hd.out; omega
            · exact h
          clear q0 q1 q2 q3 q4 x0 x1 x2 x3 x4
          generalize cmpI x d = cc at hc hb ⊢
          go_wp2
          exact ⟨⟨i, m, hi, hmp, by omega, rfl, by go_num, hkept.trans hk1, hbox⟩, by simp [intOf]; omega⟩
    · obtain rfl : i = j := by omega
      obtain rfl : i = pos := by omega
      by_cases hlt2 : i < xs.length
      · obtain ⟨t, o, rfl⟩ := sl_some hr (by omega)
        have hd : xs[i]? = some (xs[i]'(by omega)) := List.getElem?_eq_getElem (by omega)
        obtain ⟨x0, x1, x2, x3, x4⟩ := od_cells hr rfl hd
        generalize xs[i]'(by omega) = x at hd x0 x1 x2 x3 x4
        clear hd hr
        have hg : decide (i < xs.length) = true := decide_eq_true hlt2
        go_wp2_with fail
        have hT : Two t (o + i * 5) q x d wr := ⟨x0, x1, x2, x3, x4, q0, q1, q2, q3, q4⟩
        have x0 := fun x : KW wr => KW.cell x0 x
        have x1 := fun x : KW wr => KW.cell x1 x
        have x2 := fun x : KW wr => KW.cell x2 x
        have x3 := fun x : KW wr => KW.cell x3 x
        have x4 := fun x : KW wr => KW.cell x4 x
        have q0 := fun x : KW wr => KW.cell q0 x
        have q1 := fun x : KW wr => KW.cell q1 x
        have q2 := fun x : KW wr => KW.cell q2 x
        have q3 := fun x : KW wr => KW.cell q3 x
        have q4 := fun x : KW wr => KW.cell q4 x
        refine wp_region_kept (by kernel_rfl) (by kernel_rfl) ?_
        repeat (go_big_quiet_step (first | with_reducible exact compare_kw x d _))
        refine wpQuiet_nil ?_
        intro _ hw'
        obtain ⟨y, rfl⟩ := hw'
        go_wp2_with fail
        go_ret2
        exact ⟨_, rfl, hkept.trans y.kept⟩
      · have hg : decide (i < xs.length) = false := decide_eq_false hlt2
        clear hr
        go_wp2_with fail
        go_quiet (fail)
        go_wp2_with fail
        go_ret2
        exact ⟨_, rfl, hkept.drewN _⟩
end Go.Proofs.Ytopfgcnehdjjpaa
