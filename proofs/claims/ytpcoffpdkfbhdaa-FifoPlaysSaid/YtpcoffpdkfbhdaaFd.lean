/- The walks of the arena: a value is put behind a row. -/
import Derived.Test.YtpcoffpdkfbhdaaFc
namespace Go.Proofs.Ytpcoffpdkfbhdaa
open Go.RowKit
variable {w : World} {a bc br fc : Nat} {fa : Option Addr} {S : Ar} {O : Nat → Bool}

def Ar.pushS (S : Ar) (r : Nat) (v : Int) : Ar :=
  let T := S.takeS
  let c := S.takeI
  let e := T.ends r
  let cell1 := upd T.cell c.toNat ⟨v, r, e.last, -1⟩
  if e.last = -1 then { T with cell := cell1, ends := upd T.ends r ⟨c, c, e.n + 1⟩ }
  else { T with cell := upd cell1 e.last.toNat { cell1 e.last.toNat with next := c }, ends := upd T.ends r ⟨e.first, c, e.n + 1⟩ }

def PushPost (a bc br : Nat) (S' : Ar) (c : Int) (O : Nat → Bool) (w : World) (e : Ending) (w' : World) : Prop :=
  ∃ fa' fc', e = .returned (.tuple #[.int .i64 c, .int .i64 0]) ∧ ArAt w' a bc br fa' fc' S' O ∧ Grows O O w w'
def Mid (a bc br : Nat) (S' : Ar) (O : Nat → Bool) (w w' : World) : Prop := ∃ fa' fc', ArAt w' a bc br fa' fc' S' O ∧ Grows O O w w'

theorem push_out (h : ArAt w a bc br fa fc S O) (row v : Int) (hi : S.inB row = false) :
    Calls Try.prog 8 #[.pointer (some ⟨a, 0, none⟩), .int .i64 row, .int .i64 v] w fun e w' => w = w' ∧ e = .returned (.tuple #[.int .i64 0, .int .i64 1]) := by
  have Hi := Lib.hid hi
  clear hi
  go_enter Try.func8, Try.ntmps8
  go_wp2_with fail
  refine (in_any h row).mono ?_
  rintro e w' ⟨rfl, rfl⟩
  rw [Hi.out]
  go_wp2
  go_ret2
  exact ⟨rfl, rfl⟩
def FullPost (w : World) (e : Ending) (w' : World) : Prop := (∃ n, w' = w.drewN n) ∧ e = .returned (.tuple #[.int .i64 0, .int .i64 8])
theorem push_full (h : ArAt w a bc br fa fc S O) (row v : Int) (hi : S.inB row = true) (hf : S.freeI = 0) :
    Calls Try.prog 8 #[.pointer (some ⟨a, 0, none⟩), .int .i64 row, .int .i64 v] w (FullPost w) := by
  have Hi := Lib.hid hi
  have Hf := Lib.hid hf
  clear hi hf
  go_enter Try.func8, Try.ntmps8
  go_wp2_with fail
  refine (in_any h row).mono ?_
  rintro e w' ⟨rfl, rfl⟩
  rw [Hi.out]
  go_wp2_with fail
  refine (free_any h).mono ?_
  rintro e w' ⟨n, rfl, rfl⟩
  rw [Hf.out]
  go_wp2
  go_ret2
  exact ⟨⟨n, rfl⟩, rfl⟩

/-- What a value put wants of the arena. -/
structure Ar.Can (S : Ar) (r : Nat) : Prop where
  hr : r < S.R
  free : S.freeI ≠ 0
  hc : 0 ≤ S.takeI ∧ S.takeI < S.N
  last : (S.ends r).last = -1 ∨ (0 ≤ (S.ends r).last ∧ (S.ends r).last < S.N)
  n : 0 ≤ (S.ends r).n ∧ (S.ends r).n ≤ 4096

theorem take_any (h : ArAt w a bc br fa fc S O) (hf : S.freeI ≠ 0) : Calls Try.prog 19 #[.pointer (some ⟨a, 0, none⟩)] w (TakePost a bc br S O w) := by
  by_cases hn : S.freed = []
  · have := h.bf
    refine take_fresh h hn ?_
    simp [Ar.freeI, hn] at hf; omega
  · exact take_freed h hn
theorem takeS_same (S : Ar) : S.takeS.N = S.N ∧ S.takeS.R = S.R ∧ S.takeS.cell = S.cell ∧ S.takeS.ends = S.ends := by
  unfold Ar.takeS; split <;> exact ⟨rfl, rfl, rfl, rfl⟩

theorem pushS_first {r i : Nat} {v : Int} (hi : S.takeI = i) (hl : (S.ends r).last = -1) :
    S.pushS r v = { S.takeS with cell := upd S.cell i ⟨v, r, (S.ends r).last, -1⟩, ends := upd S.ends r ⟨i, i, (S.ends r).n + 1⟩ } := by
  obtain ⟨_, _, tC, tE⟩ := takeS_same S
  simp only [Ar.pushS, tC, tE, hi, hl, if_true, Int.toNat_natCast]
theorem pushS_more {r i l : Nat} {v : Int} (hi : S.takeI = i) (hl : (S.ends r).last = l) :
    S.pushS r v = { S.takeS with cell := upd (upd S.cell i ⟨v, r, (S.ends r).last, -1⟩) l { (upd S.cell i ⟨v, r, (S.ends r).last, -1⟩) l with next := i }, ends := upd S.ends r ⟨(S.ends r).first, i, (S.ends r).n + 1⟩ } := by
  obtain ⟨_, _, tC, tE⟩ := takeS_same S
  have hne : ¬ ((l : Int) = -1) := by omega
  simp only [Ar.pushS, tC, tE, hi, hl, if_neg hne, Int.toNat_natCast]

set_option maxHeartbeats 1000000 in
theorem push_in (h : ArAt w a bc br fa fc S O) (r : Nat) (v : Int) (hc : S.Can r) :
    Calls Try.prog 8 #[.pointer (some ⟨a, 0, none⟩), .int .i64 r, .int .i64 v] w (PushPost a bc br (S.pushS r v) S.takeI O w) := by
  obtain ⟨hr, hfree, ⟨hc0, hc1⟩, hlast, hn0, hn1⟩ := hc
  have hin : S.inB r = true := by simp [Ar.inB, hr]
  have Hin := Lib.hid hin
  have Hfree := Lib.hid hfree
  have hfb : (S.freeI == 0) = false := by simpa using hfree
  have hbr := h.br'
  have hbn := h.bn
  clear hin hfree
  go_enter Try.func8, Try.ntmps8
  go_wp2_with fail
  refine (in_any h r).mono ?_
  rintro e w' ⟨rfl, rfl⟩
  rw [Hin.out]
  go_wp2_with fail
  refine (free_any h).mono ?_
  rintro e w' ⟨n, rfl, rfl⟩
  go_wp2_with fail
  refine (take_any (h.drewN n) Hfree.out).mono ?_
  rintro e w1 ⟨fa1, fc1, rfl, h1, g1⟩
  obtain ⟨tN, tR, tC, tE⟩ := takeS_same S
  have hI := hc0
  have Hpush : Hid (∀ X, X = S.pushS r v → X = S.pushS r v) := fun _ h => h
  obtain ⟨i, hi⟩ : ∃ i : Nat, S.takeI = i := ⟨S.takeI.toNat, by omega⟩
  have HI := Lib.hid hi
  rw [hi] at hc1 ⊢
  clear hc0 hI hi
  have c0 : w1.cell? ⟨a, 0, none⟩ = some (.slice (some ⟨bc, 0, none⟩) S.N S.N) := by rw [cell_of_block h1.st, tN]; rfl
  have c1 : w1.cell? ⟨a, 1, none⟩ = some (.slice (some ⟨br, 0, none⟩) S.R S.R) := by rw [cell_of_block h1.st, tR]; rfl
  have hl : w1.cell? ⟨br, r * 3 + 1, none⟩ = some (.int .i64 (S.ends r).last) := by rw [h1.rs.cell (by rw [tR]; omega), flatE_at _ _ _ (by decide), tE]; rfl
  go_upto_region 7 with fail
  go_cut [] (fun wx => Mid a bc br { S.takeS with cell := upd S.cell i ⟨v, r, (S.ends r).last, -1⟩ } O w wx)
  case first =>
    have hiN : i < S.takeS.N := by omega
    have d0 : w1.cell? ⟨bc, i * 4, none⟩ = some (flatC S.takeS.cell (i * 4)) := h1.cs.cell (by omega)
    have d1 : w1.cell? ⟨bc, i * 4 + 1, none⟩ = some (flatC S.takeS.cell (i * 4 + 1)) := h1.cs.cell (by omega)
    have d2 : w1.cell? ⟨bc, i * 4 + 2, none⟩ = some (flatC S.takeS.cell (i * 4 + 2)) := h1.cs.cell (by omega)
    have d3 : w1.cell? ⟨bc, i * 4 + 3, none⟩ = some (flatC S.takeS.cell (i * 4 + 3)) := h1.cs.cell (by omega)
    have e0 := h1.cs.free (i * 4)
    have e1 := h1.cs.free (i * 4 + 1)
    have e2 := h1.cs.free (i * 4 + 2)
    have e3 := h1.cs.free (i * 4 + 3)
    go_region
    all_goals (go_wp2_with fail; go_meet)
    have hst := h1.storeC4 hiN ⟨v, r, (S.ends r).last, -1⟩
    rw [tC] at hst
    exact ⟨fa1, fc1, hst.drew, (((((g1.of_drewN).setCell h1.oc _).setCell h1.oc _).setCell h1.oc _).setCell h1.oc _).drew⟩
  case rest =>
    obtain ⟨fa2, fc2, h2, g2⟩ := hcut
    clear c0 c1 hl h1 g1
    have c0 : wc.cell? ⟨a, 0, none⟩ = some (.slice (some ⟨bc, 0, none⟩) S.N S.N) := by rw [cell_of_block h2.st]; show some _ = some _; rw [tN]; rfl
    have q0 : wc.cell? ⟨br, r * 3, none⟩ = some (.int .i64 (S.ends r).first) := by have := h2.rs.cell (j := r * 3 + 0) (by show _ < S.takeS.R * 3; rw [tR]; omega); rw [flatE_at _ _ _ (by decide)] at this; rw [Nat.add_zero] at this; rw [this]; show some _ = some _; rw [tE]; rfl
    have q1 : wc.cell? ⟨br, r * 3 + 1, none⟩ = some (.int .i64 (S.ends r).last) := by rw [h2.rs.cell (by show _ < S.takeS.R * 3; rw [tR]; omega), flatE_at _ _ _ (by decide)]; show some _ = some _; rw [tE]; rfl
    have q2 : wc.cell? ⟨br, r * 3 + 2, none⟩ = some (.int .i64 (S.ends r).n) := by rw [h2.rs.cell (by show _ < S.takeS.R * 3; rw [tR]; omega), flatE_at _ _ _ (by decide)]; show some _ = some _; rw [tE]; rfl
    have p0 := h2.rs.free (r * 3)
    have p1 := h2.rs.free (r * 3 + 1)
    have p2 := h2.rs.free (r * 3 + 2)
    have hrR : r < S.takeS.R := by omega
    rcases hlast with hl | hl
    · rw [hl] at q1
      have Hl := Lib.hid hl
      clear hl
      go_wp2
      go_ret2
      rw [pushS_first HI.out Hl.out, HI.out]
      have := h2.storeE3 hrR ⟨i, i, (S.ends r).n + 1⟩
      simp only [tE] at this
      exact ⟨fa2, fc2, rfl, this, (((g2.setCell h2.or _).setCell h2.or _).setCell h2.or _)⟩
    · obtain ⟨l, hl'⟩ : ∃ l : Nat, (S.ends r).last = l := ⟨(S.ends r).last.toNat, by omega⟩
      rw [hl'] at q1 hl
      have Hl := Lib.hid hl'
      have hln : ((l : Int) == -1) = false := beq_eq_false_iff_ne.2 (by omega)
      clear hl'
      go_upto_region 10 with fail
      go_cut [] (fun wx => Mid a bc br { S.takeS with cell := upd (upd S.cell i ⟨v, r, (S.ends r).last, -1⟩) l { (upd S.cell i ⟨v, r, (S.ends r).last, -1⟩) l with next := i } } O w wx)
      case first =>
        have d3 : wc.cell? ⟨bc, l * 4 + 3, none⟩ = some _ := h2.cs.cell (j := l * 4 + 3) (by show _ < S.takeS.N * 4; rw [tN]; omega)
        have e3 := h2.cs.free (l * 4 + 3)
        go_region
        all_goals (go_wp2_with fail; go_meet)
        have hst := h2.storeC (i := l) (by show _ < S.takeS.N; omega) (k := 3) (by decide) i { (upd S.cell i ⟨v, r, (S.ends r).last, -1⟩) l with next := i } (fun m hm => by match m, hm with | 0, _ | 1, _ | 2, _ | 3, _ => rfl)
        exact ⟨fa2, fc2, hst.drew, (g2.setCell h2.oc _).drew⟩
      case rest =>
        obtain ⟨fa3, fc3, h3, g3⟩ := hcut
        clear c0 q0 q1 q2 p0 p1 p2 h2 g2
        have q2 : wc.cell? ⟨br, r * 3 + 2, none⟩ = some (.int .i64 (S.ends r).n) := by rw [h3.rs.cell (by show _ < S.takeS.R * 3; rw [tR]; omega), flatE_at _ _ _ (by decide)]; show some _ = some _; rw [tE]; rfl
        have q1 : wc.cell? ⟨br, r * 3 + 1, none⟩ = some (.int .i64 l) := by rw [h3.rs.cell (by show _ < S.takeS.R * 3; rw [tR]; omega), flatE_at _ _ _ (by decide)]; show some _ = some _; rw [tE, ← Hl.out]; rfl
        have p1 := h3.rs.free (r * 3 + 1)
        have p2 := h3.rs.free (r * 3 + 2)
        go_wp2
        go_ret2
        rw [pushS_more HI.out Hl.out, HI.out]
        have := h3.storeE2 hrR ⟨(S.ends r).first, i, (S.ends r).n + 1⟩ (by show _ = (S.takeS.ends r).first; rw [tE])
        simp only [tE] at this
        exact ⟨fa3, fc3, rfl, this, ((g3.setCell h3.or _).setCell h3.or _)⟩
end Go.Proofs.Ytpcoffpdkfbhdaa
