/- The walks of the arena: a value is taken out. -/
import Derived.Test.YtpcoffpdkfbhdaaFd
namespace Go.Proofs.Ytpcoffpdkfbhdaa
open Go.RowKit
variable {w : World} {a bc br fc : Nat} {fa : Option Addr} {S : Ar} {O : Nat → Bool}

theorem remove_no (h : ArAt w a bc br fa fc S O) (c : Int) (hi : S.takenB c = false) :
    Calls Try.prog 9 #[.pointer (some ⟨a, 0, none⟩), .int .i64 c] w fun e w' => w = w' ∧ e = .returned (.bool false) := by
  have Hi := Lib.hid hi
  clear hi
  go_enter Try.func9, Try.ntmps9
  go_wp2_with fail
  refine (taken_any h c).mono ?_
  rintro e w' ⟨rfl, rfl⟩
  rw [Hi.out]
  go_wp2
  go_ret
  exact ⟨rfl, rfl⟩

/-- The row's ends and the neighbours, as they are turned step by step. -/
def Ar.cutPrev (S : Ar) (x : Cl) (r : Nat) : Ar :=
  if x.prev = -1 then { S with ends := upd S.ends r { S.ends r with first := x.next } }
  else { S with cell := upd S.cell x.prev.toNat { S.cell x.prev.toNat with next := x.next } }
def Ar.cutNext (S : Ar) (x : Cl) (r : Nat) : Ar :=
  if x.next = -1 then { S with ends := upd S.ends r { S.ends r with last := x.prev } }
  else { S with cell := upd S.cell x.next.toNat { S.cell x.next.toNat with prev := x.prev } }
def Ar.cutLen (S : Ar) (r : Nat) : Ar := { S with ends := upd S.ends r { S.ends r with n := (S.ends r).n - 1 } }
def Ar.removeS (S : Ar) (i : Nat) : Ar :=
  let x := S.cell i
  let r := x.row.toNat
  let T := ((S.cutPrev x r).cutNext x r).cutLen r
  { T with cell := upd T.cell i ⟨0, -1, -1, -1⟩, freed := S.freed ++ [(i : Int)] }

theorem cutPrev_same (S : Ar) (x : Cl) (r : Nat) : (S.cutPrev x r).N = S.N ∧ (S.cutPrev x r).R = S.R ∧ (S.cutPrev x r).freed = S.freed ∧ (S.cutPrev x r).fresh = S.fresh ∧ ((S.cutPrev x r).ends r).n = (S.ends r).n := by
  unfold Ar.cutPrev; split
  · exact ⟨rfl, rfl, rfl, rfl, by simp only [upd_same]⟩
  · exact ⟨rfl, rfl, rfl, rfl, rfl⟩
theorem cutNext_same (S : Ar) (x : Cl) (r : Nat) : (S.cutNext x r).N = S.N ∧ (S.cutNext x r).R = S.R ∧ (S.cutNext x r).freed = S.freed ∧ (S.cutNext x r).fresh = S.fresh ∧ ((S.cutNext x r).ends r).n = (S.ends r).n := by
  unfold Ar.cutNext; split
  · exact ⟨rfl, rfl, rfl, rfl, by simp only [upd_same]⟩
  · exact ⟨rfl, rfl, rfl, rfl, rfl⟩

/-- What a value taken out wants of the arena. -/
structure Ar.Has (S : Ar) (i r : Nat) : Prop where
  hi : i < S.N
  row : (S.cell i).row = r
  hr : r < S.R
  prev : (S.cell i).prev = -1 ∨ (0 ≤ (S.cell i).prev ∧ (S.cell i).prev < S.N)
  next : (S.cell i).next = -1 ∨ (0 ≤ (S.cell i).next ∧ (S.cell i).next < S.N)
  n : 0 ≤ (S.ends r).n ∧ (S.ends r).n ≤ 4096
  room : S.freed.length < 4096

def RemPost (a bc br : Nat) (S' : Ar) (O : Nat → Bool) (w : World) (e : Ending) (w' : World) : Prop :=
  ∃ fa' fc' O', e = .returned (.bool true) ∧ ArAt w' a bc br fa' fc' S' O' ∧ Grows O O' w w'
def MidR (a bc br : Nat) (S' : Ar) (O : Nat → Bool) (xb : Nat) (x : Cl) (w w' : World) : Prop :=
  ∃ fa' fc', ArAt w' a bc br fa' fc' S' O ∧ Grows O O w w' ∧ w'.heap[xb]? = some (.cells #[.int .i64 x.v, .int .i64 x.row, .int .i64 x.prev, .int .i64 x.next] 52 (0, 0)) ∧ O xb = false

theorem Try.info3' : (Try.prog.info? 3).map (fun i => (i.zero, i.size, i.bytes)) = some (some (.int .i64 0), 1, 8) := by kernel_rfl

/-- The freed cells with one more. -/
theorem append_freed {w W w5 : World} {fc5 : Nat} {fa5 : Option Addr} {o : Obj} {i : Int} (h4 : ArAt W a bc br fa fc S O) (g4 : Grows O O w W) (hroom : S.freed.length < 4096)
    (hsl : SlAt w5 3 1 fa5 (S.freed.length + 1) fc5 (S.freed.map (Value.int .i64) ++ [.int .i64 i])) (hg5 : (W.alloc o).grownBy w5 (fa.map (·.block)))
    (hb5 : ∀ t, fa5 = some t → fa.map (·.block) = some t.block ∨ (W.alloc o).heap.size ≤ t.block) :
    ∃ O', ArAt (w5.setCell ⟨a, 2, none⟩ (.slice fa5 (S.freed.length + 1) fc5)) a bc br fa5 fc5 { S with freed := S.freed ++ [i] } O' ∧ Grows O O' w (w5.setCell ⟨a, 2, none⟩ (.slice fa5 (S.freed.length + 1) fc5)) := by
  have la := lt_of_block h4.st
  have hsz : (W.alloc o).heap.size = W.heap.size + 1 := by simp
  have hs5 := hg5.size
  have hfa : ∀ t, fa = some t → t.block ≠ a := fun t ht => by have := h4.fr; rw [ht] at this; exact this.ne_block h4.st (by decide)
  have hblk : ∀ j, j < W.heap.size → (∀ t, fa = some t → j ≠ t.block) → w5.heap[j]? = W.heap[j]? := fun j hj hne =>
    (hg5.block j (by omega) (fun e => by
      cases hfa' : fa with
      | none => rw [hfa'] at e; cases e
      | some t => rw [hfa'] at e; exact hne t hfa' (by simpa using e))).trans (Below.heap_alloc _ _ _ hj)
  have hst5 : w5.heap[a]? = _ := (hblk a la fun t ht e => hfa t ht e.symm).trans h4.st
  let O' : Nat → Bool := fun j => if j < W.heap.size then O j else decide (j < w5.heap.size)
  have hO' : ∀ j, j < W.heap.size → O' j = O j := fun j hj => if_pos hj
  have hof : ∀ t, fa5 = some t → O' t.block = true := fun t ht => by
    have hlt := hsl.lt t ht
    rcases hb5 t ht with h | h
    · cases hfa' : fa with
      | none => rw [hfa'] at h; cases h
      | some u =>
        rw [hfa'] at h
        have hu : u.block = t.block := by simpa using h
        rw [← hu, hO' _ (h4.fr.lt u hfa')]; exact h4.ofr u hfa'
    · show (if t.block < W.heap.size then O t.block else decide (t.block < w5.heap.size)) = true
      rw [if_neg (by omega)]; simpa using hlt
  refine ⟨O', ?_, ?_⟩
  · refine h4.setSt (fresh' := S.fresh) (freed' := S.freed ++ [i]) ?_ (fun j hj hja hne => ?_) ?_ hof hO' (fun j hj => ?_) h4.bf (by simp; omega)
    · rw [block_setCell hst5 2 _]; simp
    · rw [Below.heap_setCell _ _ _ _ hja]; exact hblk j hj hne
    · have hne5 : ∀ t, fa5 = some t → t.block ≠ a := fun t ht => by have := hsl; rw [ht] at this; exact this.ne_block hst5 (by decide)
      have : SlAt w5 3 1 fa5 (S.freed ++ [i]).length fc5 ((S.freed ++ [i]).map (Value.int .i64)) := by simpa using hsl
      exact this.kept fun t ht => Below.heap_setCell _ _ _ _ (hne5 t ht)
    · have hj' : w5.heap.size ≤ j := by simpa using hj
      show (if j < W.heap.size then O j else decide (j < w5.heap.size)) = false
      rw [if_neg (by omega)]; simp; omega
  · refine g4.trans ⟨⟨hg5.os, hg5.tape, hg5.output, by simp; omega, fun j hj hne => ?_⟩, hO'⟩
    have hja : j ≠ a := fun e => hne (by rw [e]; exact h4.oa)
    rw [Below.heap_setCell _ _ _ _ hja]
    exact hblk j hj fun t ht e => hne (by rw [e]; exact h4.ofr t ht)

set_option maxHeartbeats 2000000 in
set_option maxRecDepth 100000 in
theorem remove_yes (h : ArAt w a bc br fa fc S O) (i r : Nat) (hh : S.Has i r) :
    Calls Try.prog 9 #[.pointer (some ⟨a, 0, none⟩), .int .i64 i] w (RemPost a bc br (S.removeS i) O w) := by
  obtain ⟨hi, hrow, hr, hprev, hnext, ⟨hn0, hn1⟩, hroom⟩ := hh
  have ht : S.takenB i = true := by simp [Ar.takenB, hi, hrow]
  have Ht := Lib.hid ht
  have Hroom := Lib.hid hroom
  have hbr := h.br'
  have hbn := h.bn
  have c0 : w.cell? ⟨a, 0, none⟩ = some (.slice (some ⟨bc, 0, none⟩) S.N S.N) := by rw [cell_of_block h.st]; rfl
  have c1 : w.cell? ⟨a, 1, none⟩ = some (.slice (some ⟨br, 0, none⟩) S.R S.R) := by rw [cell_of_block h.st]; rfl
  have x0 : w.cell? ⟨bc, i * 4, none⟩ = some (.int .i64 (S.cell i).v) := by have := h.cs.cell (j := i * 4 + 0) (by omega); rw [flatC_at _ _ _ (by decide)] at this; exact this
  have x1 : w.cell? ⟨bc, i * 4 + 1, none⟩ = some (.int .i64 r) := by rw [h.cs.cell (by omega), flatC_at _ _ _ (by decide), ← hrow]; rfl
  have x2 : w.cell? ⟨bc, i * 4 + 2, none⟩ = some (.int .i64 (S.cell i).prev) := by rw [h.cs.cell (by omega), flatC_at _ _ _ (by decide)]; rfl
  have x3 : w.cell? ⟨bc, i * 4 + 3, none⟩ = some (.int .i64 (S.cell i).next) := by rw [h.cs.cell (by omega), flatC_at _ _ _ (by decide)]; rfl
  have hba := lt_of_block h.st
  have hbb := h.cs.lt
  have hbc := h.rs.lt
  have Hrow := Lib.hid hrow
  clear ht hroom hrow
  go_enter Try.func9, Try.ntmps9
  go_wp2_with fail
  refine (taken_any h i).mono ?_
  rintro e w' ⟨rfl, rfl⟩
  rw [Ht.out]
  go_upto_region 4 with fail
  have g0 : ArAt (w.alloc (.cells #[.int .i64 (S.cell i).v, .int .i64 r, .int .i64 (S.cell i).prev, .int .i64 (S.cell i).next] 52)) a bc br fa fc S O :=
    h.same (fun j hj _ => Below.heap_alloc _ _ _ hj) (fun _ _ => rfl) (fun j hj => h.new j (by simp at hj; omega))
  have gg : Grows O O w (w.alloc (.cells #[.int .i64 (S.cell i).v, .int .i64 r, .int .i64 (S.cell i).prev, .int .i64 (S.cell i).next] 52)) := ⟨(Kept.refl _ _).alloc _, fun _ _ => rfl⟩
  have gx : (w.alloc (.cells #[.int .i64 (S.cell i).v, .int .i64 r, .int .i64 (S.cell i).prev, .int .i64 (S.cell i).next] 52)).heap[w.heap.size]? = some (.cells #[.int .i64 (S.cell i).v, .int .i64 (S.cell i).row, .int .i64 (S.cell i).prev, .int .i64 (S.cell i).next] 52 (0, 0)) := by
    rw [block_alloc_new, Hrow.out]
  have gO := h.new w.heap.size (Nat.le_refl _)
  go_cut [6] (fun s6 wx => s6 = .pointer (some ⟨br, r * 3, none⟩) ∧ MidR a bc br S O w.heap.size (S.cell i) w wx)
  case first =>
    go_quiet (fail)
    go_wp2_with fail
    go_meet
    exact ⟨rfl, fa, fc, g0.drewN _, gg.drewN _, gx, gO⟩
  case rest =>
    obtain ⟨rfl, fa1, fc1, h1, g1, k1, ko⟩ := hcut
    clear c0 c1 x0 x1 x2 x3 g0 gg gx gO hba hbb hbc
    generalize w.heap.size = xb at k1 ko ⊢
    have y2 : wc.cell? ⟨xb, 2, none⟩ = some (.int .i64 (S.cell i).prev) := by rw [cell_of_block k1]; rfl
    have y3 : wc.cell? ⟨xb, 3, none⟩ = some (.int .i64 (S.cell i).next) := by rw [cell_of_block k1]; rfl
    go_upto_if 27 with fail
    go_cut [] (fun wx => MidR a bc br (S.cutPrev (S.cell i) r) O xb (S.cell i) w wx)
    case first =>
      rcases hprev with hp | hp
      · have hb : ((S.cell i).prev == -1) = true := beq_iff_eq.2 hp
        have Hp := Lib.hid hp
        have d0 : wc.cell? ⟨br, r * 3, none⟩ = some _ := h1.rs.cell (j := r * 3) (by omega)
        have e0 := h1.rs.free (r * 3)
        clear hp
        go_wp2
        go_meet
        have hst := h1.storeE hr (k := 0) (by decide) (S.cell i).next { S.ends r with first := (S.cell i).next } (fun m hm => by match m, hm with | 0, _ | 1, _ | 2, _ => rfl)
        have hbx : xb ≠ br := fun e => by rw [e, h1.or] at ko; cases ko
        rw [Ar.cutPrev, if_pos Hp.out]
        exact ⟨fa1, fc1, hst, g1.setCell h1.or _, by rw [block_setCell_ne k1 hbx], ko⟩
      · have hb : ((S.cell i).prev == -1) = false := beq_eq_false_iff_ne.2 (by omega)
        obtain ⟨l, hl⟩ : ∃ l : Nat, (S.cell i).prev = l := ⟨(S.cell i).prev.toNat, by omega⟩
        have Hp : Hid (¬ (S.cell i).prev = -1) := fun e => by omega
        have Hl := Lib.hid hl
        have hlN : l < S.N := by omega
        rw [hl] at y2
        have c0 : wc.cell? ⟨a, 0, none⟩ = some (.slice (some ⟨bc, 0, none⟩) S.N S.N) := by rw [cell_of_block h1.st]; rfl
        have d3 : wc.cell? ⟨bc, l * 4 + 3, none⟩ = some _ := h1.cs.cell (j := l * 4 + 3) (by omega)
        have e3 := h1.cs.free (l * 4 + 3)
        clear hl hp
        go_wp2_with fail
        go_region
        all_goals (go_wp2_with fail; go_meet)
        have hst := h1.storeC hlN (k := 3) (by decide) (S.cell i).next { S.cell l with next := (S.cell i).next } (fun m hm => by match m, hm with | 0, _ | 1, _ | 2, _ | 3, _ => rfl)
        have hbx : xb ≠ bc := fun e => by rw [e, h1.oc] at ko; cases ko
        have hS : S.cutPrev (S.cell i) r = { S with cell := upd S.cell l { S.cell l with next := (S.cell i).next } } := by
          rw [Ar.cutPrev, if_neg Hp.out, Hl.out, Int.toNat_natCast]
        rw [hS]
        exact ⟨fa1, fc1, hst.drew, (g1.setCell h1.oc _).drew, (block_setCell_ne k1 hbx _), ko⟩
    case rest =>
      obtain ⟨fa2, fc2, h2, g2, k2, ko2⟩ := hcut
      obtain ⟨pN, pR, pF, pf, pn⟩ := cutPrev_same S (S.cell i) r
      clear y2 y3 k1 g1 h1
      generalize hS1 : S.cutPrev (S.cell i) r = S1 at *
      have HS1 := Lib.hid hS1
      clear hS1
      have y2 : wc.cell? ⟨xb, 2, none⟩ = some (.int .i64 (S.cell i).prev) := by rw [cell_of_block k2]; rfl
      have y3 : wc.cell? ⟨xb, 3, none⟩ = some (.int .i64 (S.cell i).next) := by rw [cell_of_block k2]; rfl
      go_upto_if 45 with fail
      go_cut [] (fun wx => MidR a bc br (S1.cutNext (S.cell i) r) O xb (S.cell i) w wx)
      case first =>
        rcases hnext with hp | hp
        · have hb : ((S.cell i).next == -1) = true := beq_iff_eq.2 hp
          have Hp := Lib.hid hp
          have d0 : wc.cell? ⟨br, r * 3 + 1, none⟩ = some _ := h2.rs.cell (j := r * 3 + 1) (by omega)
          have e0 := h2.rs.free (r * 3 + 1)
          clear hp
          go_wp2
          go_meet
          have hst := h2.storeE (i := r) (by omega) (k := 1) (by decide) (S.cell i).prev { S1.ends r with last := (S.cell i).prev } (fun m hm => by match m, hm with | 0, _ | 1, _ | 2, _ => rfl)
          have hbx : xb ≠ br := fun e => by rw [e, h2.or] at ko; cases ko
          rw [Ar.cutNext, if_pos Hp.out]
          exact ⟨fa2, fc2, hst, g2.setCell h2.or _, by rw [block_setCell_ne k2 hbx], ko⟩
        · have hb : ((S.cell i).next == -1) = false := beq_eq_false_iff_ne.2 (by omega)
          obtain ⟨l, hl⟩ : ∃ l : Nat, (S.cell i).next = l := ⟨(S.cell i).next.toNat, by omega⟩
          have Hp : Hid (¬ (S.cell i).next = -1) := fun e => by omega
          have Hl := Lib.hid hl
          have hlN : l < S1.N := by omega
          rw [hl] at y3
          have c0 : wc.cell? ⟨a, 0, none⟩ = some (.slice (some ⟨bc, 0, none⟩) S1.N S1.N) := by rw [cell_of_block h2.st]; rfl
          have hb1 := h2.bn
          have d3 : wc.cell? ⟨bc, l * 4 + 2, none⟩ = some _ := h2.cs.cell (j := l * 4 + 2) (by omega)
          have e3 := h2.cs.free (l * 4 + 2)
          clear hl hp pN pR pF pf pn
          go_wp2_with fail
          go_region
          all_goals (go_wp2_with fail; go_meet)
          have hst := h2.storeC hlN (k := 2) (by decide) (S.cell i).prev { S1.cell l with prev := (S.cell i).prev } (fun m hm => by match m, hm with | 0, _ | 1, _ | 2, _ | 3, _ => rfl)
          have hbx : xb ≠ bc := fun e => by rw [e, h2.oc] at ko; cases ko
          have hS : S1.cutNext (S.cell i) r = { S1 with cell := upd S1.cell l { S1.cell l with prev := (S.cell i).prev } } := by
            rw [Ar.cutNext, if_neg Hp.out, Hl.out, Int.toNat_natCast]
          rw [hS]
          exact ⟨fa2, fc2, hst.drew, (g2.setCell h2.oc _).drew, (block_setCell_ne k2 hbx _), ko⟩
      case rest =>
        obtain ⟨fa3, fc3, h3, g3, k3, ko3⟩ := hcut
        obtain ⟨qN, qR, qF, qf, qn⟩ := cutNext_same S1 (S.cell i) r
        clear y2 y3 k2 g2 h2
        generalize hS2 : S1.cutNext (S.cell i) r = S2 at *
        have HS2 := Lib.hid hS2
        clear hS2
        have n2 : wc.cell? ⟨br, r * 3 + 2, none⟩ = some (.int .i64 (S.ends r).n) := by rw [h3.rs.cell (by omega), flatE_at _ _ _ (by decide)]; show some (Value.int .i64 (S2.ends r).n) = _; rw [qn, pn]
        have m2 := h3.rs.free (r * 3 + 2)
        have c0 : wc.cell? ⟨a, 0, none⟩ = some (.slice (some ⟨bc, 0, none⟩) S.N S.N) := by rw [cell_of_block h3.st, qN, pN]; rfl
        have d0 : wc.cell? ⟨bc, i * 4, none⟩ = some _ := h3.cs.cell (j := i * 4) (by omega)
        have d1 : wc.cell? ⟨bc, i * 4 + 1, none⟩ = some _ := h3.cs.cell (j := i * 4 + 1) (by omega)
        have d2 : wc.cell? ⟨bc, i * 4 + 2, none⟩ = some _ := h3.cs.cell (j := i * 4 + 2) (by omega)
        have d3 : wc.cell? ⟨bc, i * 4 + 3, none⟩ = some _ := h3.cs.cell (j := i * 4 + 3) (by omega)
        have e0 := h3.cs.free (i * 4)
        have e1 := h3.cs.free (i * 4 + 1)
        have e2 := h3.cs.free (i * 4 + 2)
        have e3 := h3.cs.free (i * 4 + 3)
        have hbb : bc ≠ br := h3.cs.ne h3.rs (by decide)
        have h4 := (h3.storeE (i := r) (by omega) (k := 2) (by decide) ((S.ends r).n - 1) { S2.ends r with n := (S.ends r).n - 1 } (fun m hm => by match m, hm with | 0, _ | 1, _ | 2, _ => rfl)).storeC4 (i := i) (by show _ < S2.N; omega) ⟨0, -1, -1, -1⟩
        have g4 : Grows O O w _ := ((((g3.setCell (p := ⟨br, r * 3 + 2, none⟩) h3.or (.int .i64 ((S.ends r).n - 1))).setCell (p := ⟨bc, i * 4, none⟩) h3.oc (.int .i64 0)).setCell (p := ⟨bc, i * 4 + 1, none⟩) h3.oc (.int .i64 (-1))).setCell (p := ⟨bc, i * 4 + 2, none⟩) h3.oc (.int .i64 (-1))).setCell (p := ⟨bc, i * 4 + 3, none⟩) h3.oc (.int .i64 (-1))
        go_upto_region 13 with fail
        clear c0 d0 d1 d2 d3 e0 e1 e2 e3 n2 m2 hbb h3 g3 k3 ko3
        generalize ((((wc.setCell ⟨br, r * 3 + 2, none⟩ (.int .i64 ((S.ends r).n - 1))).setCell ⟨bc, i * 4, none⟩ (.int .i64 0)).setCell ⟨bc, i * 4 + 1, none⟩ (.int .i64 (-1))).setCell ⟨bc, i * 4 + 2, none⟩ (.int .i64 (-1))).setCell ⟨bc, i * 4 + 3, none⟩ (.int .i64 (-1)) = W at h4 g4 ⊢
        have hfr : S2.freed = S.freed := by rw [qF, pF]
        obtain ⟨i0, hi0, hz0, hz1, hz2⟩ := info_parts Try.info3'
        have c2 : W.cell? ⟨a, 2, none⟩ = some (.slice fa3 S2.freed.length fc3) := by rw [cell_of_block h4.st]; rfl
        have f2 := free_of_block h4.st 2
        have hla := lt_of_block h4.st
        have hlen : S2.freed.length < 4096 := by rw [hfr]; exact Hroom.out
        have Hfr := Lib.hid hfr
        have hnn : (S2.ends r).n = (S.ends r).n := by rw [qn, pn]
        have Hn := Lib.hid hnn
        clear hnn hfr qN qR qF qf qn pN pR pF pf pn
        go_wp2_with (at_builtin; refine wpList_append_sl rfl (.tmp 79) (.tmp 81) 29 rfl 3 i0 (.int .i64 0) 1 8 Try.underlying29 hi0 hz0 hz1 hz2 rfl (by decide) fa3 S2.freed.length fc3 (S2.freed.map (Value.int .i64)) rfl (h4.fr.kept fun t ht => Below.heap_alloc _ _ _ (h4.fr.lt t ht)) ⟨W.heap.size, 0, none⟩ 1 1 [.int .i64 i] rfl rfl (World.news_of_block (block_alloc_new W _)) (by intro u hu; simp at hu; subst hu; rfl) (by unfold maxLen; omega) (by omega) (by decide) ?_; intro fa5 fc5 w5 hsl5 hg5 hb5; obtain ⟨O5, h5, g5⟩ := append_freed h4 g4 hlen hsl5 hg5 hb5; have hst5 : w5.heap[a]? = _ := (hg5.block a (by simp; omega) (fun e => by { cases hfa' : fa3 with | none => rw [hfa'] at e; cases e | some t => { rw [hfa'] at e; have := h4.fr; rw [hfa'] at this; exact this.ne_block h4.st (by decide) (by simpa using e.symm) } })).trans ((Below.heap_alloc _ _ _ hla).trans h4.st); have k2 : w5.cell? ⟨a, 2, none⟩ = some (.slice fa3 S2.freed.length fc3) := (by rw [cell_of_block hst5]; rfl); have l2 : w5.frozen? ⟨a, 2, none⟩ = false := free_of_block hst5 2; clear hst5)
        go_ret
        have hfin : S.removeS i = { { S2 with cell := upd S2.cell i ⟨0, -1, -1, -1⟩, ends := upd S2.ends r { S2.ends r with n := (S.ends r).n - 1 } } with freed := S2.freed ++ [(i : Int)] } := by
          have hrt : (S.cell i).row.toNat = r := by rw [Hrow.out]; rfl
          have e2 : (S.cutPrev (S.cell i) r).cutNext (S.cell i) r = S2 := by rw [HS1.out, HS2.out]
          simp only [Ar.removeS, hrt, e2, Ar.cutLen, Hn.out, Hfr.out]
        rw [hfin]
        exact ⟨fa5, fc5, O5, rfl, h5, g5⟩
end Go.Proofs.Ytpcoffpdkfbhdaa
