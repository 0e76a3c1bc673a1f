/- Alloc: tables by the reference: whether they may be: Check 21. -/
import Derived.Test.YtgbdnodkbdkaeaaBl
namespace Go.Proofs.Ytgbdnodkbdkaeaa
open Go Go.RowKit

def frT (xs : Tb) (i : Nat) : Int := (xs.getD i (0, 0)).1
def byT (xs : Tb) (i : Nat) : Int := (xs.getD i (0, 0)).2
def stepB (xs : Tb) (i : Nat) : Bool := (if i = 0 then frT xs i == 1 else decide (frT xs (i - 1) < frT xs i)) && (decide (frT xs i ≤ 1000000) && (decide (1 ≤ byT xs i) && decide (byT xs i ≤ 10000)))
def divB (xs : Tb) (i : Nat) : Bool := i == 0 || ((frT xs i - frT xs (i - 1)) % byT xs (i - 1) == 0)
def chkU (xs : Tb) : Nat → Bool
  | 0 => true
  | i + 1 => chkU xs i && (stepB xs i && divB xs i)
def chkT (xs : Tb) : Bool := decide (1 ≤ xs.length) && decide (xs.length ≤ 8) && chkU xs xs.length
theorem chkU_false {xs : Tb} {i : Nat} (h : chkU xs i = false) : ∀ n, i ≤ n → chkU xs n = false
  | 0, hn => by obtain rfl : i = 0 := by omega
                exact h
  | n + 1, hn => by
    by_cases e : i = n + 1
    · subst e; exact h
    · show (chkU xs n && _) = false
      rw [chkU_false h n (by omega)]; rfl
theorem chk_false {xs : Tb} {i : Nat} (hi : i < xs.length) (h : stepB xs i = false ∨ divB xs i = false) : chkT xs = false := by
  have : chkU xs (i + 1) = false := by
    show (chkU xs i && (stepB xs i && divB xs i)) = false
    rcases h with h | h <;> rw [h] <;> simp
  unfold chkT
  rw [chkU_false this xs.length hi, Bool.and_false]
theorem chkU_at {xs : Tb} : ∀ {n : Nat}, chkU xs n = true → ∀ j, j < n → stepB xs j = true ∧ divB xs j = true
  | 0, _, j, hj => by omega
  | n + 1, h, j, hj => by
    have h' : (chkU xs n && (stepB xs n && divB xs n)) = true := h
    simp only [Bool.and_eq_true] at h'
    by_cases e : j = n
    · subst e; exact h'.2
    · exact chkU_at h'.1 j (by omega)
theorem chkU_rows {xs : Tb} {n : Nat} (h : chkU xs n = true) : ∀ j, j < n → 1 ≤ frT xs j ∧ frT xs j ≤ 1000000 ∧ 1 ≤ byT xs j ∧ byT xs j ≤ 10000
  | 0, hj => by
    have := (chkU_at h 0 hj).1
    unfold stepB at this
    simp only [if_pos, Bool.and_eq_true, beq_iff_eq, decide_eq_true_eq] at this
    omega
  | j + 1, hj => by
    have h1 := (chkU_rows h j (by omega)).1
    have := (chkU_at h (j + 1) hj).1
    unfold stepB at this
    rw [if_neg (by omega)] at this
    simp only [Bool.and_eq_true, decide_eq_true_eq, Nat.add_sub_cancel] at this
    omega
def WsPost (g : Bool) (w : World) (e : Ending) (w' : World) : Prop := ∃ (v : Value) (n : Int), e = .returned (.agg #[v, .int .i64 n]) ∧ Kept (fun _ => False) w w' ∧ ((g = true ∧ v = .slice none 0 0 ∧ n = 0) ∨ (g = false ∧ (∃ a, v = .slice (some a) 1 1) ∧ (n = 1 ∨ n = 2)))
def WsRel (xs : Tb) (W : World) (iv : Value) (wr : World) : Prop := ∃ i : Nat, i ≤ xs.length ∧ iv = .int .i64 i ∧ chkU xs i = true ∧ Kept (fun _ => False) W wr
set_option maxRecDepth 100000 in
set_option maxHeartbeats 1000000 in
theorem chk_zero {w : World} {a : Option Addr} {c : Nat} : Calls Try.prog 21 #[.slice a 0 c] w (WsPost false w) := by
  have hrb := block_w0 w
  have hk0 : Kept (fun _ => False) w (w.alloc (.cells #[.slice none 0 0, .int .i64 0] 64)) := (Kept.refl _ _).alloc _
  go_enter Try.func21, Try.ntmps21
  go_upto_region 1 with fail
  generalize hrbe : w.heap.size = rb at hrb ⊢
  have hrbn : w.heap.size ≤ rb := by omega
  clear hrbe
  generalize w.alloc (.cells #[.slice none 0 0, .int .i64 0] 64) = w0 at hrb hk0 ⊢
  have Hrbn := Lib.hid hrbn
  have Hk0 := Lib.hid hk0
  clear hrbn hk0
  go_wp2_with fail
  refine (at_any _ _ _ _).mono ?_
  rintro e w5 ⟨a, rfl, k5⟩
  have hr2 := (k5.block rb (lt_of_block hrb) (fun h => h)).trans hrb
  have hr20 : w5.cell? ⟨rb, 0, none⟩ = some (.slice none 0 0) := by rw [cell_of_block hr2]; rfl
  have hr21 : w5.cell? ⟨rb, 1, none⟩ = some (.int .i64 0) := by rw [cell_of_block hr2]; rfl
  have hfz := free_of_block hr2
  have hb9 : ((w5.setCell ⟨rb, 0, none⟩ (.slice (some a) 1 1)).setCell ⟨rb, 1, none⟩ (.int .i64 1)).heap[rb]? = some (.cells #[(.slice (some a) 1 1), .int .i64 1] 64 (0, 0)) := by
    rw [block_setCell (block_setCell hr2 _ _) _ _]; rfl
  have hk9 : Kept (fun _ => False) w ((w5.setCell ⟨rb, 0, none⟩ (.slice (some a) 1 1)).setCell ⟨rb, 1, none⟩ (.int .i64 1)) := by
    refine Kept.trans' (G := fun j => j = rb) Hk0.out ?_ (fun j hj h => by have h1 := Hrbn.out; omega)
    exact ((k5.mono (G := fun j => j = rb) (fun j _ h => h.elim)).setCell (p := ⟨rb, 0, none⟩) (fun _ => rfl) _).setCell (p := ⟨rb, 1, none⟩) (fun _ => rfl) _
  go_wp2
  change bodyPost _ _ _ _ _ ((w5.setCell ⟨rb, 0, none⟩ (.slice (some a) 1 1)).setCell ⟨rb, 1, none⟩ (.int .i64 1))
  generalize (w5.setCell ⟨rb, 0, none⟩ (.slice (some a) 1 1)).setCell ⟨rb, 1, none⟩ (.int .i64 1) = wf at hb9 hk9 ⊢
  have r0 : wf.cell? ⟨rb, 0, none⟩ = some (.slice (some a) 1 1) := by rw [cell_of_block hb9]; rfl
  have r1 : wf.cell? ⟨rb, 1, none⟩ = some (.int .i64 1) := by rw [cell_of_block hb9]; rfl
  exact bodyPost_ret (v := .agg #[(.slice (some a) 1 1), .int .i64 1]) (by simp [results, Try.results21, go_sem, r0, r1]) rfl ⟨(.slice (some a) 1 1), 1, rfl, hk9, .inr ⟨rfl, ⟨a, rfl⟩, .inl rfl⟩⟩

set_option maxRecDepth 100000 in
set_option maxHeartbeats 40000000 in
theorem chk_any {w : World} {b off c : Nat} {xs : Tb} (h1 : 1 ≤ xs.length) (h8 : xs.length ≤ 8) (hb : b < w.heap.size) (hs : StAt w b off xs) : Calls Try.prog 21 #[.slice (some ⟨b, off, none⟩) xs.length c] w (WsPost (chkT xs) w) := by
  have hrb := block_w0 w
  have hk0 : Kept (fun _ => False) w (w.alloc (.cells #[.slice none 0 0, .int .i64 0] 64)) := (Kept.refl _ _).alloc _
  have Hs := Lib.hid (hs.kept hb hk0)
  have Hb := Lib.hid (Nat.lt_of_lt_of_le hb hk0.size)
  obtain ⟨n, hn⟩ : ∃ n, xs.length = n := ⟨_, rfl⟩
  have Hn := Lib.hid hn
  rw [hn] at h1 h8 ⊢
  clear hs hn hb
  go_enter Try.func21, Try.ntmps21
  go_upto_region 1 with fail
  generalize hrbe : w.heap.size = rb at hrb ⊢
  have hrbn : w.heap.size ≤ rb := by omega
  clear hrbe
  generalize w.alloc (.cells #[.slice none 0 0, .int .i64 0] 64) = w0 at hrb hk0 Hs Hb ⊢
  have Hrbn := Lib.hid hrbn
  have Hk0 := Lib.hid hk0
  clear hrbn hk0
  go_wp2_with fail
  go_loopw [3] (fun iv wr => WsRel xs w0 iv wr) (fun iv _ => n - (intOf iv).toNat)
  case atStart => exact ⟨0, Nat.zero_le _, rfl, rfl, Kept.refl _ _⟩
  case round =>
    obtain ⟨i, hi, rfl, hup, hk⟩ := hrel
    have hin : i ≤ n := by have := Hn.out; omega
    have Hup := Lib.hid hup
    clear hi hup
    by_cases hlt : i < n
    · obtain ⟨c0, c1⟩ := (Hs.out.kept Hb.out hk) i (by have := Hn.out; omega)
      obtain ⟨f, hf⟩ : ∃ f, frT xs i = f := ⟨_, rfl⟩
      obtain ⟨y, hy⟩ : ∃ y, byT xs i = y := ⟨_, rfl⟩
      have hf' : (xs.getD i (0, 0)).1 = f := hf
      have hy' : (xs.getD i (0, 0)).2 = y := hy
      rw [hf'] at c0
      rw [hy'] at c1
      have Hf := Lib.hid hf
      have Hy := Lib.hid hy
      clear hf hy hf' hy'
      have hil : i < xs.length := by have := Hn.out; omega
      rcases i with _ | j
      · simp only [Nat.zero_mul, Nat.add_zero] at c0 c1
        have hnx : Hid ((f = 1 ∧ 1 ≤ y ∧ y ≤ 10000) → chkU xs (0 + 1) = true) := fun ⟨e1, e2, e3⟩ => by
          show (chkU xs 0 && (stepB xs 0 && divB xs 0)) = true
          rw [Hup.out]
          simp [stepB, divB, Hf.out, Hy.out, e1, e2, e3]
        have hbad : Hid (¬ (f = 1 ∧ 1 ≤ y ∧ y ≤ 10000) → chkT xs = false) := fun h => chk_false (i := 0) hil (.inl (by simp only [stepB, Hf.out, Hy.out, if_pos, Bool.and_eq_false_iff, decide_eq_false_iff_not, beq_eq_false_iff_ne]; omega))
        have hcs : (f ≠ 1) ∨ (f = 1 ∧ y < 1) ∨ (f = 1 ∧ 1 ≤ y ∧ 10000 < y) ∨ (f = 1 ∧ 1 ≤ y ∧ y ≤ 10000) := by omega
        rcases hcs with e1 | ⟨rfl, e2⟩ | ⟨rfl, e2, e3⟩ | ⟨rfl, e2, e3⟩
        · have hB := Lib.hid (hbad.out (by omega))
          clear hbad hnx
          have q1 : (f != 1) = true := by simp [e1]
          go_wp2_with fail
          go_quiet (fail)
          go_wp2_with fail
          refine (at_any _ _ _ _).mono ?_
          rintro e w5 ⟨a, rfl, k5⟩
          have hk5 := (hk.drewN _).trans k5
          have hr2 := (hk5.block rb (lt_of_block hrb) (fun h => h)).trans hrb
          have hr20 : w5.cell? ⟨rb, 0, none⟩ = some (.slice none 0 0) := by rw [cell_of_block hr2]; rfl
          have hr21 : w5.cell? ⟨rb, 1, none⟩ = some (.int .i64 0) := by rw [cell_of_block hr2]; rfl
          have hfz := free_of_block hr2
          have hb9 : ((w5.setCell ⟨rb, 0, none⟩ (.slice (some a) 1 1)).setCell ⟨rb, 1, none⟩ (.int .i64 1)).heap[rb]? = some (.cells #[(.slice (some a) 1 1), .int .i64 1] 64 (0, 0)) := by
            rw [block_setCell (block_setCell hr2 _ _) _ _]; rfl
          have hk9 : Kept (fun _ => False) w ((w5.setCell ⟨rb, 0, none⟩ (.slice (some a) 1 1)).setCell ⟨rb, 1, none⟩ (.int .i64 1)) := by
            refine Kept.trans' (G := fun j => j = rb) Hk0.out ?_ (fun j hj h => by have h1 := Hrbn.out; omega)
            exact ((hk5.mono (G := fun j => j = rb) (fun j _ h => h.elim)).setCell (p := ⟨rb, 0, none⟩) (fun _ => rfl) _).setCell (p := ⟨rb, 1, none⟩) (fun _ => rfl) _
          go_wp2
          change bodyPost _ _ _ _ _ ((w5.setCell ⟨rb, 0, none⟩ (.slice (some a) 1 1)).setCell ⟨rb, 1, none⟩ (.int .i64 1))
          generalize (w5.setCell ⟨rb, 0, none⟩ (.slice (some a) 1 1)).setCell ⟨rb, 1, none⟩ (.int .i64 1) = wf at hb9 hk9 ⊢
          have r0 : wf.cell? ⟨rb, 0, none⟩ = some (.slice (some a) 1 1) := by rw [cell_of_block hb9]; rfl
          have r1 : wf.cell? ⟨rb, 1, none⟩ = some (.int .i64 1) := by rw [cell_of_block hb9]; rfl
          exact bodyPost_ret (v := .agg #[(.slice (some a) 1 1), .int .i64 1]) (by simp [results, Try.results21, go_sem, r0, r1]) rfl ⟨(.slice (some a) 1 1), 1, rfl, hk9, .inr ⟨hB.out, ⟨a, rfl⟩, .inl rfl⟩⟩
        · have hB := Lib.hid (hbad.out (by omega))
          clear hbad hnx
          have d1 : decide (y < 1) = true := decide_eq_true (by omega)
          go_wp2_with fail
          go_quiet (fail)
          go_wp2_with fail
          refine (at_any _ _ _ _).mono ?_
          rintro e w5 ⟨a, rfl, k5⟩
          have hk5 := (hk.drewN _).trans k5
          have hr2 := (hk5.block rb (lt_of_block hrb) (fun h => h)).trans hrb
          have hr20 : w5.cell? ⟨rb, 0, none⟩ = some (.slice none 0 0) := by rw [cell_of_block hr2]; rfl
          have hr21 : w5.cell? ⟨rb, 1, none⟩ = some (.int .i64 0) := by rw [cell_of_block hr2]; rfl
          have hfz := free_of_block hr2
          have hb9 : ((w5.setCell ⟨rb, 0, none⟩ (.slice (some a) 1 1)).setCell ⟨rb, 1, none⟩ (.int .i64 1)).heap[rb]? = some (.cells #[(.slice (some a) 1 1), .int .i64 1] 64 (0, 0)) := by
            rw [block_setCell (block_setCell hr2 _ _) _ _]; rfl
          have hk9 : Kept (fun _ => False) w ((w5.setCell ⟨rb, 0, none⟩ (.slice (some a) 1 1)).setCell ⟨rb, 1, none⟩ (.int .i64 1)) := by
            refine Kept.trans' (G := fun j => j = rb) Hk0.out ?_ (fun j hj h => by have h1 := Hrbn.out; omega)
            exact ((hk5.mono (G := fun j => j = rb) (fun j _ h => h.elim)).setCell (p := ⟨rb, 0, none⟩) (fun _ => rfl) _).setCell (p := ⟨rb, 1, none⟩) (fun _ => rfl) _
          go_wp2
          change bodyPost _ _ _ _ _ ((w5.setCell ⟨rb, 0, none⟩ (.slice (some a) 1 1)).setCell ⟨rb, 1, none⟩ (.int .i64 1))
          generalize (w5.setCell ⟨rb, 0, none⟩ (.slice (some a) 1 1)).setCell ⟨rb, 1, none⟩ (.int .i64 1) = wf at hb9 hk9 ⊢
          have r0 : wf.cell? ⟨rb, 0, none⟩ = some (.slice (some a) 1 1) := by rw [cell_of_block hb9]; rfl
          have r1 : wf.cell? ⟨rb, 1, none⟩ = some (.int .i64 1) := by rw [cell_of_block hb9]; rfl
          exact bodyPost_ret (v := .agg #[(.slice (some a) 1 1), .int .i64 1]) (by simp [results, Try.results21, go_sem, r0, r1]) rfl ⟨(.slice (some a) 1 1), 1, rfl, hk9, .inr ⟨hB.out, ⟨a, rfl⟩, .inl rfl⟩⟩
        · have hB := Lib.hid (hbad.out (by omega))
          clear hbad hnx
          have d1 : decide (y < 1) = false := decide_eq_false (by omega)
          have d2 : decide (10000 < y) = true := decide_eq_true (by omega)
          go_wp2_with fail
          go_quiet (fail)
          go_wp2_with fail
          refine (at_any _ _ _ _).mono ?_
          rintro e w5 ⟨a, rfl, k5⟩
          have hk5 := (hk.drewN _).trans k5
          have hr2 := (hk5.block rb (lt_of_block hrb) (fun h => h)).trans hrb
          have hr20 : w5.cell? ⟨rb, 0, none⟩ = some (.slice none 0 0) := by rw [cell_of_block hr2]; rfl
          have hr21 : w5.cell? ⟨rb, 1, none⟩ = some (.int .i64 0) := by rw [cell_of_block hr2]; rfl
          have hfz := free_of_block hr2
          have hb9 : ((w5.setCell ⟨rb, 0, none⟩ (.slice (some a) 1 1)).setCell ⟨rb, 1, none⟩ (.int .i64 1)).heap[rb]? = some (.cells #[(.slice (some a) 1 1), .int .i64 1] 64 (0, 0)) := by
            rw [block_setCell (block_setCell hr2 _ _) _ _]; rfl
          have hk9 : Kept (fun _ => False) w ((w5.setCell ⟨rb, 0, none⟩ (.slice (some a) 1 1)).setCell ⟨rb, 1, none⟩ (.int .i64 1)) := by
            refine Kept.trans' (G := fun j => j = rb) Hk0.out ?_ (fun j hj h => by have h1 := Hrbn.out; omega)
            exact ((hk5.mono (G := fun j => j = rb) (fun j _ h => h.elim)).setCell (p := ⟨rb, 0, none⟩) (fun _ => rfl) _).setCell (p := ⟨rb, 1, none⟩) (fun _ => rfl) _
          go_wp2
          change bodyPost _ _ _ _ _ ((w5.setCell ⟨rb, 0, none⟩ (.slice (some a) 1 1)).setCell ⟨rb, 1, none⟩ (.int .i64 1))
          generalize (w5.setCell ⟨rb, 0, none⟩ (.slice (some a) 1 1)).setCell ⟨rb, 1, none⟩ (.int .i64 1) = wf at hb9 hk9 ⊢
          have r0 : wf.cell? ⟨rb, 0, none⟩ = some (.slice (some a) 1 1) := by rw [cell_of_block hb9]; rfl
          have r1 : wf.cell? ⟨rb, 1, none⟩ = some (.int .i64 1) := by rw [cell_of_block hb9]; rfl
          exact bodyPost_ret (v := .agg #[(.slice (some a) 1 1), .int .i64 1]) (by simp [results, Try.results21, go_sem, r0, r1]) rfl ⟨(.slice (some a) 1 1), 1, rfl, hk9, .inr ⟨hB.out, ⟨a, rfl⟩, .inl rfl⟩⟩
        · have hN := Lib.hid (hnx.out ⟨rfl, e2, e3⟩)
          clear hbad hnx
          have d1 : decide (y < 1) = false := decide_eq_false (by omega)
          have d2 : decide (10000 < y) = false := decide_eq_false (by omega)
          go_wp2_with fail
          go_quiet (fail)
          go_wp2_with fail
          go_quiet (fail)
          go_wp2
          exact ⟨⟨0 + 1, hil, by push_cast; rfl, hN.out, by first | exact (hk.drewN _).drewN _ | exact hk.drewN _⟩, by simp [intOf]; omega⟩
      · obtain ⟨d0, d1⟩ := (Hs.out.kept Hb.out hk) j (by omega)
        obtain ⟨r1, r2, r3, r4⟩ := chkU_rows Hup.out j (by omega)
        obtain ⟨g, hg⟩ : ∃ g, frT xs j = g := ⟨_, rfl⟩
        obtain ⟨z, hz⟩ : ∃ z, byT xs j = z := ⟨_, rfl⟩
        have hg' : (xs.getD j (0, 0)).1 = g := hg
        have hz' : (xs.getD j (0, 0)).2 = z := hz
        rw [hg'] at d0
        rw [hz'] at d1
        rw [hg] at r1 r2
        rw [hz] at r3 r4
        have Hg := Lib.hid hg
        have Hz := Lib.hid hz
        have hnx : Hid ((g < f ∧ f ≤ 1000000 ∧ 1 ≤ y ∧ y ≤ 10000 ∧ (f - g) % z = 0) → chkU xs (j + 1 + 1) = true) := fun ⟨e1, e2, e3, e4, e5⟩ => by
          show (chkU xs (j + 1) && (stepB xs (j + 1) && divB xs (j + 1))) = true
          rw [Hup.out]
          simp [stepB, divB, Hf.out, Hy.out, Hg.out, Hz.out, e1, e2, e3, e4, e5]
        have hbad : Hid (¬ (g < f ∧ f ≤ 1000000 ∧ 1 ≤ y ∧ y ≤ 10000) → chkT xs = false) := fun h => chk_false (i := j + 1) hil (.inl (by
          unfold stepB
          rw [if_neg (by omega), Hf.out, Hy.out, Nat.add_sub_cancel, Hg.out]
          simp only [Bool.and_eq_false_iff, decide_eq_false_iff_not]; omega))
        have hbad2 : Hid (¬ (f - g) % z = 0 → chkT xs = false) := fun h => chk_false (i := j + 1) hil (.inr (by
          unfold divB
          rw [Hf.out, Nat.add_sub_cancel, Hg.out, Hz.out]
          simp [h]))
        clear hg hz hg' hz'
        have b1 : (0 : Int) ≤ (j : Int) := by omega
        have b2 : (j : Int) + 1 < (n : Int) := by omega
        have b3 : (j : Int) < (n : Int) := by omega
        have b4 : (0 : Int) ≤ (j : Int) + 1 := by omega
        have b5 : ((j : Int) + 1 == 0) = false := by simp; omega
        have b6 : IntKind.i64.wrap (j : Int) = (j : Int) := IntWalk.i64_in _ (by omega)
        have b7 : wrap64 (j : Int) = (j : Int) := IntWalk.wrap64_in _ (by omega)
        have hcs : (f ≤ g) ∨ (g < f ∧ 1000000 < f) ∨ (g < f ∧ f ≤ 1000000 ∧ y < 1) ∨ (g < f ∧ f ≤ 1000000 ∧ 1 ≤ y ∧ 10000 < y) ∨ (g < f ∧ f ≤ 1000000 ∧ 1 ≤ y ∧ y ≤ 10000) := by omega
        rcases hcs with e1 | ⟨e1, e2⟩ | ⟨e1, e2, e3⟩ | ⟨e1, e2, e3, e4⟩ | ⟨e1, e2, e3, e4⟩
        · have hB := Lib.hid (hbad.out (by omega))
          clear hbad hbad2 hnx
          have d0 : decide (f ≤ g) = true := decide_eq_true (by omega)
          go_wp2_with fail
          go_quiet (fail)
          go_wp2_with fail
          refine (at_any _ _ _ _).mono ?_
          rintro e w5 ⟨a, rfl, k5⟩
          have hk5 := (hk.drewN _).trans k5
          have hr2 := (hk5.block rb (lt_of_block hrb) (fun h => h)).trans hrb
          have hr20 : w5.cell? ⟨rb, 0, none⟩ = some (.slice none 0 0) := by rw [cell_of_block hr2]; rfl
          have hr21 : w5.cell? ⟨rb, 1, none⟩ = some (.int .i64 0) := by rw [cell_of_block hr2]; rfl
          have hfz := free_of_block hr2
          have hb9 : ((w5.setCell ⟨rb, 0, none⟩ (.slice (some a) 1 1)).setCell ⟨rb, 1, none⟩ (.int .i64 1)).heap[rb]? = some (.cells #[(.slice (some a) 1 1), .int .i64 1] 64 (0, 0)) := by
            rw [block_setCell (block_setCell hr2 _ _) _ _]; rfl
          have hk9 : Kept (fun _ => False) w ((w5.setCell ⟨rb, 0, none⟩ (.slice (some a) 1 1)).setCell ⟨rb, 1, none⟩ (.int .i64 1)) := by
            refine Kept.trans' (G := fun j => j = rb) Hk0.out ?_ (fun j hj h => by have h1 := Hrbn.out; omega)
            exact ((hk5.mono (G := fun j => j = rb) (fun j _ h => h.elim)).setCell (p := ⟨rb, 0, none⟩) (fun _ => rfl) _).setCell (p := ⟨rb, 1, none⟩) (fun _ => rfl) _
          go_wp2
          change bodyPost _ _ _ _ _ ((w5.setCell ⟨rb, 0, none⟩ (.slice (some a) 1 1)).setCell ⟨rb, 1, none⟩ (.int .i64 1))
          generalize (w5.setCell ⟨rb, 0, none⟩ (.slice (some a) 1 1)).setCell ⟨rb, 1, none⟩ (.int .i64 1) = wf at hb9 hk9 ⊢
          have r0 : wf.cell? ⟨rb, 0, none⟩ = some (.slice (some a) 1 1) := by rw [cell_of_block hb9]; rfl
          have r1 : wf.cell? ⟨rb, 1, none⟩ = some (.int .i64 1) := by rw [cell_of_block hb9]; rfl
          exact bodyPost_ret (v := .agg #[(.slice (some a) 1 1), .int .i64 1]) (by simp [results, Try.results21, go_sem, r0, r1]) rfl ⟨(.slice (some a) 1 1), 1, rfl, hk9, .inr ⟨hB.out, ⟨a, rfl⟩, .inl rfl⟩⟩
        · have hB := Lib.hid (hbad.out (by omega))
          clear hbad hbad2 hnx
          have d0 : decide (f ≤ g) = false := decide_eq_false (by omega)
          have d1 : decide (1000000 < f) = true := decide_eq_true (by omega)
          go_wp2_with fail
          go_quiet (fail)
          go_wp2_with fail
          refine (at_any _ _ _ _).mono ?_
          rintro e w5 ⟨a, rfl, k5⟩
          have hk5 := (hk.drewN _).trans k5
          have hr2 := (hk5.block rb (lt_of_block hrb) (fun h => h)).trans hrb
          have hr20 : w5.cell? ⟨rb, 0, none⟩ = some (.slice none 0 0) := by rw [cell_of_block hr2]; rfl
          have hr21 : w5.cell? ⟨rb, 1, none⟩ = some (.int .i64 0) := by rw [cell_of_block hr2]; rfl
          have hfz := free_of_block hr2
          have hb9 : ((w5.setCell ⟨rb, 0, none⟩ (.slice (some a) 1 1)).setCell ⟨rb, 1, none⟩ (.int .i64 1)).heap[rb]? = some (.cells #[(.slice (some a) 1 1), .int .i64 1] 64 (0, 0)) := by
            rw [block_setCell (block_setCell hr2 _ _) _ _]; rfl
          have hk9 : Kept (fun _ => False) w ((w5.setCell ⟨rb, 0, none⟩ (.slice (some a) 1 1)).setCell ⟨rb, 1, none⟩ (.int .i64 1)) := by
            refine Kept.trans' (G := fun j => j = rb) Hk0.out ?_ (fun j hj h => by have h1 := Hrbn.out; omega)
            exact ((hk5.mono (G := fun j => j = rb) (fun j _ h => h.elim)).setCell (p := ⟨rb, 0, none⟩) (fun _ => rfl) _).setCell (p := ⟨rb, 1, none⟩) (fun _ => rfl) _
          go_wp2
          change bodyPost _ _ _ _ _ ((w5.setCell ⟨rb, 0, none⟩ (.slice (some a) 1 1)).setCell ⟨rb, 1, none⟩ (.int .i64 1))
          generalize (w5.setCell ⟨rb, 0, none⟩ (.slice (some a) 1 1)).setCell ⟨rb, 1, none⟩ (.int .i64 1) = wf at hb9 hk9 ⊢
          have r0 : wf.cell? ⟨rb, 0, none⟩ = some (.slice (some a) 1 1) := by rw [cell_of_block hb9]; rfl
          have r1 : wf.cell? ⟨rb, 1, none⟩ = some (.int .i64 1) := by rw [cell_of_block hb9]; rfl
          exact bodyPost_ret (v := .agg #[(.slice (some a) 1 1), .int .i64 1]) (by simp [results, Try.results21, go_sem, r0, r1]) rfl ⟨(.slice (some a) 1 1), 1, rfl, hk9, .inr ⟨hB.out, ⟨a, rfl⟩, .inl rfl⟩⟩
        · have hB := Lib.hid (hbad.out (by omega))
          clear hbad hbad2 hnx
          have d0 : decide (f ≤ g) = false := decide_eq_false (by omega)
          have d1 : decide (1000000 < f) = false := decide_eq_false (by omega)
          have d2 : decide (y < 1) = true := decide_eq_true (by omega)
          go_wp2_with fail
          go_quiet (fail)
          go_wp2_with fail
          refine (at_any _ _ _ _).mono ?_
          rintro e w5 ⟨a, rfl, k5⟩
          have hk5 := (hk.drewN _).trans k5
          have hr2 := (hk5.block rb (lt_of_block hrb) (fun h => h)).trans hrb
          have hr20 : w5.cell? ⟨rb, 0, none⟩ = some (.slice none 0 0) := by rw [cell_of_block hr2]; rfl
          have hr21 : w5.cell? ⟨rb, 1, none⟩ = some (.int .i64 0) := by rw [cell_of_block hr2]; rfl
          have hfz := free_of_block hr2
          have hb9 : ((w5.setCell ⟨rb, 0, none⟩ (.slice (some a) 1 1)).setCell ⟨rb, 1, none⟩ (.int .i64 1)).heap[rb]? = some (.cells #[(.slice (some a) 1 1), .int .i64 1] 64 (0, 0)) := by
            rw [block_setCell (block_setCell hr2 _ _) _ _]; rfl
          have hk9 : Kept (fun _ => False) w ((w5.setCell ⟨rb, 0, none⟩ (.slice (some a) 1 1)).setCell ⟨rb, 1, none⟩ (.int .i64 1)) := by
            refine Kept.trans' (G := fun j => j = rb) Hk0.out ?_ (fun j hj h => by have h1 := Hrbn.out; omega)
            exact ((hk5.mono (G := fun j => j = rb) (fun j _ h => h.elim)).setCell (p := ⟨rb, 0, none⟩) (fun _ => rfl) _).setCell (p := ⟨rb, 1, none⟩) (fun _ => rfl) _
          go_wp2
          change bodyPost _ _ _ _ _ ((w5.setCell ⟨rb, 0, none⟩ (.slice (some a) 1 1)).setCell ⟨rb, 1, none⟩ (.int .i64 1))
          generalize (w5.setCell ⟨rb, 0, none⟩ (.slice (some a) 1 1)).setCell ⟨rb, 1, none⟩ (.int .i64 1) = wf at hb9 hk9 ⊢
          have r0 : wf.cell? ⟨rb, 0, none⟩ = some (.slice (some a) 1 1) := by rw [cell_of_block hb9]; rfl
          have r1 : wf.cell? ⟨rb, 1, none⟩ = some (.int .i64 1) := by rw [cell_of_block hb9]; rfl
          exact bodyPost_ret (v := .agg #[(.slice (some a) 1 1), .int .i64 1]) (by simp [results, Try.results21, go_sem, r0, r1]) rfl ⟨(.slice (some a) 1 1), 1, rfl, hk9, .inr ⟨hB.out, ⟨a, rfl⟩, .inl rfl⟩⟩
        · have hB := Lib.hid (hbad.out (by omega))
          clear hbad hbad2 hnx
          have d0 : decide (f ≤ g) = false := decide_eq_false (by omega)
          have d1 : decide (1000000 < f) = false := decide_eq_false (by omega)
          have d2 : decide (y < 1) = false := decide_eq_false (by omega)
          have d3 : decide (10000 < y) = true := decide_eq_true (by omega)
          go_wp2_with fail
          go_quiet (fail)
          go_wp2_with fail
          refine (at_any _ _ _ _).mono ?_
          rintro e w5 ⟨a, rfl, k5⟩
          have hk5 := (hk.drewN _).trans k5
          have hr2 := (hk5.block rb (lt_of_block hrb) (fun h => h)).trans hrb
          have hr20 : w5.cell? ⟨rb, 0, none⟩ = some (.slice none 0 0) := by rw [cell_of_block hr2]; rfl
          have hr21 : w5.cell? ⟨rb, 1, none⟩ = some (.int .i64 0) := by rw [cell_of_block hr2]; rfl
          have hfz := free_of_block hr2
          have hb9 : ((w5.setCell ⟨rb, 0, none⟩ (.slice (some a) 1 1)).setCell ⟨rb, 1, none⟩ (.int .i64 1)).heap[rb]? = some (.cells #[(.slice (some a) 1 1), .int .i64 1] 64 (0, 0)) := by
            rw [block_setCell (block_setCell hr2 _ _) _ _]; rfl
          have hk9 : Kept (fun _ => False) w ((w5.setCell ⟨rb, 0, none⟩ (.slice (some a) 1 1)).setCell ⟨rb, 1, none⟩ (.int .i64 1)) := by
            refine Kept.trans' (G := fun j => j = rb) Hk0.out ?_ (fun j hj h => by have h1 := Hrbn.out; omega)
            exact ((hk5.mono (G := fun j => j = rb) (fun j _ h => h.elim)).setCell (p := ⟨rb, 0, none⟩) (fun _ => rfl) _).setCell (p := ⟨rb, 1, none⟩) (fun _ => rfl) _
          go_wp2
          change bodyPost _ _ _ _ _ ((w5.setCell ⟨rb, 0, none⟩ (.slice (some a) 1 1)).setCell ⟨rb, 1, none⟩ (.int .i64 1))
          generalize (w5.setCell ⟨rb, 0, none⟩ (.slice (some a) 1 1)).setCell ⟨rb, 1, none⟩ (.int .i64 1) = wf at hb9 hk9 ⊢
          have r0 : wf.cell? ⟨rb, 0, none⟩ = some (.slice (some a) 1 1) := by rw [cell_of_block hb9]; rfl
          have r1 : wf.cell? ⟨rb, 1, none⟩ = some (.int .i64 1) := by rw [cell_of_block hb9]; rfl
          exact bodyPost_ret (v := .agg #[(.slice (some a) 1 1), .int .i64 1]) (by simp [results, Try.results21, go_sem, r0, r1]) rfl ⟨(.slice (some a) 1 1), 1, rfl, hk9, .inr ⟨hB.out, ⟨a, rfl⟩, .inl rfl⟩⟩
        · obtain ⟨m, hm⟩ : ∃ m, (f - g) % z = m := ⟨_, rfl⟩
          have hw : wrap64 (f - g) = f - g := IntWalk.wrap64_in _ (by omega)
          have hfg : 0 ≤ f - g := by omega
          have d0 : decide (f ≤ g) = false := decide_eq_false (by omega)
          have d1 : decide (1000000 < f) = false := decide_eq_false (by omega)
          have d2 : decide (y < 1) = false := decide_eq_false (by omega)
          have d3 : decide (10000 < y) = false := decide_eq_false (by omega)
          by_cases h0 : m = 0
          · subst h0
            have hN := Lib.hid (hnx.out ⟨e1, e2, e3, e4, hm⟩)
            clear hbad hbad2 hnx
            go_wp2_with fail
            go_quiet (fail)
            go_wp2_with fail
            go_quiet (fail)
            go_wp2
            exact ⟨⟨j + 1 + 1, hil, by push_cast; rfl, hN.out, by first | exact (hk.drewN _).drewN _ | exact hk.drewN _⟩, by simp [intOf]; omega⟩
          · have hB := Lib.hid (hbad2.out (by rw [hm]; exact h0))
            have q1 : (m != 0) = true := by simp [h0]
            clear hbad hbad2 hnx
            go_wp2_with fail
            go_quiet (fail)
            go_wp2_with fail
            go_quiet (fail)
            go_wp2_with fail
            refine (at_any _ _ _ _).mono ?_
            rintro e w5 ⟨a, rfl, k5⟩
            have hk5 := (hk.drewN _).trans k5
            have hr2 := (hk5.block rb (lt_of_block hrb) (fun h => h)).trans hrb
            have hr20 : w5.cell? ⟨rb, 0, none⟩ = some (.slice none 0 0) := by rw [cell_of_block hr2]; rfl
            have hr21 : w5.cell? ⟨rb, 1, none⟩ = some (.int .i64 0) := by rw [cell_of_block hr2]; rfl
            have hfz := free_of_block hr2
            have hb9 : ((w5.setCell ⟨rb, 0, none⟩ (.slice (some a) 1 1)).setCell ⟨rb, 1, none⟩ (.int .i64 2)).heap[rb]? = some (.cells #[(.slice (some a) 1 1), .int .i64 2] 64 (0, 0)) := by
              rw [block_setCell (block_setCell hr2 _ _) _ _]; rfl
            have hk9 : Kept (fun _ => False) w ((w5.setCell ⟨rb, 0, none⟩ (.slice (some a) 1 1)).setCell ⟨rb, 1, none⟩ (.int .i64 2)) := by
              refine Kept.trans' (G := fun j => j = rb) Hk0.out ?_ (fun j hj h => by have h1 := Hrbn.out; omega)
              exact ((hk5.mono (G := fun j => j = rb) (fun j _ h => h.elim)).setCell (p := ⟨rb, 0, none⟩) (fun _ => rfl) _).setCell (p := ⟨rb, 1, none⟩) (fun _ => rfl) _
            go_wp2
            change bodyPost _ _ _ _ _ ((w5.setCell ⟨rb, 0, none⟩ (.slice (some a) 1 1)).setCell ⟨rb, 1, none⟩ (.int .i64 2))
            generalize (w5.setCell ⟨rb, 0, none⟩ (.slice (some a) 1 1)).setCell ⟨rb, 1, none⟩ (.int .i64 2) = wf at hb9 hk9 ⊢
            have r0 : wf.cell? ⟨rb, 0, none⟩ = some (.slice (some a) 1 1) := by rw [cell_of_block hb9]; rfl
            have r1 : wf.cell? ⟨rb, 1, none⟩ = some (.int .i64 2) := by rw [cell_of_block hb9]; rfl
            exact bodyPost_ret (v := .agg #[(.slice (some a) 1 1), .int .i64 2]) (by simp [results, Try.results21, go_sem, r0, r1]) rfl ⟨(.slice (some a) 1 1), 2, rfl, hk9, .inr ⟨hB.out, ⟨a, rfl⟩, .inr rfl⟩⟩

    · obtain rfl : i = n := by omega
      have hB : Hid (chkT xs = true) := by
        show chkT xs = true
        unfold chkT
        rw [Hn.out, Hup.out]
        simp; omega
      have hr2 := (hk.block rb (lt_of_block hrb) (fun h => h)).trans hrb
      have hr20 : wr.cell? ⟨rb, 0, none⟩ = some (.slice none 0 0) := by rw [cell_of_block hr2]; rfl
      have hr21 : wr.cell? ⟨rb, 1, none⟩ = some (.int .i64 0) := by rw [cell_of_block hr2]; rfl
      have hfz := free_of_block hr2
      have hb9 : ((wr.setCell ⟨rb, 0, none⟩ (.slice none 0 0)).setCell ⟨rb, 1, none⟩ (.int .i64 0)).heap[rb]? = some (.cells #[(.slice none 0 0), .int .i64 0] 64 (0, 0)) := by
        rw [block_setCell (block_setCell hr2 _ _) _ _]; rfl
      have hk9 : Kept (fun _ => False) w ((wr.setCell ⟨rb, 0, none⟩ (.slice none 0 0)).setCell ⟨rb, 1, none⟩ (.int .i64 0)) := by
        refine Kept.trans' (G := fun j => j = rb) Hk0.out ?_ (fun j hj h => by have h1 := Hrbn.out; omega)
        exact ((hk.mono (G := fun j => j = rb) (fun j _ h => h.elim)).setCell (p := ⟨rb, 0, none⟩) (fun _ => rfl) _).setCell (p := ⟨rb, 1, none⟩) (fun _ => rfl) _
      go_wp2
      change bodyPost _ _ _ _ _ ((wr.setCell ⟨rb, 0, none⟩ (.slice none 0 0)).setCell ⟨rb, 1, none⟩ (.int .i64 0))
      generalize (wr.setCell ⟨rb, 0, none⟩ (.slice none 0 0)).setCell ⟨rb, 1, none⟩ (.int .i64 0) = wf at hb9 hk9 ⊢
      have r0 : wf.cell? ⟨rb, 0, none⟩ = some (.slice none 0 0) := by rw [cell_of_block hb9]; rfl
      have r1 : wf.cell? ⟨rb, 1, none⟩ = some (.int .i64 0) := by rw [cell_of_block hb9]; rfl
      exact bodyPost_ret (v := .agg #[(.slice none 0 0), .int .i64 0]) (by simp [results, Try.results21, go_sem, r0, r1]) rfl ⟨(.slice none 0 0), 0, rfl, hk9, .inl ⟨hB.out, rfl, rfl⟩⟩
end Go.Proofs.Ytgbdnodkbdkaeaa
