/- Alloc: legs: whether they may be: Check 19, by slices.ContainsFunc 39, IndexFunc 54 and the closure 40. -/
import Derived.Test.YtgbdnodkbdkaeaaAm
namespace Go.Proofs.Ytgbdnodkbdkaeaa
open Go Go.RowKit

def lgAt (ls : List Lg) (j : Nat) : Lg := ls.getD j ⟨0, 0, 0⟩
/-- Legs lie in a slice, three cells each. -/
def LgAt (w : World) (b off : Nat) (ls : List Lg) : Prop := ∀ j, j < ls.length → w.cell? ⟨b, off + j * 3, none⟩ = some (.int .i64 (lgAt ls j).ser) ∧ w.cell? ⟨b, off + j * 3 + 1, none⟩ = some (.int .i64 (lgAt ls j).sgn) ∧ w.cell? ⟨b, off + j * 3 + 2, none⟩ = some (.int .i64 (lgAt ls j).rat)
theorem cell_kept2 {A B : World} {b o : Nat} {v : Value} (h : Kept (fun _ => False) A B) (hc : A.cell? ⟨b, o, none⟩ = some v) : B.cell? ⟨b, o, none⟩ = some v := by
  rw [World.cell?_of_block (a := ⟨b, o, none⟩) (w := A) (h.block b (World.block_lt_of_cell? _ _ hc) (fun h => h))]; exact hc
theorem LgAt.kept {A B : World} {b off : Nat} {ls : List Lg} (h : Kept (fun _ => False) A B) (hs : LgAt A b off ls) : LgAt B b off ls := fun j hj => by
  obtain ⟨c0, c1, c2⟩ := hs j hj
  exact ⟨cell_kept2 h c0, cell_kept2 h c1, cell_kept2 h c2⟩
def aggL (x : Lg) : Value := .agg #[.int .i64 x.ser, .int .i64 x.sgn, .int .i64 x.rat]
set_option maxHeartbeats 1000000 in
theorem ck1_any {w : World} {xb : Nat} (ser a b c : Int) (hx : w.cell? ⟨xb, 0, none⟩ = some (.int .i64 ser)) :
    Calls Try.prog 40 #[.agg #[.int .i64 a, .int .i64 b, .int .i64 c], .pointer (some ⟨xb, 0, none⟩)] w (BlPost (a == ser) w) := by
  have hq : (w.alloc (.cells #[.int .i64 a, .int .i64 b, .int .i64 c] 43)).heap[w.heap.size]? = some (.cells #[.int .i64 a, .int .i64 b, .int .i64 c] 43 (0, 0)) := block_new3 _ _
  have hk : Kept (fun _ => False) w (w.alloc (.cells #[.int .i64 a, .int .i64 b, .int .i64 c] 43)) := (Kept.refl _ _).alloc _
  have hx2 := cell_kept2 hk hx
  clear hx
  go_enter Try.func40, Try.ntmps40
  go_upto_region 1 with fail
  generalize w.heap.size = q at hq ⊢
  generalize w.alloc (.cells #[.int .i64 a, .int .i64 b, .int .i64 c] 43) = w0 at hq hk hx2 ⊢
  have c0 : w0.cell? ⟨q, 0, none⟩ = some (.int .i64 a) := by rw [cell_of_block hq]; rfl
  go_wp2
  go_ret
  exact ⟨rfl, hk⟩
def anyB (ls : List Lg) (n : Nat) (ser : Int) : Bool := (ls.take n).any fun y => y.ser == ser
theorem anyB_false {ls : List Lg} {n : Nat} {ser : Int} (hn : n ≤ ls.length) (h : ∀ j, j < n → ((lgAt ls j).ser == ser) = false) : anyB ls n ser = false := by
  unfold anyB
  rw [List.any_eq_false]
  intro y hy
  obtain ⟨j, hj, rfl⟩ := List.mem_iff_getElem.1 hy
  have h1 : j < n := by simp at hj; omega
  have := h j h1
  simp only [lgAt, List.getD_eq_getElem?_getD, List.getElem?_eq_getElem (show j < ls.length by omega)] at this
  simpa using this
theorem anyB_true {ls : List Lg} {n j : Nat} {ser : Int} (hn : n ≤ ls.length) (hj : j < n) (h : ((lgAt ls j).ser == ser) = true) : anyB ls n ser = true := by
  unfold anyB
  rw [List.any_eq_true]
  refine ⟨lgAt ls j, ?_, h⟩
  rw [List.mem_take_iff_getElem]
  exact ⟨j, by omega, by simp [lgAt, List.getD_eq_getElem?_getD, List.getElem?_eq_getElem (show j < ls.length by omega)]⟩
def IfRel (ls : List Lg) (n : Nat) (ser : Int) (w0 : World) (iv : Value) (wr : World) : Prop := ∃ i : Nat, i ≤ n ∧ iv = .int .i64 i ∧ (∀ j, j < i → ((lgAt ls j).ser == ser) = false) ∧ Kept (fun _ => False) w0 wr
def IfPost (r : Bool) (w : World) (e : Ending) (w' : World) : Prop := ∃ k : Int, e = .returned (.int .i64 k) ∧ decide (0 ≤ k) = r ∧ Kept (fun _ => False) w w'
set_option maxHeartbeats 1000000 in
theorem idxf_any {w : World} {b off n cap xb : Nat} {ls : List Lg} (ser : Int) (hn : n ≤ ls.length) (hl : ls.length ≤ 1000) (hs : LgAt w b off ls) (hx : w.cell? ⟨xb, 0, none⟩ = some (.int .i64 ser)) :
    Calls Try.prog 54 #[.slice (some ⟨b, off, none⟩) n cap, .func (.func 40) #[] #[.pointer (some ⟨xb, 0, none⟩)]] w (IfPost (anyB ls n ser) w) := by
  have Hs := Lib.hid hs
  have Hx := Lib.hid hx
  have hn2 : n ≤ 1000 := by omega
  have Hn := Lib.hid hn
  clear hs hx hn hl
  go_enter Try.func54, Try.ntmps54
  go_wp2_with fail
  go_loopw [8] (fun iv wr => IfRel ls n ser w iv wr) (fun iv _ => n - (intOf iv).toNat)
  case atStart => exact ⟨0, Nat.zero_le _, rfl, fun j hj => by omega, Kept.refl _ _⟩
  case round =>
    obtain ⟨i, hi, rfl, hno, hk⟩ := hrel
    by_cases hlt : i < n
    · have hc := (Hs.out.kept hk) i (by have := Hn.out; omega)
      obtain ⟨c0, c1, c2⟩ := hc
      have hxr := cell_kept2 hk Hx.out
      obtain ⟨y, hy⟩ : ∃ y, lgAt ls i = y := ⟨_, rfl⟩
      rw [hy] at c0 c1 c2
      obtain ⟨a1, b1, d1⟩ := y
      simp only at c0 c1 c2
      have hck := Lib.hid (ck1_any ser a1 b1 d1 hxr)
      have Hno := Lib.hid hno
      have Hy := Lib.hid hy
      have b2 : (0 : Int) ≤ (i : Int) := by omega
      have b3 : (i : Int) < (n : Int) := by omega
      clear hno hy hxr
      obtain ⟨m, hm⟩ : ∃ m, (a1 == ser) = m := ⟨_, rfl⟩
      rw [hm] at hck
      have Hm := Lib.hid hm
      clear hm
      go_wp2_with fail
      refine hck.out.mono ?_
      rintro e w1 ⟨rfl, k1⟩
      have hk1 := hk.trans k1
      clear hck c0 c1 c2
      cases m with
      | true =>
        go_wp2
        go_ret
        exact ⟨_, rfl, by rw [anyB_true Hn.out hlt (by rw [Hy.out]; exact Hm.out)]; simp, hk1⟩
      | false =>
        go_wp2
        exact ⟨⟨i + 1, by omega, by push_cast; rfl, fun j hj => by
          by_cases e : j = i
          · subst e; rw [Hy.out]; exact Hm.out
          · exact Hno.out j (by omega), hk1⟩, by simp [intOf]; omega⟩
    · obtain rfl : i = n := by omega
      have Hno := Lib.hid hno
      clear hno
      go_wp2
      go_ret
      exact ⟨-1, rfl, by rw [anyB_false Hn.out Hno.out]; rfl, hk⟩
set_option maxHeartbeats 1000000 in
theorem contf_any {w : World} {b off n cap xb : Nat} {ls : List Lg} (ser : Int) (hn : n ≤ ls.length) (hl : ls.length ≤ 1000) (hs : LgAt w b off ls) (hx : w.cell? ⟨xb, 0, none⟩ = some (.int .i64 ser)) :
    Calls Try.prog 39 #[.slice (some ⟨b, off, none⟩) n cap, .func (.func 40) #[] #[.pointer (some ⟨xb, 0, none⟩)]] w (BlPost (anyB ls n ser) w) := by
  have hi := Lib.hid (idxf_any (cap := cap) ser hn hl hs hx)
  clear hs hx hn hl
  go_enter Try.func39, Try.ntmps39
  go_wp2_with fail
  refine hi.out.mono ?_
  rintro e w1 ⟨k, rfl, h1, k1⟩
  have H1 := Lib.hid h1
  clear h1
  go_wp2
  go_ret
  exact ⟨ret_bool H1.out, k1⟩

def goodL (x : Lg) : Bool := decide (1 ≤ x.ser) && (x.sgn == 1 || x.sgn == -1) && (decide (1 ≤ x.rat) && decide (x.rat ≤ 4))
/-- The first i legs may be. -/
def uptoB (ls : List Lg) : Nat → Bool
  | 0 => true
  | i + 1 => uptoB ls i && (goodL (lgAt ls i) && !anyB ls i (lgAt ls i).ser)
/-- Legs may be. -/
def checkB (ls : List Lg) : Bool := decide (2 ≤ ls.length) && decide (ls.length ≤ 4) && uptoB ls ls.length
theorem upto_false {ls : List Lg} {i : Nat} (h : uptoB ls i = false) : ∀ n, i ≤ n → uptoB ls n = false
  | 0, hn => by obtain rfl : i = 0 := by omega
                exact h
  | n + 1, hn => by
    by_cases e : i = n + 1
    · subst e; exact h
    · show (uptoB ls n && _) = false
      rw [upto_false h n (by omega)]; rfl
theorem check_bad {ls : List Lg} {i : Nat} (hi : i < ls.length) (h : goodL (lgAt ls i) = false ∨ anyB ls i (lgAt ls i).ser = true) : checkB ls = false := by
  have : uptoB ls (i + 1) = false := by
    show (uptoB ls i && (goodL (lgAt ls i) && !anyB ls i (lgAt ls i).ser)) = false
    rcases h with h | h <;> simp [h]
  unfold checkB
  rw [upto_false this ls.length hi, Bool.and_false]
/-- What Check answers: nothing where legs may be, a fault where they may not. -/
def CkPost (g : Bool) (w : World) (e : Ending) (w' : World) : Prop := Kept (fun _ => False) w w' ∧ ((g = true ∧ e = .returned .nilIface) ∨ (g = false ∧ ∃ a, e = .returned (.iface 102 (.pointer (some a)))))
end Go.Proofs.Ytgbdnodkbdkaeaa
