/- Series: what is wrong with one: the program's walk, the reference's. -/
import Derived.Test.YtjapcnahfbipeaaDoorQb
namespace Go.Proofs.YtjapcnahfbipeaaDoor
open Go Go.RowKit

structure Sr where
  cls : ByteArray
  exp : Int
  strike : Int
  right : Int
def inB (n lo hi : Int) : Bool := decide (lo ≤ n) && decide (n ≤ hi)
/-- What is wrong, and where. -/
def chk (s : Sr) : Int × Int :=
  if goodB s.cls.data.toList = false then (0, 5) else if inB s.exp 1 100000 = false then (1, 1) else if inB s.strike 1 1000000 = false then (3, 1) else if s.right ≠ 1 ∧ s.right ≠ 2 then (2, 1) else (0, 0)
theorem chk_cases (s : Sr) : (goodB s.cls.data.toList = false ∧ chk s = (0, 5)) ∨ (goodB s.cls.data.toList = true ∧ inB s.exp 1 100000 = false ∧ chk s = (1, 1)) ∨ (goodB s.cls.data.toList = true ∧ inB s.exp 1 100000 = true ∧ inB s.strike 1 1000000 = false ∧ chk s = (3, 1)) ∨
    (goodB s.cls.data.toList = true ∧ inB s.exp 1 100000 = true ∧ inB s.strike 1 1000000 = true ∧ (s.right != 1) = true ∧ (s.right != 2) = true ∧ chk s = (2, 1)) ∨
    (goodB s.cls.data.toList = true ∧ inB s.exp 1 100000 = true ∧ inB s.strike 1 1000000 = true ∧ (s.right != 1) = false ∧ chk s = (0, 0)) ∨
    (goodB s.cls.data.toList = true ∧ inB s.exp 1 100000 = true ∧ inB s.strike 1 1000000 = true ∧ (s.right != 1) = true ∧ (s.right != 2) = false ∧ chk s = (0, 0)) := by
  unfold chk
  cases h1 : goodB s.cls.data.toList with
  | false => exact .inl ⟨rfl, by simp⟩
  | true =>
    cases h2 : inB s.exp 1 100000 with
    | false => exact .inr (.inl ⟨rfl, rfl, by simp⟩)
    | true =>
      cases h3 : inB s.strike 1 1000000 with
      | false => exact .inr (.inr (.inl ⟨rfl, rfl, rfl, by simp⟩))
      | true =>
        by_cases h4 : s.right = 1
        · exact .inr (.inr (.inr (.inr (.inl ⟨rfl, rfl, rfl, by simp [h4], by simp [h4]⟩))))
        · by_cases h5 : s.right = 2
          · exact .inr (.inr (.inr (.inr (.inr ⟨rfl, rfl, rfl, by simp [h4], by simp [h5], by simp [h5]⟩))))
          · exact .inr (.inr (.inr (.inl ⟨rfl, rfl, rfl, by simp [h4], by simp [h5], by simp [h4, h5]⟩)))
theorem in_any (n lo hi : Int) (w : World) : Calls Tryd.prog 29 #[.int .i64 n, .int .i64 lo, .int .i64 hi] w fun e w' => w = w' ∧ e = .returned (.bool (inB n lo hi)) :=
  (in_num n lo hi w).mono fun _ _ ⟨h1, h2⟩ => ⟨h2.symm, h1⟩
def boxS (s : Sr) (T : TypeId) : Obj := .cells #[.string s.cls, .int .i64 s.exp, .int .i64 s.strike, .int .i64 s.right] T (0, 0)
theorem block_nw (w : World) (o : Obj) : (w.alloc o).heap[w.heap.size]? = some o := by
  show (w.heap.push o)[w.heap.size]? = _
  simp
theorem below_block {w w' : World} {b : Nat} {o : Obj} (hb : Below w.heap.size w w') (h : w.heap[b]? = some o) : w'.heap[b]? = some o := by
  rw [hb.block b (lt_of_block h)]; exact h
theorem below_two {a b c : World} (h : Below a.heap.size a b) (k : Below b.heap.size b c) : Below a.heap.size a c := h.trans (k.mono h.size)
theorem below_alloc (w : World) (o : Obj) : Below w.heap.size w (w.alloc o) := (Below.refl _ _).alloc (Nat.le_refl _) _
def PlPost (s : Sr) (w : World) (e : Ending) (w' : World) : Prop := e = .returned (.tuple #[.int .i64 (chk s).1, .int .i64 (chk s).2]) ∧ Below w.heap.size w w'
def CkPost (s : Sr) (w : World) (e : Ending) (w' : World) : Prop := e = .returned (.int .i64 (chk s).2) ∧ Below w.heap.size w w'
def CrPost (s : Sr) (w : World) (e : Ending) (w' : World) : Prop := e = .returned (.tuple #[.int .i64 (chk s).2, .int .i64 (chk s).1]) ∧ Below w.heap.size w w'
set_option maxHeartbeats 2000000 in
set_option maxRecDepth 100000 in
theorem place_any (s : Sr) (w : World) (hs : s.cls.size ≤ 50) : Calls Tryd.prog 20 #[.agg #[.string s.cls, .int .i64 s.exp, .int .i64 s.strike, .int .i64 s.right]] w (PlPost s w) := by
  have hc := chk_cases s
  have hq : (w.alloc (.cells #[.string s.cls, .int .i64 s.exp, .int .i64 s.strike, .int .i64 s.right] 23)).heap[w.heap.size]? = some (boxS s 23) := block_nw _ _
  have hk := below_alloc w (.cells #[.string s.cls, .int .i64 s.exp, .int .i64 s.strike, .int .i64 s.right] 23)
  rcases hc with ⟨h1, hE⟩ | ⟨h1, h2, hE⟩ | ⟨h1, h2, h3, hE⟩ | ⟨h1, h2, h3, h4, h5, hE⟩ | ⟨h1, h2, h3, h4, hE⟩ | ⟨h1, h2, h3, h4, h5, hE⟩
  · have E := Lib.hid hE
    have H1 := Lib.hid h1
    clear hE h1
    go_enter Tryd.func20, Tryd.ntmps20
    go_upto_region 1 with fail
    generalize w.heap.size = q at hq ⊢
    generalize w.alloc (.cells #[.string s.cls, .int .i64 s.exp, .int .i64 s.strike, .int .i64 s.right] 23) = w0 at hq hk ⊢
    have c0 : w0.cell? ⟨q, 0, none⟩ = some (.string s.cls) := by rw [cell_of_block hq]; rfl
    have c1 : w0.cell? ⟨q, 1, none⟩ = some (.int .i64 s.exp) := by rw [cell_of_block hq]; rfl
    have c2 : w0.cell? ⟨q, 2, none⟩ = some (.int .i64 s.strike) := by rw [cell_of_block hq]; rfl
    have c3 : w0.cell? ⟨q, 3, none⟩ = some (.int .i64 s.right) := by rw [cell_of_block hq]; rfl
    go_wp2_with fail
    refine (good_any s.cls _ hs).mono ?_
    rintro e w1 ⟨rfl, k1⟩
    have hk1 := below_two hk k1
    have hq1 := below_block k1 hq
    clear c0 c1 c2 c3
    have c0 : w1.cell? ⟨q, 0, none⟩ = some (.string s.cls) := by rw [cell_of_block hq1]; rfl
    have c1 : w1.cell? ⟨q, 1, none⟩ = some (.int .i64 s.exp) := by rw [cell_of_block hq1]; rfl
    have c2 : w1.cell? ⟨q, 2, none⟩ = some (.int .i64 s.strike) := by rw [cell_of_block hq1]; rfl
    have c3 : w1.cell? ⟨q, 3, none⟩ = some (.int .i64 s.right) := by rw [cell_of_block hq1]; rfl
    rw [H1.out]
    go_wp2_with fail
    go_ret2
    exact ⟨by rw [E.out]; first | done | rfl, hk1⟩
  · have E := Lib.hid hE
    have H1 := Lib.hid h1
    have H2 := Lib.hid h2
    clear hE h1 h2
    go_enter Tryd.func20, Tryd.ntmps20
    go_upto_region 1 with fail
    generalize w.heap.size = q at hq ⊢
    generalize w.alloc (.cells #[.string s.cls, .int .i64 s.exp, .int .i64 s.strike, .int .i64 s.right] 23) = w0 at hq hk ⊢
    have c0 : w0.cell? ⟨q, 0, none⟩ = some (.string s.cls) := by rw [cell_of_block hq]; rfl
    have c1 : w0.cell? ⟨q, 1, none⟩ = some (.int .i64 s.exp) := by rw [cell_of_block hq]; rfl
    have c2 : w0.cell? ⟨q, 2, none⟩ = some (.int .i64 s.strike) := by rw [cell_of_block hq]; rfl
    have c3 : w0.cell? ⟨q, 3, none⟩ = some (.int .i64 s.right) := by rw [cell_of_block hq]; rfl
    go_wp2_with fail
    refine (good_any s.cls _ hs).mono ?_
    rintro e w1 ⟨rfl, k1⟩
    have hk1 := below_two hk k1
    have hq1 := below_block k1 hq
    clear c0 c1 c2 c3
    have c0 : w1.cell? ⟨q, 0, none⟩ = some (.string s.cls) := by rw [cell_of_block hq1]; rfl
    have c1 : w1.cell? ⟨q, 1, none⟩ = some (.int .i64 s.exp) := by rw [cell_of_block hq1]; rfl
    have c2 : w1.cell? ⟨q, 2, none⟩ = some (.int .i64 s.strike) := by rw [cell_of_block hq1]; rfl
    have c3 : w1.cell? ⟨q, 3, none⟩ = some (.int .i64 s.right) := by rw [cell_of_block hq1]; rfl
    rw [H1.out]
    go_wp2_with fail
    refine (in_any _ _ _ _).mono ?_
    rintro e w' ⟨rfl, rfl⟩
    rw [H2.out]
    go_wp2_with fail
    go_ret2
    exact ⟨by rw [E.out]; first | done | rfl, hk1⟩
  · have E := Lib.hid hE
    have H1 := Lib.hid h1
    have H2 := Lib.hid h2
    have H3 := Lib.hid h3
    clear hE h1 h2 h3
    go_enter Tryd.func20, Tryd.ntmps20
    go_upto_region 1 with fail
    generalize w.heap.size = q at hq ⊢
    generalize w.alloc (.cells #[.string s.cls, .int .i64 s.exp, .int .i64 s.strike, .int .i64 s.right] 23) = w0 at hq hk ⊢
    have c0 : w0.cell? ⟨q, 0, none⟩ = some (.string s.cls) := by rw [cell_of_block hq]; rfl
    have c1 : w0.cell? ⟨q, 1, none⟩ = some (.int .i64 s.exp) := by rw [cell_of_block hq]; rfl
    have c2 : w0.cell? ⟨q, 2, none⟩ = some (.int .i64 s.strike) := by rw [cell_of_block hq]; rfl
    have c3 : w0.cell? ⟨q, 3, none⟩ = some (.int .i64 s.right) := by rw [cell_of_block hq]; rfl
    go_wp2_with fail
    refine (good_any s.cls _ hs).mono ?_
    rintro e w1 ⟨rfl, k1⟩
    have hk1 := below_two hk k1
    have hq1 := below_block k1 hq
    clear c0 c1 c2 c3
    have c0 : w1.cell? ⟨q, 0, none⟩ = some (.string s.cls) := by rw [cell_of_block hq1]; rfl
    have c1 : w1.cell? ⟨q, 1, none⟩ = some (.int .i64 s.exp) := by rw [cell_of_block hq1]; rfl
    have c2 : w1.cell? ⟨q, 2, none⟩ = some (.int .i64 s.strike) := by rw [cell_of_block hq1]; rfl
    have c3 : w1.cell? ⟨q, 3, none⟩ = some (.int .i64 s.right) := by rw [cell_of_block hq1]; rfl
    rw [H1.out]
    go_wp2_with fail
    refine (in_any _ _ _ _).mono ?_
    rintro e w' ⟨rfl, rfl⟩
    rw [H2.out]
    go_wp2_with fail
    refine (in_any _ _ _ _).mono ?_
    rintro e w' ⟨rfl, rfl⟩
    rw [H3.out]
    go_wp2_with fail
    go_ret2
    exact ⟨by rw [E.out]; first | done | rfl, hk1⟩
  · have E := Lib.hid hE
    have H1 := Lib.hid h1
    have H2 := Lib.hid h2
    have H3 := Lib.hid h3
    clear hE h1 h2 h3
    go_enter Tryd.func20, Tryd.ntmps20
    go_upto_region 1 with fail
    generalize w.heap.size = q at hq ⊢
    generalize w.alloc (.cells #[.string s.cls, .int .i64 s.exp, .int .i64 s.strike, .int .i64 s.right] 23) = w0 at hq hk ⊢
    have c0 : w0.cell? ⟨q, 0, none⟩ = some (.string s.cls) := by rw [cell_of_block hq]; rfl
    have c1 : w0.cell? ⟨q, 1, none⟩ = some (.int .i64 s.exp) := by rw [cell_of_block hq]; rfl
    have c2 : w0.cell? ⟨q, 2, none⟩ = some (.int .i64 s.strike) := by rw [cell_of_block hq]; rfl
    have c3 : w0.cell? ⟨q, 3, none⟩ = some (.int .i64 s.right) := by rw [cell_of_block hq]; rfl
    go_wp2_with fail
    refine (good_any s.cls _ hs).mono ?_
    rintro e w1 ⟨rfl, k1⟩
    have hk1 := below_two hk k1
    have hq1 := below_block k1 hq
    clear c0 c1 c2 c3
    have c0 : w1.cell? ⟨q, 0, none⟩ = some (.string s.cls) := by rw [cell_of_block hq1]; rfl
    have c1 : w1.cell? ⟨q, 1, none⟩ = some (.int .i64 s.exp) := by rw [cell_of_block hq1]; rfl
    have c2 : w1.cell? ⟨q, 2, none⟩ = some (.int .i64 s.strike) := by rw [cell_of_block hq1]; rfl
    have c3 : w1.cell? ⟨q, 3, none⟩ = some (.int .i64 s.right) := by rw [cell_of_block hq1]; rfl
    rw [H1.out]
    go_wp2_with fail
    refine (in_any _ _ _ _).mono ?_
    rintro e w' ⟨rfl, rfl⟩
    rw [H2.out]
    go_wp2_with fail
    refine (in_any _ _ _ _).mono ?_
    rintro e w' ⟨rfl, rfl⟩
    rw [H3.out]
    go_wp2_with fail
    go_ret2
    exact ⟨by rw [E.out]; first | done | rfl, hk1⟩
  · have E := Lib.hid hE
    have H1 := Lib.hid h1
    have H2 := Lib.hid h2
    have H3 := Lib.hid h3
    clear hE h1 h2 h3
    go_enter Tryd.func20, Tryd.ntmps20
    go_upto_region 1 with fail
    generalize w.heap.size = q at hq ⊢
    generalize w.alloc (.cells #[.string s.cls, .int .i64 s.exp, .int .i64 s.strike, .int .i64 s.right] 23) = w0 at hq hk ⊢
    have c0 : w0.cell? ⟨q, 0, none⟩ = some (.string s.cls) := by rw [cell_of_block hq]; rfl
    have c1 : w0.cell? ⟨q, 1, none⟩ = some (.int .i64 s.exp) := by rw [cell_of_block hq]; rfl
    have c2 : w0.cell? ⟨q, 2, none⟩ = some (.int .i64 s.strike) := by rw [cell_of_block hq]; rfl
    have c3 : w0.cell? ⟨q, 3, none⟩ = some (.int .i64 s.right) := by rw [cell_of_block hq]; rfl
    go_wp2_with fail
    refine (good_any s.cls _ hs).mono ?_
    rintro e w1 ⟨rfl, k1⟩
    have hk1 := below_two hk k1
    have hq1 := below_block k1 hq
    clear c0 c1 c2 c3
    have c0 : w1.cell? ⟨q, 0, none⟩ = some (.string s.cls) := by rw [cell_of_block hq1]; rfl
    have c1 : w1.cell? ⟨q, 1, none⟩ = some (.int .i64 s.exp) := by rw [cell_of_block hq1]; rfl
    have c2 : w1.cell? ⟨q, 2, none⟩ = some (.int .i64 s.strike) := by rw [cell_of_block hq1]; rfl
    have c3 : w1.cell? ⟨q, 3, none⟩ = some (.int .i64 s.right) := by rw [cell_of_block hq1]; rfl
    rw [H1.out]
    go_wp2_with fail
    refine (in_any _ _ _ _).mono ?_
    rintro e w' ⟨rfl, rfl⟩
    rw [H2.out]
    go_wp2_with fail
    refine (in_any _ _ _ _).mono ?_
    rintro e w' ⟨rfl, rfl⟩
    rw [H3.out]
    go_wp2_with fail
    go_ret2
    exact ⟨by rw [E.out]; first | done | rfl, hk1⟩
  · have E := Lib.hid hE
    have H1 := Lib.hid h1
    have H2 := Lib.hid h2
    have H3 := Lib.hid h3
    clear hE h1 h2 h3
    go_enter Tryd.func20, Tryd.ntmps20
    go_upto_region 1 with fail
    generalize w.heap.size = q at hq ⊢
    generalize w.alloc (.cells #[.string s.cls, .int .i64 s.exp, .int .i64 s.strike, .int .i64 s.right] 23) = w0 at hq hk ⊢
    have c0 : w0.cell? ⟨q, 0, none⟩ = some (.string s.cls) := by rw [cell_of_block hq]; rfl
    have c1 : w0.cell? ⟨q, 1, none⟩ = some (.int .i64 s.exp) := by rw [cell_of_block hq]; rfl
    have c2 : w0.cell? ⟨q, 2, none⟩ = some (.int .i64 s.strike) := by rw [cell_of_block hq]; rfl
    have c3 : w0.cell? ⟨q, 3, none⟩ = some (.int .i64 s.right) := by rw [cell_of_block hq]; rfl
    go_wp2_with fail
    refine (good_any s.cls _ hs).mono ?_
    rintro e w1 ⟨rfl, k1⟩
    have hk1 := below_two hk k1
    have hq1 := below_block k1 hq
    clear c0 c1 c2 c3
    have c0 : w1.cell? ⟨q, 0, none⟩ = some (.string s.cls) := by rw [cell_of_block hq1]; rfl
    have c1 : w1.cell? ⟨q, 1, none⟩ = some (.int .i64 s.exp) := by rw [cell_of_block hq1]; rfl
    have c2 : w1.cell? ⟨q, 2, none⟩ = some (.int .i64 s.strike) := by rw [cell_of_block hq1]; rfl
    have c3 : w1.cell? ⟨q, 3, none⟩ = some (.int .i64 s.right) := by rw [cell_of_block hq1]; rfl
    rw [H1.out]
    go_wp2_with fail
    refine (in_any _ _ _ _).mono ?_
    rintro e w' ⟨rfl, rfl⟩
    rw [H2.out]
    go_wp2_with fail
    refine (in_any _ _ _ _).mono ?_
    rintro e w' ⟨rfl, rfl⟩
    rw [H3.out]
    go_wp2_with fail
    go_ret2
    exact ⟨by rw [E.out]; first | done | rfl, hk1⟩

set_option maxHeartbeats 2000000 in
theorem check_any (s : Sr) (w : World) (hs : s.cls.size ≤ 50) : Calls Tryd.prog 10 #[.agg #[.string s.cls, .int .i64 s.exp, .int .i64 s.strike, .int .i64 s.right]] w (CkPost s w) := by
  have hq : (w.alloc (.cells #[.string s.cls, .int .i64 s.exp, .int .i64 s.strike, .int .i64 s.right] 23)).heap[w.heap.size]? = some (boxS s 23) := block_nw _ _
  have hk := below_alloc w (.cells #[.string s.cls, .int .i64 s.exp, .int .i64 s.strike, .int .i64 s.right] 23)
  go_enter Tryd.func10, Tryd.ntmps10
  go_upto_region 1 with fail
  generalize w.heap.size = q at hq ⊢
  generalize w.alloc (.cells #[.string s.cls, .int .i64 s.exp, .int .i64 s.strike, .int .i64 s.right] 23) = w0 at hq hk ⊢
  have c0 : w0.cell? ⟨q, 0, none⟩ = some (.string s.cls) := by rw [cell_of_block hq]; rfl
  have c1 : w0.cell? ⟨q, 1, none⟩ = some (.int .i64 s.exp) := by rw [cell_of_block hq]; rfl
  have c2 : w0.cell? ⟨q, 2, none⟩ = some (.int .i64 s.strike) := by rw [cell_of_block hq]; rfl
  have c3 : w0.cell? ⟨q, 3, none⟩ = some (.int .i64 s.right) := by rw [cell_of_block hq]; rfl
  go_wp2_with fail
  refine (place_any s _ hs).mono ?_
  rintro e w1 ⟨rfl, k1⟩
  have hk1 := below_two hk k1
  go_wp2_with fail
  go_ret
  exact ⟨rfl, hk1⟩

theorem out_in {n hi : Int} (h : inB n 1 hi = true) : decide (n < 1) = false ∧ decide (hi < n) = false := by
  simp [inB] at h; simp; omega
theorem out_off {n hi : Int} (h : inB n 1 hi = false) : decide (n < 1) = true ∨ (decide (n < 1) = false ∧ decide (hi < n) = true) := by
  simp [inB] at h
  by_cases h1 : n < 1
  · exact .inl (decide_eq_true h1)
  · exact .inr ⟨decide_eq_false h1, decide_eq_true (by omega)⟩
set_option maxHeartbeats 2000000 in
set_option maxRecDepth 100000 in
theorem check_ref (s : Sr) (w : World) (hs : s.cls.size ≤ 50) : Calls Tryd.prog 7 #[.agg #[.string s.cls, .int .i64 s.exp, .int .i64 s.strike, .int .i64 s.right]] w (CrPost s w) := by
  have hc := chk_cases s
  have hq : (w.alloc (.cells #[.string s.cls, .int .i64 s.exp, .int .i64 s.strike, .int .i64 s.right] 27)).heap[w.heap.size]? = some (boxS s 27) := block_nw _ _
  have hk := below_alloc w (.cells #[.string s.cls, .int .i64 s.exp, .int .i64 s.strike, .int .i64 s.right] 27)
  rcases hc with ⟨h1, hE⟩ | ⟨h1, h2, hE⟩ | ⟨h1, h2, h3, hE⟩ | ⟨h1, h2, h3, h4, h5, hE⟩ | ⟨h1, h2, h3, h4, hE⟩ | ⟨h1, h2, h3, h4, h5, hE⟩
  · have E := Lib.hid hE
    have H1 := Lib.hid h1
    clear hE h1
    go_enter Tryd.func7, Tryd.ntmps7
    go_upto_region 1 with fail
    generalize w.heap.size = q at hq ⊢
    generalize w.alloc (.cells #[.string s.cls, .int .i64 s.exp, .int .i64 s.strike, .int .i64 s.right] 27) = w0 at hq hk ⊢
    have c0 : w0.cell? ⟨q, 0, none⟩ = some (.string s.cls) := by rw [cell_of_block hq]; rfl
    have c1 : w0.cell? ⟨q, 1, none⟩ = some (.int .i64 s.exp) := by rw [cell_of_block hq]; rfl
    have c2 : w0.cell? ⟨q, 2, none⟩ = some (.int .i64 s.strike) := by rw [cell_of_block hq]; rfl
    have c3 : w0.cell? ⟨q, 3, none⟩ = some (.int .i64 s.right) := by rw [cell_of_block hq]; rfl
    go_wp2_with fail
    refine (good_ref s.cls _ hs).mono ?_
    rintro e w' ⟨rfl, rfl⟩
    rw [H1.out]
    go_wp2_with fail
    go_ret2
    exact ⟨by rw [E.out]; first | done | rfl, hk⟩
  · have E := Lib.hid hE
    have H1 := Lib.hid h1
    have j2 := out_off h2
    clear hE h1 h2
    rcases j2 with j2a | ⟨j2a, j2b⟩
    all_goals
      go_enter Tryd.func7, Tryd.ntmps7
      go_upto_region 1 with fail
      generalize w.heap.size = q at hq ⊢
      generalize w.alloc (.cells #[.string s.cls, .int .i64 s.exp, .int .i64 s.strike, .int .i64 s.right] 27) = w0 at hq hk ⊢
      have c0 : w0.cell? ⟨q, 0, none⟩ = some (.string s.cls) := by rw [cell_of_block hq]; rfl
      have c1 : w0.cell? ⟨q, 1, none⟩ = some (.int .i64 s.exp) := by rw [cell_of_block hq]; rfl
      have c2 : w0.cell? ⟨q, 2, none⟩ = some (.int .i64 s.strike) := by rw [cell_of_block hq]; rfl
      have c3 : w0.cell? ⟨q, 3, none⟩ = some (.int .i64 s.right) := by rw [cell_of_block hq]; rfl
      go_wp2_with fail
      refine (good_ref s.cls _ hs).mono ?_
      rintro e w' ⟨rfl, rfl⟩
      rw [H1.out]
      go_wp2_with fail
      go_ret2
      exact ⟨by rw [E.out]; first | done | rfl, hk⟩
  · have E := Lib.hid hE
    have H1 := Lib.hid h1
    have j2 := out_in h2
    have j3 := out_off h3
    clear hE h1 h2 h3
    obtain ⟨j2a, j2b⟩ := j2
    rcases j3 with j3a | ⟨j3a, j3b⟩
    all_goals
      go_enter Tryd.func7, Tryd.ntmps7
      go_upto_region 1 with fail
      generalize w.heap.size = q at hq ⊢
      generalize w.alloc (.cells #[.string s.cls, .int .i64 s.exp, .int .i64 s.strike, .int .i64 s.right] 27) = w0 at hq hk ⊢
      have c0 : w0.cell? ⟨q, 0, none⟩ = some (.string s.cls) := by rw [cell_of_block hq]; rfl
      have c1 : w0.cell? ⟨q, 1, none⟩ = some (.int .i64 s.exp) := by rw [cell_of_block hq]; rfl
      have c2 : w0.cell? ⟨q, 2, none⟩ = some (.int .i64 s.strike) := by rw [cell_of_block hq]; rfl
      have c3 : w0.cell? ⟨q, 3, none⟩ = some (.int .i64 s.right) := by rw [cell_of_block hq]; rfl
      go_wp2_with fail
      refine (good_ref s.cls _ hs).mono ?_
      rintro e w' ⟨rfl, rfl⟩
      rw [H1.out]
      go_wp2_with fail
      go_ret2
      exact ⟨by rw [E.out]; first | done | rfl, hk⟩
  · have E := Lib.hid hE
    have H1 := Lib.hid h1
    have j2 := out_in h2
    have j3 := out_in h3
    clear hE h1 h2 h3
    obtain ⟨j2a, j2b⟩ := j2
    obtain ⟨j3a, j3b⟩ := j3
    go_enter Tryd.func7, Tryd.ntmps7
    go_upto_region 1 with fail
    generalize w.heap.size = q at hq ⊢
    generalize w.alloc (.cells #[.string s.cls, .int .i64 s.exp, .int .i64 s.strike, .int .i64 s.right] 27) = w0 at hq hk ⊢
    have c0 : w0.cell? ⟨q, 0, none⟩ = some (.string s.cls) := by rw [cell_of_block hq]; rfl
    have c1 : w0.cell? ⟨q, 1, none⟩ = some (.int .i64 s.exp) := by rw [cell_of_block hq]; rfl
    have c2 : w0.cell? ⟨q, 2, none⟩ = some (.int .i64 s.strike) := by rw [cell_of_block hq]; rfl
    have c3 : w0.cell? ⟨q, 3, none⟩ = some (.int .i64 s.right) := by rw [cell_of_block hq]; rfl
    go_wp2_with fail
    refine (good_ref s.cls _ hs).mono ?_
    rintro e w' ⟨rfl, rfl⟩
    rw [H1.out]
    go_wp2_with fail
    go_ret2
    exact ⟨by rw [E.out]; first | done | rfl, hk⟩
  · have E := Lib.hid hE
    have H1 := Lib.hid h1
    have j2 := out_in h2
    have j3 := out_in h3
    clear hE h1 h2 h3
    obtain ⟨j2a, j2b⟩ := j2
    obtain ⟨j3a, j3b⟩ := j3
    go_enter Tryd.func7, Tryd.ntmps7
    go_upto_region 1 with fail
    generalize w.heap.size = q at hq ⊢
    generalize w.alloc (.cells #[.string s.cls, .int .i64 s.exp, .int .i64 s.strike, .int .i64 s.right] 27) = w0 at hq hk ⊢
    have c0 : w0.cell? ⟨q, 0, none⟩ = some (.string s.cls) := by rw [cell_of_block hq]; rfl
    have c1 : w0.cell? ⟨q, 1, none⟩ = some (.int .i64 s.exp) := by rw [cell_of_block hq]; rfl
    have c2 : w0.cell? ⟨q, 2, none⟩ = some (.int .i64 s.strike) := by rw [cell_of_block hq]; rfl
    have c3 : w0.cell? ⟨q, 3, none⟩ = some (.int .i64 s.right) := by rw [cell_of_block hq]; rfl
    go_wp2_with fail
    refine (good_ref s.cls _ hs).mono ?_
    rintro e w' ⟨rfl, rfl⟩
    rw [H1.out]
    go_wp2_with fail
    go_ret2
    exact ⟨by rw [E.out]; first | done | rfl, hk⟩
  · have E := Lib.hid hE
    have H1 := Lib.hid h1
    have j2 := out_in h2
    have j3 := out_in h3
    clear hE h1 h2 h3
    obtain ⟨j2a, j2b⟩ := j2
    obtain ⟨j3a, j3b⟩ := j3
    go_enter Tryd.func7, Tryd.ntmps7
    go_upto_region 1 with fail
    generalize w.heap.size = q at hq ⊢
    generalize w.alloc (.cells #[.string s.cls, .int .i64 s.exp, .int .i64 s.strike, .int .i64 s.right] 27) = w0 at hq hk ⊢
    have c0 : w0.cell? ⟨q, 0, none⟩ = some (.string s.cls) := by rw [cell_of_block hq]; rfl
    have c1 : w0.cell? ⟨q, 1, none⟩ = some (.int .i64 s.exp) := by rw [cell_of_block hq]; rfl
    have c2 : w0.cell? ⟨q, 2, none⟩ = some (.int .i64 s.strike) := by rw [cell_of_block hq]; rfl
    have c3 : w0.cell? ⟨q, 3, none⟩ = some (.int .i64 s.right) := by rw [cell_of_block hq]; rfl
    go_wp2_with fail
    refine (good_ref s.cls _ hs).mono ?_
    rintro e w' ⟨rfl, rfl⟩
    rw [H1.out]
    go_wp2_with fail
    go_ret2
    exact ⟨by rw [E.out]; first | done | rfl, hk⟩
end Go.Proofs.YtjapcnahfbipeaaDoor
