/- A class: whether a text is one: the program's walk, the reference's. -/
import Derived.Test.YtjapcnahfbipeaaDoorPd
import Derived.WalkLawsBesides
namespace Go.Proofs.YtjapcnahfbipeaaDoor
open Go Go.RowKit

def okC (first : Bool) (c : UInt8) : Bool := (decide (65 ≤ c.toNat) && decide (c.toNat ≤ 90)) || (!first && (decide (48 ≤ c.toNat) && decide (c.toNat ≤ 57)))
def goodB : List UInt8 → Bool
  | [] => false
  | c :: r => okC true c && r.all (okC false) && decide ((c :: r).length ≤ 8)
/-- .. told by places. -/
theorem goodB_at (l : List UInt8) : goodB l = true ↔ (1 ≤ l.length ∧ l.length ≤ 8 ∧ ∀ j, j < l.length → okC (j == 0) (l.getD j 0) = true) := by
  cases l with
  | nil => simp [goodB]
  | cons c r =>
    simp only [goodB, Bool.and_eq_true, decide_eq_true_eq, List.all_eq_true]
    constructor
    · rintro ⟨⟨h1, h2⟩, h3⟩
      refine ⟨by simp, h3, fun j hj => ?_⟩
      cases j with
      | zero => simpa using h1
      | succ j =>
        have hj' : j < r.length := by simpa using hj
        have := h2 r[j] (List.getElem_mem _)
        simpa [List.getD, List.getElem?_eq_getElem hj'] using this
    · rintro ⟨_, h3, h⟩
      refine ⟨⟨by simpa using h 0 (by simp), fun c' hc' => ?_⟩, h3⟩
      obtain ⟨j, hj, rfl⟩ := List.mem_iff_getElem.1 hc'
      have := h (j + 1) (by simpa using hj)
      simpa [List.getD, List.getElem?_eq_getElem hj] using this
def OkTo (l : List UInt8) (i : Nat) : Prop := ∀ j, j < i → okC (j == 0) (l.getD j 0) = true
theorem OkTo.next {l : List UInt8} {i : Nat} (h : OkTo l i) (hc : okC (i == 0) (l.getD i 0) = true) : OkTo l (i + 1) := by
  intro j hj
  by_cases e : j = i
  · subst e; exact hc
  · exact h j (by omega)
def GdPost (b : Bool) (w : World) (e : Ending) (w' : World) : Prop := e = .returned (.bool b) ∧ Below w.heap.size w w'
def GdRel (l : List UInt8) (n : Nat) (w1 : World) (iv : Value) (wr : World) : Prop := ∃ i : Nat, iv = .int .i64 i ∧ i ≤ n ∧ OkTo l i ∧ wr = w1
theorem good_no {l : List UInt8} {i : Nat} (hi : i < l.length) (hc : okC (i == 0) (l.getD i 0) = false) : goodB l = false := by
  cases h : goodB l with
  | false => rfl
  | true => have := ((goodB_at l).1 h).2.2 i hi; rw [hc] at this; cases this
/-- A sign, by its number. -/
theorem ok_of {c : UInt8} {z : Int} (hz : (c.toNat : Int) = z) (f : Bool) : okC f c = ((decide (65 ≤ z) && decide (z ≤ 90)) || (!f && (decide (48 ≤ z) && decide (z ≤ 57)))) := by
  subst hz
  have h1 : decide ((65 : Int) ≤ (c.toNat : Int)) = decide (65 ≤ c.toNat) := by simp; omega
  have h2 : decide ((c.toNat : Int) ≤ 90) = decide (c.toNat ≤ 90) := by simp; omega
  have h3 : decide ((48 : Int) ≤ (c.toNat : Int)) = decide (48 ≤ c.toNat) := by simp; omega
  have h4 : decide ((c.toNat : Int) ≤ 57) = decide (c.toNat ≤ 57) := by simp; omega
  rw [h1, h2, h3, h4]; rfl

set_option maxHeartbeats 2000000 in
set_option maxRecDepth 100000 in
theorem good_any (s : ByteArray) (w : World) (hs : s.size ≤ 50) : Calls Tryd.prog 11 #[.string s] w (GdPost (goodB s.data.toList) w) := by
  have hcv := Lib.run_convert_string_bytes (P := Tryd.prog) w 9 47 5 s (u := .string) Tryd.underlying9 Tryd.underlying47 Tryd.underlying5
  obtain ⟨l, hl⟩ : ∃ l, s.data.toList = l := ⟨_, rfl⟩
  obtain ⟨n, hn⟩ : ∃ n, s.size = n := ⟨_, rfl⟩
  have Hll : Hid (l.length = n) := by rw [← hl, ← hn]; rfl
  have Hcell : Hid (∀ i, i < n → (Lib.bytesWorld w 5 s).cell? ⟨w.heap.size, i, none⟩ = some (.int .u8 ((l.getD i 0).toNat : Int))) := fun i hi => by
    have := Lib.bytesWorld_cell w 5 s i (by omega); rw [hl] at this; exact this
  have Hb1 : Hid (Below w.heap.size w (Lib.bytesWorld w 5 s)) := Lib.bytesWorld_below _ _ _
  have hn50 : n ≤ 50 := by omega
  have Hsn : Hid (s.size = n) := hn
  rw [hn] at hcv
  rw [hl]
  clear hn hs hl
  generalize grownCap w n 0 5 = cap at hcv
  generalize Lib.bytesWorld w 5 s = W1 at hcv Hcell Hb1
  go_enter Tryd.func11, Tryd.ntmps11
  go_wp2_with fail
  go_loopw [8] (fun iv wr => GdRel l n W1 iv wr) (fun iv _ => n - (intOf iv).toNat)
  case atStart => exact ⟨0, rfl, Nat.zero_le _, fun j hj => absurd hj (Nat.not_lt_zero j), rfl⟩
  case round =>
    obtain ⟨i, rfl, hi, hok, rfl⟩ := hrel
    have Hok := Lib.hid hok
    clear hok
    by_cases hlt : i < n
    · obtain ⟨c, hc⟩ : ∃ c : Int, ((l.getD i 0).toNat : Int) = c := ⟨_, rfl⟩
      have hcell := Hcell.out i hlt
      rw [hc] at hcell
      have Hc := Lib.hid hc
      have Hlt := Lib.hid hlt
      clear hc
      have b1 : (0 : Int) ≤ (i : Int) := by omega
      have b2 : (i : Int) < (n : Int) := by omega
      have hi0 : (((i : Int) == 0) = true ∧ (i == 0) = true) ∨ (((i : Int) == 0) = false ∧ (i == 0) = false) := by
        by_cases e : i = 0
        · left; subst e; simp
        · right; simp; omega
      have key : okC (i == 0) (l.getD i 0) = ((decide (65 ≤ c) && decide (c ≤ 90)) || (!(i == 0) && (decide (48 ≤ c) && decide (c ≤ 57)))) := ok_of Hc.out _
      have bad : Hid (okC (i == 0) (l.getD i 0) = false → goodB l = false) := fun h => good_no (by rw [Hll.out]; exact hlt) h
      have nxt : Hid (okC (i == 0) (l.getD i 0) = true → GdRel l n wr (.int .i64 ((i : Int) + 1)) wr) := fun h => ⟨i + 1, by push_cast; rfl, by omega, Hok.out.next h, rfl⟩
      have Key := Lib.hid key
      clear key
      by_cases h1 : 65 ≤ c ∧ c ≤ 90
      · have hk : Hid (okC (i == 0) (l.getD i 0) = true) := by show _ = _; rw [Key.out]; simp [h1]
        obtain ⟨h1a, h1b⟩ := h1
        clear hi0
        go_wp2
        exact ⟨nxt.out hk.out, by have := Hlt.out; simp [intOf]; omega⟩
      · rcases hi0 with ⟨hi1, hi2⟩ | ⟨hi1, hi2⟩
        · have hk : Hid (okC (i == 0) (l.getD i 0) = false) := by show _ = _; rw [Key.out, hi2]; simp; omega
          have E := Lib.hid (bad.out hk.out)
          have h3 : c < 65 ∨ (65 ≤ c ∧ 90 < c) := by omega
          clear h1 hi2
          rcases h3 with h3 | ⟨h3, h4⟩
          all_goals
            go_wp2
            go_ret
            exact ⟨ret_bool E.out.symm, Hb1.out⟩
        · by_cases h2 : 48 ≤ c ∧ c ≤ 57
          · have hk : Hid (okC (i == 0) (l.getD i 0) = true) := by show _ = _; rw [Key.out, hi2]; simp [h2]
            have h3 : c < 65 := by omega
            obtain ⟨h2a, h2b⟩ := h2
            clear h1 hi2
            go_wp2
            exact ⟨nxt.out hk.out, by have := Hlt.out; simp [intOf]; omega⟩
          · have hk : Hid (okC (i == 0) (l.getD i 0) = false) := by show _ = _; rw [Key.out, hi2]; simp; omega
            have E := Lib.hid (bad.out hk.out)
            have h3 : c < 48 ∨ (48 ≤ c ∧ 57 < c ∧ c < 65) ∨ (48 ≤ c ∧ 57 < c ∧ 65 ≤ c ∧ 90 < c) := by omega
            clear h1 h2 hi2
            rcases h3 with h3 | ⟨h3, h4, h5⟩ | ⟨h3, h4, h5, h6⟩
            all_goals
              go_wp2
              go_ret
              exact ⟨ret_bool E.out.symm, Hb1.out⟩
    · obtain rfl : i = n := by omega
      have hres : goodB l = (decide (1 ≤ i) && decide (i ≤ 8)) := by
        rw [Bool.eq_iff_iff, goodB_at, Hll.out]
        simp only [Bool.and_eq_true, decide_eq_true_eq]
        exact ⟨fun h => ⟨h.1, h.2.1⟩, fun h => ⟨h.1, h.2, Hok.out⟩⟩
      have Hres := Lib.hid hres
      clear hres
      have hsz := Hsn.out
      have Hsz := Lib.hid hsz
      clear hsz
      by_cases h1 : 1 ≤ s.size
      · by_cases h2 : s.size ≤ 8
        · go_wp2
          go_ret
          exact ⟨ret_bool (by rw [Hres.out, ← Hsz.out]; first | (simp [h1, h2]; omega) | (simp [h2]; omega) | (simp [h1]; done) | (simp [h1]; omega)), Hb1.out⟩
        · go_wp2
          go_ret
          exact ⟨ret_bool (by rw [Hres.out, ← Hsz.out]; first | (simp [h1, h2]; omega) | (simp [h2]; omega) | (simp [h1]; done) | (simp [h1]; omega)), Hb1.out⟩
      · go_wp2
        go_ret
        exact ⟨ret_bool (by rw [Hres.out, ← Hsz.out]; first | (simp [h1, h2]; omega) | (simp [h2]; omega) | (simp [h1]; done) | (simp [h1]; omega)), Hb1.out⟩
end Go.Proofs.YtjapcnahfbipeaaDoor
