/- Numbers: a number in words; the known cases. -/
import Derived.Test.YtebjldgaibagpaaDoorNc
import Derived.Test.YtebjldgaibagpaaDoorNe
namespace Go.Proofs.YtebjldgaibagpaaDoor
open Go Go.RowKit Go.Sort

theorem var_on {P : Program} {w w' : World} {n : String} {cs : Array Value} (h : w.var? P n = some cs) (hb : Below w.heap.size w w') : w'.var? P n = some cs := by
  unfold World.var? at h ⊢
  cases hg : P.globalNamed n with
  | none => simp [hg] at h
  | some g =>
    simp only [hg, Option.bind_some] at h ⊢
    by_cases hk : g < w.heap.size
    · rw [hb.block g hk]; exact h
    · rw [Array.getElem?_eq_none (by omega)] at h; cases h

/-- What the laid variables give the walks. -/
structure Laid (w : World) : Prop where
  sents : Sents w
  tab : Lib.TabIs Tryd.prog w "internal/strconv.uint64pow10" .u64 Lib.pow10Tab

theorem Laid.on {w w' : World} (h : Laid w) (hb : Below w.heap.size w w') : Laid w' :=
  ⟨sents_on h.sents fun _ _ hv => var_on hv hb, var_on h.tab hb⟩

theorem below_grow (w : World) (k : Nat) (os : Array Obj) : Below w.heap.size w (grow (w.drewN k) os) := by
  refine ⟨rfl, rfl, rfl, ?_, fun j hj => ?_⟩
  · show w.heap.size ≤ (w.heap ++ os).size; simp
  · show (w.heap ++ os)[j]? = w.heap[j]?
    rw [Array.getElem?_append_left hj]

theorem text_num (n : Int) (hn : I64 n) (w : World) (hL : Laid w) :
    Calls Tryd.prog 22 #[.int .i64 n] w fun e w' => e = .returned (.string ⟨(Lib.itoa n).toArray⟩) ∧ Below w.heap.size w w' := by
  have hf := Tryd.strconv_FormatInt_10 n hn.1 hn.2 w hL.tab
  clear hL hn
  generalize (Lib.itoa n).toArray = t at hf
  go_enter Tryd.func22, Tryd.ntmps22
  go_wp2_with fail
  refine hf.mono ?_
  rintro e w1 ⟨rfl, k, os, rfl⟩
  have hb := Lib.hid (below_grow w k os)
  generalize grow (w.drewN k) os = w2 at hb
  go_wp2
  go_ret
  exact ⟨rfl, hb.out⟩

theorem i64_lit {a : Int} (h : (decide (-9223372036854775808 ≤ a) && decide (a ≤ 9223372036854775807)) = true) : I64 a := by
  simpa [I64] using h

def KnownPost (w : World) (e : Ending) (w' : World) : Prop := e = .returned (.bool true) ∧ Below w.heap.size w w'

set_option maxHeartbeats 2000000 in
set_option maxRecDepth 100000 in
theorem known_walk (w : World) (hL : Laid w) : Calls Tryd.prog 8 #[] w (KnownPost w) := by
  have h1 : ∀ w, Calls Tryd.prog 9 #[.int .i64 2, .int .i64 3] w fun e w' => e = .returned (.tuple #[.int .i64 5, .int .i64 0]) ∧ w' = w := fun w => add_num 2 3 (i64_lit (by decide)) (i64_lit (by decide)) w
  have h2 : ∀ w, Calls Tryd.prog 9 #[.int .i64 9223372036854775807, .int .i64 1] w fun e w' => e = .returned (.tuple #[.int .i64 0, .int .i64 9]) ∧ w' = w := fun w => add_num 9223372036854775807 1 (i64_lit (by decide)) (i64_lit (by decide)) w
  have h3 : ∀ w, Calls Tryd.prog 13 #[.int .i64 (-4), .int .i64 5] w fun e w' => e = .returned (.tuple #[.int .i64 (-20), .int .i64 0]) ∧ w' = w := fun w => mul_num (-4) 5 (i64_lit (by decide)) (i64_lit (by decide)) w
  have h4 : ∀ w, Laid w → Calls Tryd.prog 20 #[.string ⟨#[45, 49, 50]⟩] w fun e w' => e = .returned (.tuple #[.int .i64 (-12), .int .i64 0]) ∧ Below w.heap.size w w' := fun w hL => parse_num ⟨#[45, 49, 50]⟩ w (by decide) hL.sents
  have h5 : ∀ w, Laid w → Calls Tryd.prog 20 #[.string ⟨#[48, 49, 50]⟩] w fun e w' => e = .returned (.tuple #[.int .i64 0, .int .i64 2]) ∧ Below w.heap.size w w' := fun w hL => parse_num ⟨#[48, 49, 50]⟩ w (by decide) hL.sents
  have h6 : ∀ w, Calls Tryd.prog 15 #[.int .i64 7] w fun e w' => e = .returned (.tuple #[.int .i64 (-7), .int .i64 0]) ∧ w' = w := fun w => neg_num 7 (i64_lit (by decide)) w
  have h7 : ∀ w, Calls Tryd.prog 17 #[.int .i64 12, .int .i64 (-18)] w fun e w' => e = .returned (.int .i64 6) ∧ Below w.heap.size w w' := fun w => gcd_num 12 (-18) (i64_lit (by decide)) (i64_lit (by decide)) w
  have e12 : Lib.itoa (-12) = [45, 49, 50] := by
    simp [Lib.itoa, Lib.decDigits]
  have h8 : ∀ w, Laid w → Calls Tryd.prog 22 #[.int .i64 (-12)] w fun e w' => e = .returned (.string ⟨#[45, 49, 50]⟩) ∧ Below w.heap.size w w' := fun w hL => by
    have := text_num (-12) (i64_lit (by decide)) w hL
    rw [e12] at this
    exact this
  have h9 : ∀ w, Calls Tryd.prog 19 #[.int .i64 3, .int .i64 1, .int .i64 3] w fun e w' => e = .returned (.bool true) ∧ w' = w := fun w => in_num 3 1 3 w
  clear e12
  have h1 := Lib.hid h1; have h2 := Lib.hid h2; have h3 := Lib.hid h3; have h4 := Lib.hid h4; have h5 := Lib.hid h5; have h6 := Lib.hid h6; have h7 := Lib.hid h7; have h8 := Lib.hid h8; have h9 := Lib.hid h9
  have hL := Lib.hid hL
  go_enter Tryd.func8, Tryd.ntmps8
  go_wp2_with fail
  refine (h1.out _).mono ?_
  rintro e w0 ⟨rfl, rfl⟩
  go_wp2_with fail
  refine (h2.out _).mono ?_
  rintro e w1 ⟨rfl, rfl⟩
  go_wp2_with fail
  refine (h3.out _).mono ?_
  rintro e w2 ⟨rfl, rfl⟩
  go_wp2_with fail
  refine (h4.out _ hL.out).mono ?_
  rintro e w3 ⟨rfl, hb3⟩
  have hb3 := Lib.hid hb3
  go_wp2_with fail
  refine (h5.out _ (hL.out.on hb3.out)).mono ?_
  rintro e w4 ⟨rfl, hb4⟩
  have hb4 := Lib.hid (hb3.out.trans (hb4.mono hb3.out.size))
  go_wp2_with fail
  refine (h6.out _).mono ?_
  rintro e w5 ⟨rfl, rfl⟩
  go_wp2_with fail
  refine (h7.out _).mono ?_
  rintro e w6 ⟨rfl, hb6⟩
  have hb6 := Lib.hid (hb4.out.trans (hb6.mono hb4.out.size))
  go_wp2_with fail
  refine (h8.out _ (hL.out.on hb6.out)).mono ?_
  rintro e w7 ⟨rfl, hb7⟩
  have hb7 := Lib.hid (hb6.out.trans (hb7.mono hb6.out.size))
  go_wp2_with fail
  refine (h9.out _).mono ?_
  rintro e w8 ⟨rfl, rfl⟩
  go_wp2
  go_ret
  exact ⟨rfl, hb7.out⟩

end Go.Proofs.YtebjldgaibagpaaDoor
