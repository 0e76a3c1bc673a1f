/- Numbers: a number in words; the known cases. -/
import Derived.Test.YtjapcnahfbipeaaDoorPc
namespace Go.Proofs.YtjapcnahfbipeaaDoor
open Go Go.RowKit Go.Sort

theorem var_on {P : Program} {w w' : World} {n : String} {cs : Array Value} (h : w.var? P n = some cs) (hb : Below w.heap.size w w') : w'.var? P n = some cs := by
  unfold World.var? at h ⊢
  cases hg : P.globalNamed n with
  | none => simp [hg] at h
  | some g =>
    simp only [hg, Option.bind_some] at h ⊢
    by_cases hk : g < w.heap.size
    · rw [hb.block g hk]; exact h
    · rw [Array.getElem?_eq_none (by omega)] at h; cases h

/-- What the laid variables give the walks. -/
structure Laid (w : World) : Prop where
  sents : Sents w
  tab : Lib.TabIs Tryd.prog w "internal/strconv.uint64pow10" .u64 Lib.pow10Tab

theorem Laid.on {w w' : World} (h : Laid w) (hb : Below w.heap.size w w') : Laid w' :=
  ⟨sents_on h.sents fun _ _ hv => var_on hv hb, var_on h.tab hb⟩

theorem below_grow (w : World) (k : Nat) (os : Array Obj) : Below w.heap.size w (grow (w.drewN k) os) := by
  refine ⟨rfl, rfl, rfl, ?_, fun j hj => ?_⟩
  · show w.heap.size ≤ (w.heap ++ os).size; simp
  · show (w.heap ++ os)[j]? = w.heap[j]?
    rw [Array.getElem?_append_left hj]

theorem text_num (n : Int) (hn : I64 n) (w : World) (hL : Laid w) :
    Calls Tryd.prog 25 #[.int .i64 n] w fun e w' => e = .returned (.string ⟨(Lib.itoa n).toArray⟩) ∧ Below w.heap.size w w' := by
  have hf := Tryd.strconv_FormatInt_10 n hn.1 hn.2 w hL.tab
  clear hL hn
  generalize (Lib.itoa n).toArray = t at hf
  go_enter Tryd.func25, Tryd.ntmps25
  go_wp2_with fail
  refine hf.mono ?_
  rintro e w1 ⟨rfl, k, os, rfl⟩
  have hb := Lib.hid (below_grow w k os)
  generalize grow (w.drewN k) os = w2 at hb
  go_wp2
  go_ret
  exact ⟨rfl, hb.out⟩

end Go.Proofs.YtjapcnahfbipeaaDoor
