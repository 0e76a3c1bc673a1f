/- The walks of the arena: a new one; a row's values. -/
import Derived.Test.YtpcoffpdkfbhdaaFf
namespace Go.Proofs.Ytpcoffpdkfbhdaa
open Go.RowKit

def Ar.new (R N : Nat) : Ar := ⟨N, R, fun _ => ⟨0, -1, -1, -1⟩, fun _ => ⟨-1, -1, 0⟩, [], 0⟩
def NewPost (R N : Nat) (w : World) (e : Ending) (w' : World) : Prop :=
  ∃ a bc br fa fc O, e = .returned (.tuple #[.pointer (some ⟨a, 0, none⟩), .int .i64 0]) ∧ ArAt w' a bc br fa fc (Ar.new R N) O ∧ Kept (fun _ => False) w w' ∧ ∀ i, i < w.heap.size → O i = false

theorem new_bad {w : World} {r c : Int} (h : ¬ (1 ≤ r ∧ r ≤ 1024 ∧ 1 ≤ c ∧ c ≤ 4096)) :
    Calls Try.prog 7 #[.int .i64 r, .int .i64 c] w fun e w' => w = w' ∧ e = .returned (.tuple #[.pointer none, .int .i64 1]) := by
  go_enter Try.func7, Try.ntmps7
  go_wp2_with fail
  all_goals first
    | (go_ret2; exact ⟨rfl, rfl⟩)
    | (exfalso; omega)

theorem flat_lit4 {w : World} {b : Nat} {E : TypeId} {v0 v1 v2 v3 : Value} (h : w.heap[b]? = some (.cells #[v0, v1, v2, v3] E (0, 0))) (x : Nat → Value) (hx : x 0 = v0 ∧ x 1 = v1 ∧ x 2 = v2 ∧ x 3 = v3) : FlatAt w b E 4 x :=
  ⟨_, h, rfl, fun j hj => by match j, hj with | 0, _ => exact congrArg some hx.1.symm | 1, _ => exact congrArg some hx.2.1.symm | 2, _ => exact congrArg some hx.2.2.1.symm | 3, _ => exact congrArg some hx.2.2.2.symm⟩
theorem flat_lit3 {w : World} {b : Nat} {E : TypeId} {v0 v1 v2 : Value} (h : w.heap[b]? = some (.cells #[v0, v1, v2] E (0, 0))) (x : Nat → Value) (hx : x 0 = v0 ∧ x 1 = v1 ∧ x 2 = v2) : FlatAt w b E 3 x :=
  ⟨_, h, rfl, fun j hj => by match j, hj with | 0, _ => exact congrArg some hx.1.symm | 1, _ => exact congrArg some hx.2.1.symm | 2, _ => exact congrArg some hx.2.2.symm⟩

set_option maxHeartbeats 1000000 in
set_option maxRecDepth 100000 in
theorem new_good {w : World} {R N : Nat} (hR : 1 ≤ R ∧ R ≤ 1024) (hN : 1 ≤ N ∧ N ≤ 4096) :
    Calls Try.prog 7 #[.int .i64 R, .int .i64 N] w (NewPost R N w) := by
  obtain ⟨r1, r2⟩ := hR
  obtain ⟨n1, n2⟩ := hN
  go_enter Try.func7, Try.ntmps7
  go_wp2_with fail
  refine (repC_any w.heap.size N (fun k => .int .i64 (fldC ⟨0, -1, -1, -1⟩ k)) (fun _ => rfl) _ n1 n2 (by simp) (flat_lit4 (block_alloc_new _ _) _ ⟨rfl, rfl, rfl, rfl⟩)).mono ?_
  rintro e w1 ⟨g, rfl, hf, hg, hb⟩
  have hb1 := hb.size
  have HB := Lib.hid hb
  clear hb
  go_wp2_with fail
  refine (repE_any w1.heap.size R (fun k => .int .i64 (fldE ⟨-1, -1, 0⟩ k)) (fun _ => rfl) _ r1 (by omega) (by simp) (flat_lit3 (block_alloc_new _ _) _ ⟨rfl, rfl, rfl⟩)).mono ?_
  rintro e w2 ⟨g2, rfl, hf2, hg2, hb2⟩
  have HB2 := Lib.hid hb2
  have hb3 := hb2.size
  clear hb2
  simp only [World.size_alloc] at hg hb1 hg2 hb3
  have hfl := hf.lt
  have hf2l := hf2.lt
  have hcs : FlatAt w2 g 52 (N * 4) (flatC fun _ => ⟨0, -1, -1, -1⟩) := (hf.kept (Below.heap_alloc _ _ _ hfl)).kept (HB2.out.block g (by rw [World.size_alloc]; omega))
  have hrs : FlatAt w2 g2 56 (R * 3) (flatE fun _ => ⟨-1, -1, 0⟩) := hf2
  have hgg : g ≠ g2 := hcs.ne hrs (by decide)
  clear hf hf2
  go_wp2_with fail
  go_ret2
  refine ⟨w2.heap.size, g, g2, none, 0, fun i => decide (i = w2.heap.size) || decide (i = g) || decide (i = g2), rfl, ⟨block_alloc_new _ _, ?_, ?_, SlAt.nil _ _ _, ?_, ?_, ?_, fun t ht => by (cases ht), fun i hi => ?_, n2, r2, ⟨Int.le_refl _, by show (0 : Int) ≤ N; omega⟩, Nat.zero_le _⟩, ?_, fun i hi => ?_⟩
  · exact hcs.kept (Below.heap_alloc _ _ _ hcs.lt)
  · exact hrs.kept (Below.heap_alloc _ _ _ hrs.lt)
  · simp
  · simp
  · simp
  · simp at hi ⊢; omega
  · have k1 : Kept (fun _ => False) w w1 := (Kept.refl _ w).alloc (.cells #[.int .i64 0, .int .i64 (-1), .int .i64 (-1), .int .i64 (-1)] 52) |>.trans (Kept.of_below HB.out)
    have k2 : Kept (fun _ => False) w1 w2 := (Kept.refl _ w1).alloc (.cells #[.int .i64 (-1), .int .i64 (-1), .int .i64 0] 56) |>.trans (Kept.of_below HB2.out)
    exact (k1.trans k2).alloc _
  · simp; omega

theorem clip_any (a : Option Addr) (len cap : Nat) (hlc : len ≤ cap) (w : World) :
    Calls Try.prog 21 #[.slice a len cap] w fun e w' => w = w' ∧ e = .returned (.slice a len len) := by
  go_enter Try.func21, Try.ntmps21
  go_wp2
  go_ret
  exact ⟨rfl, rfl⟩
end Go.Proofs.Ytpcoffpdkfbhdaa
