/- The walks of the switch: a maker, its time, its count. -/
import Derived.Test.YtpcacnlkhicekaaKa
namespace Go.Proofs.Ytpcacnlkhicekaa
open Go.RowKit

theorem at_any (w : World) (m : Nat) (any : Bool) (last now : Int)
    (h1 : w.cell? ⟨m, 1, none⟩ = some (.int .i64 last)) (h2 : w.cell? ⟨m, 2, none⟩ = some (.bool any)) :
    Calls Try.prog 13 #[.pointer (some ⟨m, 0, none⟩), .int .i64 now] w fun e w' => w = w' ∧ e = .returned (.int .i64 (if any = true ∧ now < last then last else now)) := by
  go_enter Try.func13, Try.ntmps13
  go_wp2
  all_goals go_ret
  all_goals exact ⟨rfl, by simp_all⟩

theorem of_some {w : World} {k mb : Nat} {s : KS} {O : Nat → Option (Option Int)} {B : Int → Option Nat} (h : SwAt w k mb s O B) {n : Int} {b : Nat} (hb : B n = some b) :
    Calls Try.prog 12 #[.pointer (some ⟨k, 0, none⟩), .int .i64 n] w fun e w' => w = w' ∧ e = .returned (.pointer (some ⟨b, 0, none⟩)) := by
  obtain ⟨es, clock, hm, hf⟩ := h.mp
  have hrun := run_look hm (hb ▸ hf n)
  have c2 := cell_of_block h.sw 2
  simp at c2
  clear hm hf hb
  go_enter Try.func12, Try.ntmps12
  go_wp2
  go_ret
  exact ⟨rfl, rfl⟩

def zeroMk : Obj := .cells #[.bool false, .int .i64 0, .bool false, .slice none 0 0] 41

theorem of_none_walk {w : World} {k mb clock : Nat} {es : Array MapEntry} {n : Int} (c2 : w.cell? ⟨k, 2, none⟩ = some (.map (some mb))) (hk : k < w.heap.size) (hm : w.heap[mb]? = some (.map es clock)) (hf : Finds es n none) :
    Calls Try.prog 12 #[.pointer (some ⟨k, 0, none⟩), .int .i64 n] w fun e w' => e = .returned (.pointer (some ⟨w.heap.size, 0, none⟩)) ∧
      w' = setB (w.alloc zeroMk) mb (.map (es.push { key := .int .i64 n, val := .pointer (some ⟨w.heap.size, 0, none⟩), born := clock }) (clock + 1)) := by
  have hrun := run_look hm hf
  have hput := run_put (v := .pointer (some ⟨w.heap.size, 0, none⟩)) (block_alloc hm (o' := zeroMk)) hf
  unfold zeroMk at hput ⊢
  clear hm hf
  go_enter Try.func12, Try.ntmps12
  go_wp2
  go_ret
  exact ⟨rfl, rfl⟩

def upd {α β : Type} [DecidableEq α] (f : α → β) (a : α) (b : β) : α → β := fun x => if x = a then b else f x
theorem upd_same {α β : Type} [DecidableEq α] (f : α → β) (a : α) (b : β) : upd f a b a = b := by simp [upd]
theorem upd_other {α β : Type} [DecidableEq α] (f : α → β) {a x : α} (b : β) (h : x ≠ a) : upd f a b x = f x := by simp [upd, h]

def KS.set (s : KS) (n : Int) (x : Mk) : KS := { s with m := upd s.m n x }
theorem set_self (s : KS) (n : Int) : s.set n (s.m n) = s := by
  cases s with | mk f wd m => simp only [KS.set, KS.mk.injEq, true_and]; funext i; unfold upd; split <;> simp_all
theorem set_set (s : KS) (n : Int) (x y : Mk) : (s.set n x).set n y = s.set n y := by
  cases s with | mk f wd m => simp only [KS.set, KS.mk.injEq, true_and]; funext i; unfold upd; split <;> rfl
theorem set_at (s : KS) (n : Int) (x : Mk) : (s.set n x).m n = x := upd_same _ _ _
/-- A row, a maker in another world where its blocks are as they were. -/
theorem MkAt.kept {w w' : World} {b : Nat} {a : Option Addr} {cap : Nat} {x : Mk} (h : MkAt w b a cap x) (hb : w'.heap[b]? = w.heap[b]?) (hw : ∀ t, a = some t → w'.heap[t.block]? = w.heap[t.block]?) : MkAt w' b a cap x :=
  ⟨hb.trans h.1, h.2.kept hw⟩
theorem zero_mkAt {w : World} {b : Nat} (h : w.heap[b]? = some zeroMk) : MkAt w b none 0 Mk.zero := ⟨h, SlAt.nil _ _ _⟩

theorem of_any {w : World} {k mb : Nat} {s : KS} {O : Nat → Option (Option Int)} {B : Int → Option Nat} (h : SwAt w k mb s O B) (n : Int) :
    Calls Try.prog 12 #[.pointer (some ⟨k, 0, none⟩), .int .i64 n] w fun e w' => ∃ b O' B', e = .returned (.pointer (some ⟨b, 0, none⟩)) ∧ B' n = some b ∧ SwAt w' k mb s O' B' ∧ Grow O O' w w' := by
  cases hb : B n with
  | some b =>
    refine (of_some h hb).mono ?_
    rintro e w' ⟨rfl, rfl⟩
    exact ⟨b, O, B, rfl, hb, h, Grow.refl _ _⟩
  | none =>
    obtain ⟨es, clock, hm, hf⟩ := h.mp
    have c2 := cell_of_block h.sw 2
    have hk := lt_of_block h.sw
    have hmb := lt_of_block hm
    refine (of_none_walk (by simpa using c2) hk hm (hb ▸ hf n)).mono ?_
    rintro e w' ⟨rfl, rfl⟩
    -- the blocks of the new world
    have hsize : (w.alloc zeroMk).heap.size = w.heap.size + 1 := by simp
    have hne := fun i (hi : i ≠ mb) => setB_ne (w.alloc zeroMk) (.map (es.push { key := .int .i64 n, val := .pointer (some ⟨w.heap.size, 0, none⟩), born := clock }) (clock + 1)) hi
    have hat := setB_same (w := w.alloc zeroMk) (r := mb) (.map (es.push { key := .int .i64 n, val := .pointer (some ⟨w.heap.size, 0, none⟩), born := clock }) (clock + 1)) (by omega)
    have hkept : Kept (fun b => O b ≠ none) w (setB (w.alloc zeroMk) mb (.map (es.push { key := .int .i64 n, val := .pointer (some ⟨w.heap.size, 0, none⟩), born := clock }) (clock + 1))) :=
      ((Kept.refl _ w).alloc _).setB (fun _ => by rw [h.om]; simp) _
    generalize setB (w.alloc zeroMk) mb (.map (es.push { key := .int .i64 n, val := .pointer (some ⟨w.heap.size, 0, none⟩), born := clock }) (clock + 1)) = w' at hne hat hkept ⊢
    have hkm : k ≠ mb := by intro e; have h1 := h.sw; rw [e, hm] at h1; cases h1
    have hold : ∀ i, i ≠ mb → i < w.heap.size → w'.heap[i]? = w.heap[i]? := fun i hi hl => (hne i hi).trans (Below.heap_alloc _ _ _ hl)
    have hnew : w'.heap[w.heap.size]? = some zeroMk := (hne _ (by omega)).trans (block_alloc_new _ _)
    have hO : ∀ i, i < w.heap.size → upd O w.heap.size (some (some n)) i = O i := fun i hi => upd_other _ _ (by omega)
    have hmnz := h.no n hb
    refine ⟨_, upd O w.heap.size (some (some n)), upd B n (some w.heap.size), rfl, upd_same _ _ _, ⟨(hold k hkm hk).trans h.sw, ⟨_, _, hat, fun n' => ?_⟩, (hO k hk).trans h.ok, (hO mb hmb).trans h.om, ?_, ?_⟩, hkept, hO⟩
    · have := (hf n').push (b := w.heap.size) (c := clock) (hb ▸ hf n)
      by_cases e : n' = n
      · simpa [upd, e] using this
      · simpa [upd, e] using this
    · intro n' hn'
      by_cases e : n' = n
      · subst e; exact hmnz
      · rw [upd_other _ _ e] at hn'; exact h.no n' hn'
    · intro n' b' hn'
      by_cases e : n' = n
      · subst e
        rw [upd_same] at hn'; cases hn'
        rw [hmnz]
        exact ⟨upd_same _ _ _, none, 0, zero_mkAt hnew, fun t ht => by cases ht⟩
      · rw [upd_other _ _ e] at hn'
        obtain ⟨ho, a, cap, hmk, ht⟩ := h.at_ n' b' hn'
        have hbl := lt_of_block hmk.1
        have hbm : b' ≠ mb := by intro e; have h1 := hmk.1; rw [e, hm] at h1; cases h1
        refine ⟨(hO _ hbl).trans ho, a, cap, hmk.kept (hold _ hbm hbl) fun t hta => ?_, fun t hta => (hO _ (hmk.2.lt t hta)).trans (ht t hta)⟩
        refine hold _ ?_ (hmk.2.lt t hta)
        intro e; have h1 := ht t hta; rw [e, h.om] at h1; cases h1

/-- One maker turned: its own blocks are written, others' are not. -/
theorem SwAt.put {w w' : World} {k mb : Nat} {s : KS} {O O' : Nat → Option (Option Int)} {B : Int → Option Nat} (h : SwAt w k mb s O B) {n : Int} {b : Nat} (hb : B n = some b) {x : Mk} {a : Option Addr} {cap : Nat}
    (hk : ∀ i, i < w.heap.size → O i ≠ some (some n) → w'.heap[i]? = w.heap[i]?) (hO : ∀ i, i < w.heap.size → O' i = O i) (hm : MkAt w' b a cap x) (ha : ∀ t, a = some t → O' t.block = some (some n)) :
    SwAt w' k mb (s.set n x) O' B := by
  obtain ⟨es, clock, hmp, hf⟩ := h.mp
  have lk := lt_of_block h.sw
  have lm := lt_of_block hmp
  refine ⟨(hk k lk (by rw [h.ok]; simp)).trans h.sw, ⟨es, clock, (hk mb lm (by rw [h.om]; simp)).trans hmp, hf⟩, (hO k lk).trans h.ok, (hO mb lm).trans h.om, ?_, ?_⟩
  · intro n' hn'
    by_cases e : n' = n
    · subst e; rw [hb] at hn'; cases hn'
    · show upd s.m n x n' = _
      rw [upd_other _ _ e]; exact h.no n' hn'
  · intro n' b' hn'
    by_cases e : n' = n
    · subst e; rw [hb] at hn'; cases hn'
      show _ ∧ ∃ a cap, MkAt w' b a cap (upd s.m n' x n') ∧ _
      rw [upd_same]
      obtain ⟨ho, _, _, hmk, _⟩ := h.at_ n' b hb
      exact ⟨(hO b (lt_of_block hmk.1)).trans ho, a, cap, hm, ha⟩
    · obtain ⟨ho, a', cap', hmk, ht⟩ := h.at_ n' b' hn'
      have lb := lt_of_block hmk.1
      show _ ∧ ∃ a cap, MkAt w' b' a cap (upd s.m n x n') ∧ _
      rw [upd_other _ _ e]
      have hne : (some (some n') : Option (Option Int)) ≠ some (some n) := by simpa using e
      exact ⟨(hO b' lb).trans ho, a', cap', hmk.kept (hk b' lb (by rw [ho]; exact hne)) fun t hta => hk _ (hmk.2.lt t hta) (by rw [ht t hta]; exact hne), fun t hta => (hO _ (hmk.2.lt t hta)).trans (ht t hta)⟩

end Go.Proofs.Ytpcacnlkhicekaa
