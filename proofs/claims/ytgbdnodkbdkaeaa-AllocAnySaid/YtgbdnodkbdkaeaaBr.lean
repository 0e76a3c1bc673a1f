/- Alloc: the document's rows, where they lie. -/
import Derived.Test.YtgbdnodkbdkaeaaBp
namespace Go.Proofs.Ytgbdnodkbdkaeaa
open Go Go.RowKit

theorem cf26 : ∀ vals w, (callFunc 26 vals).run Try.prog w = .ok (.enter 26 vals) w := fun vals w => run_cf Try.func26 (by kernel_rfl) rfl vals w
theorem rowsR_succ (ls : List Lg) (ts : List Tp) (gs : List Tb) (n : Nat) : rowsR ls ts gs (n + 1) = rowsR ls ts gs n ++ [rowR (lgAt ls n).sgn (tpAt ts n) (tbAt gs n)] := by
  unfold rowsR; rw [List.range_succ, List.map_append, List.map_singleton]
theorem rowsR_length (ls : List Lg) (ts : List Tp) (gs : List Tb) (n : Nat) : (rowsR ls ts gs n).length = n := by simp [rowsR]
theorem moved_len (s : Int) (t : Tp) (xs : Tb) : ∀ (n : Nat) (p : Int), (movedF s t xs n p).length ≤ n
  | 0, _ => by simp [movedF]
  | n + 1, p => by
    unfold movedF
    by_cases hi : insideB t p = true
    · rw [if_pos hi]
      cases nextP s xs p with
      | none => simp
      | some q => have := moved_len s t xs n q; simp; exact this
    · rw [if_neg hi]; simp
theorem rowR_len (s : Int) (t : Tp) (xs : Tb) : (rowR s t xs).length ≤ 13 := by
  unfold rowR
  split
  · exact moved_len s t xs 13 _
  · simp
/-- The row as the document makes it: none kept where its first price is off the grid. -/
theorem rowR_cases (s : Int) (t : Tp) (xs : Tb) : (movedP s t xs = [] ∧ rowR s t xs = []) ∨ ∃ l, movedP s t xs = startP s t :: l ∧ rowR s t xs = if onT xs (startP s t) = true then startP s t :: l else [] := by
  unfold rowR movedP
  by_cases hi : insideB t (startP s t) = true
  · refine .inr ⟨(movedF s t xs 13 (startP s t)).tail, ?_, ?_⟩
    · unfold movedF; rw [if_pos hi]; rfl
    · by_cases ho : onT xs (startP s t) = true
      · rw [if_pos ho, if_pos ho]; unfold movedF; rw [if_pos hi]; rfl
      · rw [if_neg ho, if_neg ho]
  · have e : movedF s t xs 13 (startP s t) = [] := by unfold movedF; rw [if_neg hi]
    rw [e]
    exact .inl ⟨rfl, by split <;> rfl⟩
/-- The document's rows so far. -/
structure RrS (W : World) (rows : List (List Int)) (op : Option Addr) (oc : Nat) (A : Nat → Option Addr) (C : Nat → Nat) (w : World) : Prop where
  fr : Fr 30 1 (rowsV A C rows) W op rows.length oc w
  row : ∀ k, k < rows.length → SlAt w 2 1 (A k) (rowAt rows k).length (C k) ((rowAt rows k).map intC)
theorem RrS.nil (W : World) : RrS W [] none 0 (fun _ => none) (fun _ => 0) W := ⟨Fr.nil _ _ _, fun k hk => by simp at hk⟩
theorem RrS.mono {W w w' : World} {rows : List (List Int)} {op : Option Addr} {oc : Nat} {A : Nat → Option Addr} {C : Nat → Nat} (h : RrS W rows op oc A C w) (k : Kept (fun _ => False) w w') : RrS W rows op oc A C w' :=
  ⟨h.fr.mono k, fun j hj => (h.row j hj).kept fun t ht => k.block _ ((h.row j hj).lt t ht) (fun h => h)⟩
theorem RrS.app {W w wa w6 : World} {rows : List (List Int)} {L : List Int} {oc c6 cap : Nat} {op p p6 : Option Addr} {A : Nat → Option Addr} {C : Nat → Nat} (h : RrS W rows op oc A C w) (ka : Kept (fun _ => False) w wa) (hp : SlAt wa 2 1 p L.length cap (L.map intC))
    (hsl6 : SlAt w6 30 1 p6 (rows.length + 1) c6 (rowsV A C rows ++ [.slice p L.length cap])) (hg6 : wa.grownBy w6 (op.map (·.block))) (hb6 : ∀ t, p6 = some t → op.map (·.block) = some t.block ∨ wa.heap.size ≤ t.block) :
    RrS W (rows ++ [L]) p6 c6 (upd A rows.length p) (upd C rows.length cap) w6 := by
  have hkeep : ∀ (a : Option Addr) (m c : Nat) (vs : List Value), SlAt wa 2 1 a m c vs → SlAt w6 2 1 a m c vs := fun a m c vs ha => by
    refine ha.kept fun t ht => hg6.block t.block (ha.lt t ht) fun e => ?_
    cases hop : op with
    | none => rw [hop] at e; cases e
    | some u =>
      rw [hop] at e
      obtain ⟨arr2, hu⟩ := h.fr.sl.blk hop
      have hu2 := (ka.block _ (lt_of_block hu) (fun h => h)).trans hu
      have h3 : t.block = u.block := by simpa using e
      obtain ⟨arr, h4⟩ := ha.blk ht
      rw [← h3, h4] at hu2
      cases hu2
  refine ⟨by rw [rowsV_app, List.length_append]; exact (h.fr.mono ka).app hsl6 hg6 hb6, fun k hk => ?_⟩
  rw [List.length_append, List.length_singleton] at hk
  by_cases e : k = rows.length
  · subst e; rw [upd_same, upd_same, rowAt_new]; exact hkeep _ _ _ _ hp
  · rw [upd_other _ _ e, upd_other _ _ e, rowAt_app (by omega)]
    have h1 := h.row k (by omega)
    exact hkeep _ _ _ _ (h1.kept fun t ht => ka.block _ (h1.lt t ht) (fun h => h))
theorem RrS.rows {W w : World} {rows : List (List Int)} {op : Option Addr} {oc : Nat} {A : Nat → Option Addr} {C : Nat → Nat} (h : RrS W rows op oc A C w) (hn : 1 ≤ rows.length) : ∃ rb ro, op = some ⟨rb, ro, none⟩ ∧ RwA A C w rb ro rows := by
  rcases h.fr.sl.2.2 with ⟨_, h2⟩ | ⟨t, o, arr, h1, _⟩
  · have := h.fr.sl.2.1; omega
  · subst h1
    refine ⟨t, o, rfl, fun j hj => ?_⟩
    have hr := h.row j hj
    refine ⟨hr.2.1, ?_, hr.ps⟩
    rw [h.fr.sl.cell (j := j) (by omega)]
    simp [rowsV, hj]
end Go.Proofs.Ytgbdnodkbdkaeaa
