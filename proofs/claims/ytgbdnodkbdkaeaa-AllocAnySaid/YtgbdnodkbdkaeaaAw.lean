/- Alloc: the first prices that a strategy may be had at: slices.Clip 24, the rows of Prices 11. -/
import Derived.Test.YtgbdnodkbdkaeaaAv
namespace Go.Proofs.Ytgbdnodkbdkaeaa
open Go Go.RowKit

theorem run_cf {P : Program} {f : FuncId} {fn : Func} {c : Code} (hf : P.funcs[f]? = some fn) (hname : (fn.name == "runtime.NumGoroutine") = false) (hb : fn.body = some c) (args : Array Value) (w : World) :
    (callFunc f args).run P w = .ok (.enter f args) w := by
  have h2 : ¬ fn.name = "runtime.NumGoroutine" := by simpa using hname
  simp [callFunc, go_sem, hf, hb]
  exact h2
/-- A call of a Go function, by its contract, as a step of a region that draws. -/
theorem step_call {P : Program} {w : World} {ops : Array Oper} {o : Oper} {a : Act} {K : Act → World → Prop} {Q : Exit → Act → World → Prop} {E : Prop} (hgd : o.guard = none) (f : FuncId) (xs : Array Operand) (ts : Array TypeId)
    (ho : o.op = .call { callee := .value (.func f), args := xs, argTypes := ts }) (hcf : ∀ vals w, (callFunc f vals).run P w = .ok (.enter f vals) w) (vals : Array Value) (hv : xs.map a.eval = vals) {R : Ending → World → Prop} (h : Calls P f vals w R)
    (hR : ∀ e w', R e w' → ∃ v, e = .returned v) (hK : ∀ v w', R (.returned v) w' → K (a.put o.dst v) w') :
    if Region.wanted o (yielded ops a.tmps) = true then Oper.wp P o a w K Q else E := by
  have hw : Region.wanted o (yielded ops a.tmps) = true := by simp [Region.wanted, hgd]
  rw [if_pos hw]
  unfold Oper.wp
  have he : (execOp a.eval o).run P w = .ok (.enter f vals) w := by
    simp [execOp, ho, resolve, invoke, Act.eval, hv, Deferred.ofValue, go_sem]
    exact hcf vals w
  rw [he, Oper.upon_enter]
  refine h.mono fun e w' hr => ?_
  obtain ⟨v, rfl⟩ := hR e w' hr
  exact hK v w' hr
theorem cf22 : ∀ vals w, (callFunc 22 vals).run Try.prog w = .ok (.enter 22 vals) w := fun vals w => run_cf Try.func22 (by kernel_rfl) rfl vals w

set_option maxHeartbeats 1000000 in
theorem clip_any {a : Option Addr} {len cap : Nat} (w : World) (hc : len ≤ cap) (ha : a = none ∨ ∃ t o, a = some ⟨t, o, none⟩) : Calls Try.prog 24 #[.slice a len cap] w fun e w' => e = .returned (.slice a len len) ∧ w' = w := by
  have hmap0 : Option.map (fun x => x.add 0) a = a := by
    rcases ha with h | ⟨t, o, h⟩
    · rw [h]; rfl
    · rw [h]; simp [addr_add]
  clear ha
  go_enter Try.func24, Try.ntmps24
  go_wp2
  go_ret
  exact ⟨rfl, rfl⟩
theorem SlAt.blk {w : World} {E size : Nat} {a : Option Addr} {len cap : Nat} {xs : List Value} (h : SlAt w E size a len cap xs) {t : Addr} (ht : a = some t) : ∃ arr, w.heap[t.block]? = some (.cells arr E (0, 0)) := by
  rcases h.2.2 with ⟨h2, _⟩ | ⟨t', o, arr, ha, hb, r⟩
  · rw [h2] at ht; cases ht
  · rw [ha] at ht; cases ht; exact ⟨arr, hb⟩
theorem SlAt.plain {w : World} {E size : Nat} {a : Option Addr} {len cap : Nat} {xs : List Value} (h : SlAt w E size a len cap xs) : a = none ∨ ∃ t o, a = some ⟨t, o, none⟩ := by
  rcases h.2.2 with ⟨h2, _⟩ | ⟨t', o, arr, ha, hb, r⟩
  · exact .inl h2
  · exact .inr ⟨t', o, ha⟩
def rowsV (A : Nat → Option Addr) (C : Nat → Nat) (rows : List (List Int)) : List Value := (List.range rows.length).map fun k => .slice (A k) (rowAt rows k).length (C k)
/-- The search's world while its rows are made. -/
structure PrS (W1 : World) (sb lb lo lc n : Nat) (rows : List (List Int)) (A : Nat → Option Addr) (C : Nat → Nat) (rp : Option Addr) (rc : Nat) (w : World) : Prop where
  blk : w.heap[sb]? = some (.cells #[.slice (some ⟨lb, lo, none⟩) n lc, .slice rp rows.length rc, .slice none 0 0] 69 (0, 0))
  sl : SlAt w 30 1 rp rows.length rc (rowsV A C rows)
  row : ∀ k, k < rows.length → SlAt w 2 1 (A k) (rowAt rows k).length (C k) ((rowAt rows k).map intC) ∧ ∀ t, A k = some t → W1.heap.size ≤ t.block
  newr : ∀ t, rp = some t → W1.heap.size ≤ t.block
  kept : Kept (fun b => b = sb) W1 w
  old : sb < W1.heap.size
theorem rowAt_app {rows : List (List Int)} {L : List Int} {k : Nat} (h : k < rows.length) : rowAt (rows ++ [L]) k = rowAt rows k := by
  simp [rowAt, List.getD_eq_getElem?_getD, List.getElem?_append_left h]
theorem rowAt_new {rows : List (List Int)} {L : List Int} : rowAt (rows ++ [L]) rows.length = L := by
  simp [rowAt, List.getD_eq_getElem?_getD]
theorem rowsV_app {A : Nat → Option Addr} {C : Nat → Nat} {rows : List (List Int)} {L : List Int} {p : Option Addr} {cap : Nat} : rowsV (upd A rows.length p) (upd C rows.length cap) (rows ++ [L]) = rowsV A C rows ++ [.slice p L.length cap] := by
  unfold rowsV
  rw [List.length_append, List.length_singleton, List.range_succ, List.map_append, List.map_singleton, rowAt_new, upd_same, upd_same]
  congr 1
  refine List.map_congr_left fun k hk => ?_
  have hk' : k < rows.length := List.mem_range.1 hk
  rw [upd_other _ _ (by omega), upd_other _ _ (by omega), rowAt_app hk']
theorem PrS.app {W1 wr w3 wa w6 : World} {sb lb lo lc n : Nat} {rows : List (List Int)} {A : Nat → Option Addr} {C : Nat → Nat} {rp : Option Addr} {rc : Nat} {L : List Int} {p p6 : Option Addr} {cap c6 : Nat}
    (h : PrS W1 sb lb lo lc n rows A C rp rc wr) (k3 : Kept (fun _ => False) wr w3) (hL : SlAt w3 2 1 p L.length cap (L.map intC)) (hp : ∀ t, p = some t → wr.heap.size ≤ t.block) (ka : Kept (fun _ => False) w3 wa)
    (hsl6 : SlAt w6 30 1 p6 (rows.length + 1) c6 (rowsV A C rows ++ [.slice p L.length cap])) (hg6 : wa.grownBy w6 (rp.map (·.block))) (hb6 : ∀ t, p6 = some t → rp.map (·.block) = some t.block ∨ wa.heap.size ≤ t.block) :
    PrS W1 sb lb lo lc n (rows ++ [L]) (upd A rows.length p) (upd C rows.length cap) p6 c6 (w6.setCell ⟨sb, 1, none⟩ (.slice p6 (rows.length + 1) c6)) := by
  have hka := k3.trans ka
  have hsz := h.kept.size
  have hold := h.old
  have hne : rp.map (·.block) ≠ some sb := by
    intro e
    cases hop : rp with
    | none => rw [hop] at e; cases e
    | some t => rw [hop] at e; have h2 := h.newr t hop; have h3 : t.block = sb := by simpa using e
                omega
  have hq6 := block_grown hg6 ((hka.block sb (lt_of_block h.blk) (fun h => h)).trans h.blk) hne
  have hnw : ∀ t, p6 = some t → W1.heap.size ≤ t.block := fun t ht => by
    rcases hb6 t ht with h1 | h1
    · cases hop : rp with
      | none => rw [hop] at h1; cases h1
      | some u => rw [hop] at h1; have h2 := h.newr u hop; have h3 : u.block = t.block := by simpa using h1
                  omega
    · have := hka.size; omega
  -- a block of numbers is kept
  have hkeep : ∀ (a : Addr) (arr : Array Value), wa.heap[a.block]? = some (.cells arr 2 (0, 0)) → W1.heap.size ≤ a.block → (w6.setCell ⟨sb, 1, none⟩ (.slice p6 (rows.length + 1) c6)).heap[a.block]? = wa.heap[a.block]? := fun a arr ha hge => by
    rw [block_setCell_ne rfl (by show a.block ≠ sb; omega)]
    refine hg6.block _ (lt_of_block ha) fun e => ?_
    cases hop : rp with
    | none => rw [hop] at e; cases e
    | some u =>
      rw [hop] at e
      obtain ⟨arr2, hu⟩ := h.sl.blk hop
      have hu2 := (hka.block _ (lt_of_block hu) (fun h => h)).trans hu
      have h3 : a.block = u.block := by simpa using e
      rw [← h3, ha] at hu2
      cases hu2
  refine ⟨?_, ?_, ?_, hnw, ?_, hold⟩
  · rw [block_setCell hq6, List.length_append]; rfl
  · rw [rowsV_app, List.length_append]
    exact hsl6.kept fun t ht => block_setCell_ne rfl (by have := hnw t ht; show t.block ≠ sb; omega) _
  · intro k hk
    rw [List.length_append, List.length_singleton] at hk
    by_cases e : k = rows.length
    · subst e
      rw [upd_same, upd_same, rowAt_new]
      refine ⟨?_, fun t ht => Nat.le_trans hsz (hp t ht)⟩
      have hLa := hL.kept (w' := wa) fun t ht => ka.block _ (hL.lt t ht) (fun h => h)
      refine hLa.kept fun t ht => ?_
      obtain ⟨arr, hu⟩ := hLa.blk ht
      exact hkeep t arr hu (Nat.le_trans hsz (hp t ht))
    · rw [upd_other _ _ e, upd_other _ _ e, rowAt_app (by omega)]
      obtain ⟨h1, h2⟩ := h.row k (by omega)
      refine ⟨?_, h2⟩
      have hLa := h1.kept (w' := wa) fun t ht => hka.block _ (h1.lt t ht) (fun h => h)
      refine hLa.kept fun t ht => ?_
      obtain ⟨arr, hu⟩ := hLa.blk ht
      exact hkeep t arr hu (h2 t ht)
  · refine Kept.setCell (h.kept.trans' (G := OnB rp) ?_ ?_) (p := ⟨sb, 1, none⟩) (fun _ => rfl) _
    · exact (hka.mono fun _ _ h => h.elim).trans (Kept.of_grownB hg6)
    · rintro i hi ⟨t, ht, rfl⟩
      have := h.newr t ht; omega
def rowsP (ls : List Lg) (ts : List Tp) (gs : List Tb) (n : Nat) : List (List Int) := (List.range n).map fun k => movesP (lgAt ls k).sgn (tpAt ts k) (tbAt gs k)
theorem rowsP_succ (ls : List Lg) (ts : List Tp) (gs : List Tb) (n : Nat) : rowsP ls ts gs (n + 1) = rowsP ls ts gs n ++ [movesP (lgAt ls n).sgn (tpAt ts n) (tbAt gs n)] := by
  unfold rowsP; rw [List.range_succ, List.map_append, List.map_singleton]
theorem rowsP_length (ls : List Lg) (ts : List Tp) (gs : List Tb) (n : Nat) : (rowsP ls ts gs n).length = n := by simp [rowsP]
theorem rowsP_at {ls : List Lg} {ts : List Tp} {gs : List Tb} {n k : Nat} (h : k < n) : rowAt (rowsP ls ts gs n) k = movesP (lgAt ls k).sgn (tpAt ts k) (tbAt gs k) := by
  simp [rowAt, rowsP, List.getD_eq_getElem?_getD, h]
theorem moves_len (s : Int) (t : Tp) (xs : List (Int × Int)) : ∀ (n : Nat) (p : Int), (movesF s t xs n p).length ≤ n
  | 0, _ => by simp [movesF]
  | n + 1, p => by
    unfold movesF
    rw [List.length_append]
    have h1 : (if mayB t xs p = true then [p] else []).length ≤ 1 := by split <;> simp
    refine Nat.le_trans (Nat.add_le_add h1 (d := n) ?_) (by omega)
    cases nextP s xs p with
    | none => simp
    | some q =>
      show (if insideB t q = true then movesF s t xs n q else []).length ≤ n
      split
      · exact moves_len s t xs n q
      · simp
theorem moves_good {s : Int} {t : Tp} {xs : List (Int × Int)} : ∀ (n : Nat) (p : Int), ∀ q ∈ movesF s t xs n p, mayB t xs q = true
  | 0, _, q, h => by simp [movesF] at h
  | n + 1, p, q, h => by
    unfold movesF at h
    rcases List.mem_append.1 h with h | h
    · by_cases hm : mayB t xs p = true
      · rw [if_pos hm] at h
        obtain rfl : q = p := by simpa using h
        exact hm
      · rw [if_neg hm] at h; cases h
    · cases hn : nextP s xs p with
      | none => rw [hn] at h; cases h
      | some r =>
        rw [hn] at h
        by_cases hi : insideB t r = true
        · replace h : q ∈ (if insideB t r = true then movesF s t xs n r else []) := h
          rw [if_pos hi] at h
          exact moves_good n r q h
        · replace h : q ∈ (if insideB t r = true then movesF s t xs n r else []) := h
          rw [if_neg hi] at h; cases h
theorem may_on {t : Tp} {xs : List (Int × Int)} {p : Int} (h : mayB t xs p = true) : onT xs p = true ∧ insideB t p = true := by
  unfold mayB at h
  simp only [Bool.and_eq_true] at h
  exact ⟨h.1.1.1, h.1.1.2⟩
theorem rowsP_goodP {ls : List Lg} {ts : List Tp} {gs : List Tb} {n k : Nat} (h : k < n) (hg : GoodT (tbAt gs k)) : GoodP (rowAt (rowsP ls ts gs n) k) := by
  intro j hj
  rw [rowsP_at h] at hj ⊢
  have hm : psAt (movesP (lgAt ls k).sgn (tpAt ts k) (tbAt gs k)) j ∈ movesP (lgAt ls k).sgn (tpAt ts k) (tbAt gs k) := by
    simp only [psAt, List.getD_eq_getElem?_getD, List.getElem?_eq_getElem hj, Option.getD_some]
    exact List.getElem_mem hj
  have := onT_range hg (may_on (moves_good _ _ _ hm)).1
  omega
end Go.Proofs.Ytgbdnodkbdkaeaa
