/- Slices that lie anywhere in a block: how they read, what append makes of them. -/
import Derived.Test.YtgbdnodkbdkaeaaBase
namespace Go.Proofs.Ytgbdnodkbdkaeaa
open Go.RowKit

/-- The slice (a, len, cap) of elements of type E (size cells each) holds the cells xs, in a block of its element type. -/
def SlAt (w : World) (E size : Nat) (a : Option Addr) (len cap : Nat) (xs : List Value) : Prop :=
  xs.length = len * size ∧ len ≤ cap ∧ ((a = none ∧ cap = 0) ∨
    ∃ t o arr, a = some ⟨t, o, none⟩ ∧ w.heap[t]? = some (.cells arr E (0, 0)) ∧ o + cap * size ≤ arr.size ∧ ∀ j, j < len * size → arr[o + j]? = xs[j]?)

theorem SlAt.nil (w : World) (E size : Nat) : SlAt w E size none 0 0 [] := ⟨by simp, Nat.le_refl _, .inl ⟨rfl, rfl⟩⟩
theorem SlAt.kept {w w' : World} {E size : Nat} {a : Option Addr} {len cap : Nat} {xs : List Value} (h : SlAt w E size a len cap xs) (hw : ∀ t, a = some t → w'.heap[t.block]? = w.heap[t.block]?) : SlAt w' E size a len cap xs := by
  refine ⟨h.1, h.2.1, ?_⟩
  rcases h.2.2 with h2 | ⟨t, o, arr, ha, hb, r⟩
  · exact .inl h2
  · exact .inr ⟨t, o, arr, ha, by rw [← hb]; exact hw _ ha, r⟩
theorem SlAt.lt {w : World} {E size : Nat} {a : Option Addr} {len cap : Nat} {xs : List Value} (h : SlAt w E size a len cap xs) : ∀ t, a = some t → t.block < w.heap.size := by
  intro t ht
  rcases h.2.2 with ⟨h2, _⟩ | ⟨t', o, arr, ha, hb, r⟩
  · rw [h2] at ht; cases ht
  · rw [ha] at ht; cases ht; exact lt_of_block hb
/-- What is read at the slice's address: a cell of it. -/
theorem SlAt.cell {w : World} {E size : Nat} {t o len cap : Nat} {xs : List Value} (h : SlAt w E size (some ⟨t, o, none⟩) len cap xs) {j : Nat} (hj : j < len * size) : w.cell? ⟨t, o + j, none⟩ = xs[j]? := by
  rcases h.2.2 with ⟨h2, _⟩ | ⟨t', o', arr, ha, hb, _, hx⟩
  · cases h2
  · cases ha; rw [cell_of_block hb]; exact hx j hj
theorem SlAt.free {w : World} {E size : Nat} {t o len cap : Nat} {xs : List Value} (h : SlAt w E size (some ⟨t, o, none⟩) len cap xs) (j : Nat) : w.frozen? ⟨t, j, none⟩ = false := by
  rcases h.2.2 with ⟨h2, _⟩ | ⟨t', o', arr, ha, hb, _, hx⟩
  · cases h2
  · cases ha; exact free_of_block hb j

theorem addr_add (t o j : Nat) : (⟨t, o, none⟩ : Addr).add j = ⟨t, o + j, none⟩ := by unfold Addr.add; split <;> simp_all

theorem setCells_block {t : Nat} {E : TypeId} {f : Nat × Nat} : ∀ (vs : List Value) (o : Nat) (w : World) (arr : Array Value), w.heap[t]? = some (.cells arr E f) → o + vs.length ≤ arr.size →
    ∃ arr', (w.setCells t o vs).heap[t]? = some (.cells arr' E f) ∧ arr'.size = arr.size ∧ (∀ i, i < o ∨ o + vs.length ≤ i → arr'[i]? = arr[i]?) ∧ (∀ j, j < vs.length → arr'[o + j]? = vs[j]?)
  | [], o, w, arr, h, _ => ⟨arr, h, rfl, fun _ _ => rfl, fun j hj => by simp at hj⟩
  | v :: vs, o, w, arr, h, hlen => by
    simp only [List.length_cons] at hlen
    obtain ⟨arr', h1, h2, h3, h4⟩ := setCells_block vs (o + 1) (w.setCell ⟨t, o, none⟩ v) _ (block_setCell h o v) (by simp; omega)
    refine ⟨arr', h1, by simpa using h2, fun i hi => ?_, fun j hj => ?_⟩
    · rw [h3 i (by simp only [List.length_cons] at hi; omega), Array.getElem?_setIfInBounds, if_neg (by simp only [List.length_cons] at hi; omega)]
    · cases j with
      | zero => rw [Nat.add_zero, h3 o (by omega), Array.getElem?_setIfInBounds, if_pos rfl, if_pos (by omega)]; rfl
      | succ j =>
        have := h4 j (by simp only [List.length_cons] at hj; omega)
        rw [show o + (j + 1) = o + 1 + j by omega, this]; rfl
theorem setCells_kept {t : Nat} : ∀ (vs : List Value) (o : Nat) (w : World) (row : Option Nat), row = some t → w.grownBy (w.setCells t o vs) row
  | [], _, w, _, _ => ⟨rfl, rfl, rfl, Nat.le_refl _, fun _ _ _ => rfl⟩
  | v :: vs, o, w, row, hr => by
    have h := setCells_kept vs (o + 1) (w.setCell ⟨t, o, none⟩ v) row hr
    refine ⟨h.os, h.tape, h.output, (by show w.heap.size ≤ ((w.setCell ⟨t, o, none⟩ v).setCells t (o + 1) vs).heap.size; have := h.size; simpa using this), fun k hk hne => ?_⟩
    show ((w.setCell ⟨t, o, none⟩ v).setCells t (o + 1) vs).heap[k]? = _
    rw [h.block k (by simpa using hk) hne]
    exact Below.heap_setCell _ _ _ _ (fun e => hne (by rw [hr, e]))

/-- append, onto whatever slice there is: in its place where there is room, else into a new block. -/
theorem run_append_sl {P : Program} (w : World) (t ty : TypeId) (e : TypeId) (i : TypeInfo) (z : Value) (size bytes : Nat) (ht : P.underlying t = some (.slice e)) (hi : P.info? e = some i) (hz : i.zero = some z)
    (hsize : i.size = size) (hby : i.bytes = bytes) (hzs : z.cells.size = size) (hsz : 0 < size)
    (a : Option Addr) (n cap : Nat) (xs : List Value) (hs : SlAt w e size a n cap xs)
    (ad : Addr) (m c : Nat) (news : List Value) (hl : news.length = m * size) (hnews : ∀ j u, news[j]? = some u → w.cell? (ad.add j) = some u) (h1 : ∀ u ∈ news, u.oneCell' = true)
    (h63 : n + m ≤ maxLen) (hbytes : (n + m) * bytes ≤ 140737488355328) (hm : 0 < m) :
    ∃ a' cap' w', (Builtin.append_ #[t, t] ty #[.slice a n cap, .slice (some ad) m c]).run P w = .ok (.slice a' (n + m) cap') w' ∧ SlAt w' e size a' (n + m) cap' (xs ++ news) ∧ w.grownBy w' (a.map (·.block)) ∧
      (∀ t, a' = some t → a.map (·.block) = some t.block ∨ w.heap.size ≤ t.block) := by
  obtain ⟨hlen, hnc, hs⟩ := hs
  have hlen' : (xs ++ news).length = (n + m) * size := by rw [List.length_append, hlen, hl, Nat.add_mul]
  have grown : ∀ v' w', w'.ownsRow w.heap.size e size v' (n + m) (xs ++ news) → ∃ g cap', v' = .slice (some ⟨g, 0, none⟩) (n + m) cap' ∧ w.heap.size ≤ g ∧ SlAt w' e size (some ⟨g, 0, none⟩) (n + m) cap' (xs ++ news) := by
    intro v' w' hown
    rcases hown.2 with ⟨_, h⟩ | ⟨g, cap', cur, hv, hg, hb, h2, h3, h4, h5⟩
    · omega
    · refine ⟨g, cap', hv, hg, hlen', h2, .inr ⟨g, 0, cur, rfl, hb, by omega, fun j hj => ?_⟩⟩
      rw [Nat.zero_add, ← h5, List.getElem?_take_of_lt hj, Array.getElem?_toList]
  rcases hs with ⟨rfl, rfl⟩ | ⟨t0, o, arr, rfl, hb, ho, hx⟩
  · obtain rfl : n = 0 := by omega
    obtain rfl : xs = [] := List.eq_nil_of_length_eq_zero (by simpa using hlen)
    obtain ⟨v', w', hrun, r1, r2, _⟩ := run_append_own (P := P) w w.heap.size t ty e i z size bytes ht hi hz hsize hby hzs hsz (.slice none 0 0) 0 [] (World.ownsRow_nil w _ e size) ad m c news hl hnews h1 h63 hbytes (Nat.le_refl _)
    obtain ⟨g, cap', rfl, hg, hsl⟩ := grown v' w' r1
    exact ⟨_, _, w', hrun, hsl, r2, fun t ht => .inr (by cases ht; exact hg)⟩
  · by_cases hroom : n + m ≤ cap
    · subst hsize
      have hnm : (n + m) * i.size ≤ cap * i.size := Nat.mul_le_mul_right _ hroom
      rw [Nat.add_mul] at hnm
      have hrun := run_append_room_cells (P := P) w t ty e i ht hi t0 o n cap ad m c news hl hnews h1 hroom
        (fun j hj => by rw [cell_of_block hb]; simp; omega) (fun j hj => free_of_block hb _)
      obtain ⟨arr', k1, k2, k3, k4⟩ := setCells_block news (o + n * i.size) w arr hb (by omega)
      refine ⟨_, _, _, hrun, ⟨hlen', hroom, .inr ⟨t0, o, arr', rfl, k1, by omega, fun j hj => ?_⟩⟩, setCells_kept _ _ _ _ rfl, fun t ht => .inl (by cases ht; rfl)⟩
      by_cases hjn : j < n * i.size
      · rw [k3 (o + j) (by omega), hx j hjn, List.getElem?_append_left (by omega)]
      · rw [List.getElem?_append_right (by omega), ← k4 (j - xs.length) (by rw [Nat.add_mul] at hj; omega)]
        congr 1; omega
    · obtain ⟨v', w', hrun, r1, r2⟩ := run_append_arg_grows (P := P) w t ty e i z size bytes ht hi hz hsize hby hzs hsz ⟨t0, o, none⟩ n cap xs hlen
        (fun j u hu => by
          have hj : j < n * size := by have := (List.getElem?_eq_some_iff.1 hu).1; omega
          rw [addr_add, cell_of_block hb, hx j hj]; exact hu) ad m c news hl hnews (by omega) h63 hbytes
      obtain ⟨g, cap', rfl, hg, hsl⟩ := grown v' w' r1
      exact ⟨_, _, w', hrun, hsl, ⟨r2.os, r2.tape, r2.output, r2.size, fun k hk _ => r2.block k hk (by simp)⟩, fun t ht => .inr (by cases ht; exact hg)⟩

/-- x[1:] of a slice of one-cell elements. -/
theorem SlAt.tail {w : World} {E t o len cap : Nat} {xs : List Value} (h : SlAt w E 1 (some ⟨t, o, none⟩) (len + 1) cap xs) (hc : 1 < cap) : SlAt w E 1 (some ⟨t, o + 1, none⟩) len (cap - 1) xs.tail := by
  obtain ⟨h1, h2, h3⟩ := h
  refine ⟨by simp; omega, by omega, ?_⟩
  rcases h3 with ⟨h3, _⟩ | ⟨t', o', arr, ha, hb, hs, hx⟩
  · cases h3
  · cases ha
    refine .inr ⟨t, o + 1, arr, rfl, hb, by omega, fun j hj => ?_⟩
    rw [show o + 1 + j = o + (j + 1) by omega, hx (j + 1) (by omega)]
    cases xs with
    | nil => simp at h1
    | cons x xs => rfl
theorem SlAt.tail_one {w : World} {E t o len : Nat} {xs : List Value} (h : SlAt w E 1 (some ⟨t, o, none⟩) (len + 1) 1 xs) : SlAt w E 1 (some ⟨t, o, none⟩) len 0 xs.tail := by
  obtain ⟨h1, h2, h3⟩ := h
  refine ⟨by simp; omega, by omega, ?_⟩
  rcases h3 with ⟨h3, _⟩ | ⟨t', o', arr, ha, hb, hs, hx⟩
  · cases h3
  · cases ha
    exact .inr ⟨t, o, arr, rfl, hb, by omega, fun j hj => by omega⟩

/-- x[:len-1] of a slice of one-cell elements. -/
theorem SlAt.init {w : World} {E len cap : Nat} {a : Option Addr} {xs : List Value} (h : SlAt w E 1 a len cap xs) (hl : 0 < len) : SlAt w E 1 a (len - 1) cap xs.dropLast := by
  obtain ⟨h1, h2, h3⟩ := h
  refine ⟨by simp; omega, by omega, ?_⟩
  rcases h3 with h3 | ⟨t', o', arr, ha, hb, hs, hx⟩
  · exact .inl h3
  · refine .inr ⟨t', o', arr, ha, hb, hs, fun j hj => ?_⟩
    rw [hx j (by omega), List.getElem?_dropLast, if_pos (by omega)]

/-- .. as a step of a region that draws (and, with 'wp_append_sl', of one that does not). -/
theorem wp_append_sl {P : Program} {w : World} {o : Oper} {a : Act} {K : Act → World → Prop} {Q : Exit → Act → World → Prop} (s x : Operand) (t : TypeId)
    (ho : o.op = .call { callee := .builtin .append, args := #[s, x], argTypes := #[t, t] })
    (e : TypeId) (i : TypeInfo) (z : Value) (size bytes : Nat) (ht : P.underlying t = some (.slice e)) (hi : P.info? e = some i) (hz : i.zero = some z)
    (hsize : i.size = size) (hby : i.bytes = bytes) (hzs : z.cells.size = size) (hsz : 0 < size)
    (a0 : Option Addr) (n cap : Nat) (xs : List Value) (hs : a.eval s = .slice a0 n cap) (hsl : SlAt w e size a0 n cap xs)
    (ad : Addr) (m c : Nat) (news : List Value) (hx : a.eval x = .slice (some ad) m c) (hl : news.length = m * size) (hnews : ∀ j u, news[j]? = some u → w.cell? (ad.add j) = some u) (h1 : ∀ u ∈ news, u.oneCell' = true)
    (h63 : n + m ≤ maxLen) (hbytes : (n + m) * bytes ≤ 140737488355328) (hm : 0 < m)
    (h : ∀ a' cap' w', SlAt w' e size a' (n + m) cap' (xs ++ news) → w.grownBy w' (a0.map (·.block)) → (∀ t, a' = some t → a0.map (·.block) = some t.block ∨ w.heap.size ≤ t.block) → K (a.put o.dst (.slice a' (n + m) cap')) w') : o.wp P a w K Q := by
  obtain ⟨a', cap', w', hr, h2, h3, h4⟩ := run_append_sl (P := P) w t o.type e i z size bytes ht hi hz hsize hby hzs hsz a0 n cap xs hsl ad m c news hl hnews h1 h63 hbytes hm
  unfold Oper.wp execOp
  simp only [ho, resolve, invoke, builtin, Sem.run_bind, Sem.run_pure, Result.andThen_ok, List.map_toArray, List.map_cons, List.map_nil, hs, hx, hr]
  exact h a' cap' w' h2 h3 h4
theorem wpList_append_sl {P : Program} {w : World} {ops : Array Oper} {rest : List Oper} {o : Oper} {a : Act} {Q : Exit → Act → World → Prop} (hgd : o.guard = none) (s x : Operand) (t : TypeId)
    (ho : o.op = .call { callee := .builtin .append, args := #[s, x], argTypes := #[t, t] })
    (e : TypeId) (i : TypeInfo) (z : Value) (size bytes : Nat) (ht : P.underlying t = some (.slice e)) (hi : P.info? e = some i) (hz : i.zero = some z)
    (hsize : i.size = size) (hby : i.bytes = bytes) (hzs : z.cells.size = size) (hsz : 0 < size)
    (a0 : Option Addr) (n cap : Nat) (xs : List Value) (hs : a.eval s = .slice a0 n cap) (hsl : SlAt w e size a0 n cap xs)
    (ad : Addr) (m c : Nat) (news : List Value) (hx : a.eval x = .slice (some ad) m c) (hl : news.length = m * size) (hnews : ∀ j u, news[j]? = some u → w.cell? (ad.add j) = some u) (h1 : ∀ u ∈ news, u.oneCell' = true)
    (h63 : n + m ≤ maxLen) (hbytes : (n + m) * bytes ≤ 140737488355328) (hm : 0 < m)
    (h : ∀ a' cap' w', SlAt w' e size a' (n + m) cap' (xs ++ news) → w.grownBy w' (a0.map (·.block)) → (∀ t, a' = some t → a0.map (·.block) = some t.block ∨ w.heap.size ≤ t.block) → wpList P ops Q rest (a.put o.dst (.slice a' (n + m) cap')) w') : wpList P ops Q (o :: rest) a w :=
  wpList_plain hgd fun _ hK => wp_append_sl s x t ho e i z size bytes ht hi hz hsize hby hzs hsz a0 n cap xs hs hsl ad m c news hx hl hnews h1 h63 hbytes hm fun a' cap' w' h2 h3 h4 => hK _ _ (h a' cap' w' h2 h3 h4)
theorem step_append_sl {P : Program} {w : World} {ops : Array Oper} {o : Oper} {a : Act} {K : Act → World → Prop} {Q : Exit → Act → World → Prop} {E : Prop} (hgd : o.guard = none) (s x : Operand) (t : TypeId)
    (ho : o.op = .call { callee := .builtin .append, args := #[s, x], argTypes := #[t, t] })
    (e : TypeId) (i : TypeInfo) (z : Value) (size bytes : Nat) (ht : P.underlying t = some (.slice e)) (hi : P.info? e = some i) (hz : i.zero = some z)
    (hsize : i.size = size) (hby : i.bytes = bytes) (hzs : z.cells.size = size) (hsz : 0 < size)
    (a0 : Option Addr) (n cap : Nat) (xs : List Value) (hs : a.eval s = .slice a0 n cap) (hsl : SlAt w e size a0 n cap xs)
    (ad : Addr) (m c : Nat) (news : List Value) (hx : a.eval x = .slice (some ad) m c) (hl : news.length = m * size) (hnews : ∀ j u, news[j]? = some u → w.cell? (ad.add j) = some u) (h1 : ∀ u ∈ news, u.oneCell' = true)
    (h63 : n + m ≤ maxLen) (hbytes : (n + m) * bytes ≤ 140737488355328) (hm : 0 < m)
    (h : ∀ a' cap' w', SlAt w' e size a' (n + m) cap' (xs ++ news) → w.grownBy w' (a0.map (·.block)) → (∀ t, a' = some t → a0.map (·.block) = some t.block ∨ w.heap.size ≤ t.block) → K (a.put o.dst (.slice a' (n + m) cap')) w') :
    if Region.wanted o (yielded ops a.tmps) = true then Oper.wp P o a w K Q else E := by
  have hw : Region.wanted o (yielded ops a.tmps) = true := by simp [Region.wanted, hgd]
  rw [if_pos hw]
  exact wp_append_sl s x t ho e i z size bytes ht hi hz hsize hby hzs hsz a0 n cap xs hs hsl ad m c news hx hl hnews h1 h63 hbytes hm h

/-! ### copy into a block that is known whole, elements of whatever size -/
theorem setCells_flat {w : World} {g N : Nat} {E : TypeId} {f : Nat → Value} (h : FlatAt w g E N f) (o : Nat) (cs : List Value) (hfit : o + cs.length ≤ N) :
    FlatAt (w.setCells g o cs) g E N (fun j => if o ≤ j ∧ j < o + cs.length then cs.getD (j - o) undef else f j) := by
  obtain ⟨arr, hb, hs, hx⟩ := h
  obtain ⟨arr', k1, k2, k3, k4⟩ := setCells_block cs o w arr hb (by omega)
  refine ⟨arr', k1, by omega, fun j hj => ?_⟩
  dsimp only
  by_cases e : o ≤ j ∧ j < o + cs.length
  · have := k4 (j - o) (by omega)
    rw [show o + (j - o) = j by omega] at this
    rw [this, if_pos e, List.getD_eq_getElem?_getD, List.getElem?_eq_getElem (by omega)]; rfl
  · rw [if_neg e, k3 j (by omega), hx j hj]
theorem setCells_keeps (w : World) (g o : Nat) (cs : List Value) : Kept (fun i => i = g) w (w.setCells g o cs) :=
  Kept.of_grown (setCells_kept cs o w (some g) rfl) fun k hk => by cases hk; rfl

theorem run_copy_flat {P : Program} (w : World) (dT sT ty elem : TypeId) (i : TypeInfo) (size : Nat) (hu : P.underlying dT = some (.slice elem)) (hi : P.info? elem = some i) (hsize : i.size = size)
    (g o dLen dCap : Nat) (ad : Addr) (sLen sCap N : Nat) (E : TypeId) (f : Nat → Value) (hg : FlatAt w g E N f) (cs : List Value) (hn : cs.length = Nat.min sLen dLen * size)
    (hsrc : ∀ j v, cs[j]? = some v → w.cell? (ad.add j) = some v) (hfit : o + cs.length ≤ N) (h1 : ∀ v ∈ cs, v.oneCell' = true) :
    (Builtin.copy_ #[dT, sT] ty #[.slice (some ⟨g, o, none⟩) dLen dCap, .slice (some ad) sLen sCap]).run P w = .ok (goInt (Nat.min sLen dLen)) (w.setCells g o cs) := by
  subst hsize
  have hl := run_loadCells_list (P := P) w ad cs hsrc
  rw [hn] at hl
  have hst := run_storeCells_cells (P := P) g o cs 0 w (fun j hj => by rw [hg.cell (by omega)]; rfl) (fun j hj => hg.free _) h1
  simp only [Nat.add_zero] at hst
  simp [Builtin.copy_, run_underlying hu, Builtin.lenOf, Builtin.firstCells, sizeOf, typeInfo, hi, hl, hst]

theorem wp_copy_flat {P : Program} {w : World} {o : Oper} {a : Act} {K : Act → World → Prop} {Q : Exit → Act → World → Prop} (d s : Operand) (dT sT : TypeId)
    (ho : o.op = .call { callee := .builtin .copy, args := #[d, s], argTypes := #[dT, sT] }) (elem : TypeId) (i : TypeInfo) (size : Nat) (hu : P.underlying dT = some (.slice elem)) (hi : P.info? elem = some i) (hsize : i.size = size)
    (g off dLen dCap : Nat) (ad : Addr) (sLen sCap : Nat) (hd : a.eval d = .slice (some ⟨g, off, none⟩) dLen dCap) (hs : a.eval s = .slice (some ad) sLen sCap)
    (N : Nat) (E : TypeId) (f : Nat → Value) (hg : FlatAt w g E N f) (cs : List Value) (hn : cs.length = Nat.min sLen dLen * size)
    (hsrc : ∀ j v, cs[j]? = some v → w.cell? (ad.add j) = some v) (hfit : off + cs.length ≤ N) (h1 : ∀ v ∈ cs, v.oneCell' = true)
    (h : ∀ w', FlatAt w' g E N (fun j => if off ≤ j ∧ j < off + cs.length then cs.getD (j - off) undef else f j) → Kept (fun i => i = g) w w' → K (a.put o.dst (goInt (Nat.min sLen dLen))) w') : o.wp P a w K Q := by
  have hrun := run_copy_flat (P := P) w dT sT o.type elem i size hu hi hsize g off dLen dCap ad sLen sCap N E f hg cs hn hsrc hfit h1
  unfold Oper.wp
  simp [execOp, ho, resolve, invoke, builtin, hd, hs, hrun, Result.andThen]
  exact h _ (setCells_flat hg off cs hfit) (setCells_keeps w g off cs)
theorem wpList_copy_flat {P : Program} {w : World} {ops : Array Oper} {rest : List Oper} {o : Oper} {a : Act} {Q : Exit → Act → World → Prop} (hgd : o.guard = none) (d s : Operand) (dT sT : TypeId)
    (ho : o.op = .call { callee := .builtin .copy, args := #[d, s], argTypes := #[dT, sT] }) (elem : TypeId) (i : TypeInfo) (size : Nat) (hu : P.underlying dT = some (.slice elem)) (hi : P.info? elem = some i) (hsize : i.size = size)
    (g off dLen dCap : Nat) (ad : Addr) (sLen sCap : Nat) (hd : a.eval d = .slice (some ⟨g, off, none⟩) dLen dCap) (hs : a.eval s = .slice (some ad) sLen sCap)
    (N : Nat) (E : TypeId) (f : Nat → Value) (hg : FlatAt w g E N f) (cs : List Value) (hn : cs.length = Nat.min sLen dLen * size)
    (hsrc : ∀ j v, cs[j]? = some v → w.cell? (ad.add j) = some v) (hfit : off + cs.length ≤ N) (h1 : ∀ v ∈ cs, v.oneCell' = true)
    (h : ∀ w', FlatAt w' g E N (fun j => if off ≤ j ∧ j < off + cs.length then cs.getD (j - off) undef else f j) → Kept (fun i => i = g) w w' → wpList P ops Q rest (a.put o.dst (goInt (Nat.min sLen dLen))) w') : wpList P ops Q (o :: rest) a w :=
  wpList_plain hgd fun _ hK => wp_copy_flat d s dT sT ho elem i size hu hi hsize g off dLen dCap ad sLen sCap hd hs N E f hg cs hn hsrc hfit h1 fun w' h2 h3 => hK _ _ (h w' h2 h3)
theorem step_copy_flat {P : Program} {w : World} {ops : Array Oper} {o : Oper} {a : Act} {K : Act → World → Prop} {Q : Exit → Act → World → Prop} {F : Prop} (hgd : o.guard = none) (d s : Operand) (dT sT : TypeId)
    (ho : o.op = .call { callee := .builtin .copy, args := #[d, s], argTypes := #[dT, sT] }) (elem : TypeId) (i : TypeInfo) (size : Nat) (hu : P.underlying dT = some (.slice elem)) (hi : P.info? elem = some i) (hsize : i.size = size)
    (g off dLen dCap : Nat) (ad : Addr) (sLen sCap : Nat) (hd : a.eval d = .slice (some ⟨g, off, none⟩) dLen dCap) (hs : a.eval s = .slice (some ad) sLen sCap)
    (N : Nat) (E : TypeId) (f : Nat → Value) (hg : FlatAt w g E N f) (cs : List Value) (hn : cs.length = Nat.min sLen dLen * size)
    (hsrc : ∀ j v, cs[j]? = some v → w.cell? (ad.add j) = some v) (hfit : off + cs.length ≤ N) (h1 : ∀ v ∈ cs, v.oneCell' = true)
    (h : ∀ w', FlatAt w' g E N (fun j => if off ≤ j ∧ j < off + cs.length then cs.getD (j - off) undef else f j) → Kept (fun i => i = g) w w' → K (a.put o.dst (goInt (Nat.min sLen dLen))) w') :
    if Region.wanted o (yielded ops a.tmps) = true then Oper.wp P o a w K Q else F := by
  have hw : Region.wanted o (yielded ops a.tmps) = true := by simp [Region.wanted, hgd]
  rw [if_pos hw]
  exact wp_copy_flat d s dT sT ho elem i size hu hi hsize g off dLen dCap ad sLen sCap hd hs N E f hg cs hn hsrc hfit h1 h

/-- A guard for the walk: the next operation is this copy. -/
theorem copy_here {P : Program} {w : World} {ops : Array Oper} {rest : List Oper} {a : Act} {Q : Exit → Act → World → Prop} (d s : Operand) {dst : Option Tmp} {dT sT ty : TypeId} {pos : String} {after : Array Edge}
    (h : wpList P ops Q ({ dst := dst, op := .call { callee := .builtin .copy, args := #[d, s], argTypes := #[dT, sT] }, type := ty, pos := pos, after := after, guard := none } :: rest) a w) :
    wpList P ops Q ({ dst := dst, op := .call { callee := .builtin .copy, args := #[d, s], argTypes := #[dT, sT] }, type := ty, pos := pos, after := after, guard := none } :: rest) a w := h
end Go.Proofs.Ytgbdnodkbdkaeaa
