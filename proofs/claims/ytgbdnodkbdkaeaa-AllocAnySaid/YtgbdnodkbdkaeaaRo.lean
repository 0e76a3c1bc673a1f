/- Rows of structs: a list's cells; slices cut; append of a slice that may be empty. -/
import Derived.Test.YtgbdnodkbdkaeaaSl
import Derived.Deep.Slices
import Derived.Deep.Fields
import Derived.ChangeSame
import Derived.ChangeArms
namespace Go.Proofs.Ytgbdnodkbdkaeaa
open Go.RowKit

theorem fm_len {α : Type} {f : α → List Value} {s : Nat} (hf : ∀ x, (f x).length = s) : ∀ (l : List α), (l.flatMap f).length = l.length * s
  | [] => by simp
  | x :: l => by rw [List.flatMap_cons, List.length_append, hf, fm_len hf l, List.length_cons, Nat.add_mul]; omega
theorem fm_get {α : Type} {f : α → List Value} {s : Nat} (hf : ∀ x, (f x).length = s) : ∀ (l : List α) (i k : Nat), k < s → (l.flatMap f)[i * s + k]? = (l[i]?).bind fun x => (f x)[k]?
  | [], i, k, _ => by simp
  | x :: l, 0, k, hk => by
    rw [List.flatMap_cons, List.getElem?_append_left (by rw [hf]; omega)]; simp
  | x :: l, i + 1, k, hk => by
    rw [List.flatMap_cons, List.getElem?_append_right (by rw [hf, Nat.add_mul]; omega), hf, show (i + 1) * s + k - s = i * s + k by rw [Nat.add_mul]; omega, fm_get hf l i k hk]; rfl
theorem fm_take {α : Type} {f : α → List Value} {s : Nat} (hf : ∀ x, (f x).length = s) : ∀ (l : List α) (i : Nat), (l.flatMap f).take (i * s) = (l.take i).flatMap f
  | [], i => by simp
  | x :: l, 0 => by simp
  | x :: l, i + 1 => by
    rw [List.flatMap_cons, List.take_append, hf, List.take_of_length_le (by rw [hf, Nat.add_mul]; omega), show (i + 1) * s - s = i * s by rw [Nat.add_mul]; omega, fm_take hf l i]; simp
theorem fm_drop {α : Type} {f : α → List Value} {s : Nat} (hf : ∀ x, (f x).length = s) : ∀ (l : List α) (i : Nat), (l.flatMap f).drop (i * s) = (l.drop i).flatMap f
  | [], i => by simp
  | x :: l, 0 => by simp
  | x :: l, i + 1 => by
    rw [List.flatMap_cons, List.drop_append, hf, List.drop_of_length_le (by rw [hf, Nat.add_mul]; omega), show (i + 1) * s - s = i * s by rw [Nat.add_mul]; omega, fm_drop hf l i]; simp

/-- x[:k] of a slice. -/
theorem SlAt.take {w : World} {E size len cap : Nat} {a : Option Addr} {xs : List Value} (h : SlAt w E size a len cap xs) {k : Nat} (hk : k ≤ len) : SlAt w E size a k cap (xs.take (k * size)) := by
  obtain ⟨h1, h2, h3⟩ := h
  have hks : k * size ≤ len * size := Nat.mul_le_mul_right _ hk
  refine ⟨by rw [List.length_take, h1]; omega, by omega, ?_⟩
  rcases h3 with h3 | ⟨t', o', arr, ha, hb, hs, hx⟩
  · exact .inl h3
  · refine .inr ⟨t', o', arr, ha, hb, hs, fun j hj => ?_⟩
    rw [hx j (by omega), List.getElem?_take, if_pos hj]
/-- x[k:] of a slice, where there is room behind. -/
theorem SlAt.drop {w : World} {E size t o len cap : Nat} {xs : List Value} (h : SlAt w E size (some ⟨t, o, none⟩) len cap xs) {k : Nat} (hk : k ≤ len) : SlAt w E size (some ⟨t, o + k * size, none⟩) (len - k) (cap - k) (xs.drop (k * size)) := by
  obtain ⟨h1, h2, h3⟩ := h
  have hks : k * size ≤ len * size := Nat.mul_le_mul_right _ hk
  have hkc : k * size ≤ cap * size := Nat.mul_le_mul_right _ (Nat.le_trans hk h2)
  refine ⟨by rw [List.length_drop, h1, Nat.sub_mul], by omega, ?_⟩
  rcases h3 with ⟨h3, _⟩ | ⟨t', o', arr, ha, hb, hs, hx⟩
  · cases h3
  · cases ha
    refine .inr ⟨t, o + k * size, arr, rfl, hb, by rw [Nat.sub_mul]; omega, fun j hj => ?_⟩
    rw [Nat.sub_mul] at hj
    rw [List.getElem?_drop, ← hx (k * size + j) (by omega), Nat.add_assoc]
/-- x[k:] at the end of all the room: the old address, nothing there. -/
theorem SlAt.drop_all {w : World} {E size len cap : Nat} {a : Option Addr} {xs : List Value} (h : SlAt w E size a len cap xs) : SlAt w E size a 0 0 [] := by
  obtain ⟨h1, h2, h3⟩ := h
  refine ⟨by simp, by omega, ?_⟩
  rcases h3 with ⟨h3, _⟩ | ⟨t', o', arr, ha, hb, hs, hx⟩
  · exact .inl ⟨h3, rfl⟩
  · exact .inr ⟨t', o', arr, ha, hb, by omega, fun j hj => by omega⟩
theorem SlAt.one {w : World} {b E size : Nat} {cs : List Value} (h : w.heap[b]? = some (.cells cs.toArray E (0, 0))) (hs : cs.length = size) : SlAt w E size (some ⟨b, 0, none⟩) 1 1 cs :=
  ⟨by omega, Nat.le_refl _, .inr ⟨b, 0, cs.toArray, rfl, h, by simp [hs], fun j hj => by simp⟩⟩

/-- append, onto whatever slice there is, of whatever slice there is. -/
theorem run_append_any {P : Program} (w : World) (t ty : TypeId) (e : TypeId) (i : TypeInfo) (z : Value) (size bytes : Nat) (ht : P.underlying t = some (.slice e)) (hi : P.info? e = some i) (hz : i.zero = some z)
    (hsize : i.size = size) (hby : i.bytes = bytes) (hzs : z.cells.size = size) (hsz : 0 < size)
    (a : Option Addr) (n cap : Nat) (xs : List Value) (hs : SlAt w e size a n cap xs)
    (b : Option Addr) (m c : Nat) (news : List Value) (hb : SlAt w e size b m c news) (h1 : ∀ u ∈ news, u.oneCell' = true)
    (h63 : n + m ≤ maxLen) (hbytes : (n + m) * bytes ≤ 140737488355328) :
    ∃ a' cap' w', (Builtin.append_ #[t, t] ty #[.slice a n cap, .slice b m c]).run P w = .ok (.slice a' (n + m) cap') w' ∧ SlAt w' e size a' (n + m) cap' (xs ++ news) ∧ w.grownBy w' (a.map (·.block)) ∧
      (∀ t, a' = some t → a.map (·.block) = some t.block ∨ w.heap.size ≤ t.block) := by
  rcases Nat.eq_zero_or_pos m with h0 | hm
  · subst h0
    have hn : news = [] := List.eq_nil_of_length_eq_zero (by rw [hb.1]; omega)
    subst hn
    refine ⟨a, cap, w, ?_, by simpa using hs, ⟨rfl, rfl, rfl, Nat.le_refl _, fun _ _ _ => rfl⟩, fun t ht => .inl (by rw [ht]; rfl)⟩
    have hnc := hs.2.1
    have hf : (Builtin.firstCells i.size 0 (.slice b 0 c)).run P w = .ok #[] w := by
      cases b with
      | none => rfl
      | some ad => exact run_firstCells_some (P := P) w i.size 0 ad 0 c [] (by simp) (fun j u hu => by simp at hu)
    cases a with
    | none => simp [Builtin.append_, run_underlying ht, sizeOf, typeInfo, hi, Builtin.lenOf, hnc, hf]
    | some ad =>
      have hst : (storeCells (ad.add (n * i.size)) ([] : List Value)).run P w = .ok () w := rfl
      simp [Builtin.append_, run_underlying ht, sizeOf, typeInfo, hi, Builtin.lenOf, hnc, hf, hst]
  · have hmc := hb.2.1
    rcases hb.2.2 with ⟨_, h2⟩ | ⟨t0, o, arr, rfl, hbl, ho, hx⟩
    · omega
    · refine run_append_sl w t ty e i z size bytes ht hi hz hsize hby hzs hsz a n cap xs hs ⟨t0, o, none⟩ m c news hb.1 (fun j u hu => ?_) h1 h63 hbytes hm
      have hj : j < m * size := by rw [← hb.1]; exact (List.getElem?_eq_some_iff.1 hu).1
      rw [addr_add, cell_of_block hbl, hx j hj]; exact hu
theorem wp_append_any {P : Program} {w : World} {o : Oper} {a : Act} {K : Act → World → Prop} {Q : Exit → Act → World → Prop} (s x : Operand) (t : TypeId)
    (ho : o.op = .call { callee := .builtin .append, args := #[s, x], argTypes := #[t, t] })
    (e : TypeId) (i : TypeInfo) (z : Value) (size bytes : Nat) (ht : P.underlying t = some (.slice e)) (hi : P.info? e = some i) (hz : i.zero = some z)
    (hsize : i.size = size) (hby : i.bytes = bytes) (hzs : z.cells.size = size) (hsz : 0 < size)
    (a0 : Option Addr) (n cap : Nat) (xs : List Value) (hs : a.eval s = .slice a0 n cap) (hsl : SlAt w e size a0 n cap xs)
    (b : Option Addr) (m c : Nat) (news : List Value) (hx : a.eval x = .slice b m c) (hb : SlAt w e size b m c news) (h1 : ∀ u ∈ news, u.oneCell' = true)
    (h63 : n + m ≤ maxLen) (hbytes : (n + m) * bytes ≤ 140737488355328)
    (h : ∀ a' cap' w', SlAt w' e size a' (n + m) cap' (xs ++ news) → w.grownBy w' (a0.map (·.block)) → (∀ t, a' = some t → a0.map (·.block) = some t.block ∨ w.heap.size ≤ t.block) → K (a.put o.dst (.slice a' (n + m) cap')) w') : o.wp P a w K Q := by
  obtain ⟨a', cap', w', hr, h2, h3, h4⟩ := run_append_any (P := P) w t o.type e i z size bytes ht hi hz hsize hby hzs hsz a0 n cap xs hsl b m c news hb h1 h63 hbytes
  unfold Oper.wp execOp
  simp only [ho, resolve, invoke, builtin, Sem.run_bind, Sem.run_pure, Result.andThen_ok, List.map_toArray, List.map_cons, List.map_nil, hs, hx, hr]
  exact h a' cap' w' h2 h3 h4
theorem wpList_append_any {P : Program} {w : World} {ops : Array Oper} {rest : List Oper} {o : Oper} {a : Act} {Q : Exit → Act → World → Prop} (hgd : o.guard = none) (s x : Operand) (t : TypeId)
    (ho : o.op = .call { callee := .builtin .append, args := #[s, x], argTypes := #[t, t] })
    (e : TypeId) (i : TypeInfo) (z : Value) (size bytes : Nat) (ht : P.underlying t = some (.slice e)) (hi : P.info? e = some i) (hz : i.zero = some z)
    (hsize : i.size = size) (hby : i.bytes = bytes) (hzs : z.cells.size = size) (hsz : 0 < size)
    (a0 : Option Addr) (n cap : Nat) (xs : List Value) (hs : a.eval s = .slice a0 n cap) (hsl : SlAt w e size a0 n cap xs)
    (b : Option Addr) (m c : Nat) (news : List Value) (hx : a.eval x = .slice b m c) (hb : SlAt w e size b m c news) (h1 : ∀ u ∈ news, u.oneCell' = true)
    (h63 : n + m ≤ maxLen) (hbytes : (n + m) * bytes ≤ 140737488355328)
    (h : ∀ a' cap' w', SlAt w' e size a' (n + m) cap' (xs ++ news) → w.grownBy w' (a0.map (·.block)) → (∀ t, a' = some t → a0.map (·.block) = some t.block ∨ w.heap.size ≤ t.block) → wpList P ops Q rest (a.put o.dst (.slice a' (n + m) cap')) w') : wpList P ops Q (o :: rest) a w :=
  wpList_plain hgd fun _ hK => wp_append_any s x t ho e i z size bytes ht hi hz hsize hby hzs hsz a0 n cap xs hs hsl b m c news hx hb h1 h63 hbytes fun a' cap' w' h2 h3 h4 => hK _ _ (h a' cap' w' h2 h3 h4)
theorem step_append_any {P : Program} {w : World} {ops : Array Oper} {o : Oper} {a : Act} {K : Act → World → Prop} {Q : Exit → Act → World → Prop} {E : Prop} (hgd : o.guard = none) (s x : Operand) (t : TypeId)
    (ho : o.op = .call { callee := .builtin .append, args := #[s, x], argTypes := #[t, t] })
    (e : TypeId) (i : TypeInfo) (z : Value) (size bytes : Nat) (ht : P.underlying t = some (.slice e)) (hi : P.info? e = some i) (hz : i.zero = some z)
    (hsize : i.size = size) (hby : i.bytes = bytes) (hzs : z.cells.size = size) (hsz : 0 < size)
    (a0 : Option Addr) (n cap : Nat) (xs : List Value) (hs : a.eval s = .slice a0 n cap) (hsl : SlAt w e size a0 n cap xs)
    (b : Option Addr) (m c : Nat) (news : List Value) (hx : a.eval x = .slice b m c) (hb : SlAt w e size b m c news) (h1 : ∀ u ∈ news, u.oneCell' = true)
    (h63 : n + m ≤ maxLen) (hbytes : (n + m) * bytes ≤ 140737488355328)
    (h : ∀ a' cap' w', SlAt w' e size a' (n + m) cap' (xs ++ news) → w.grownBy w' (a0.map (·.block)) → (∀ t, a' = some t → a0.map (·.block) = some t.block ∨ w.heap.size ≤ t.block) → K (a.put o.dst (.slice a' (n + m) cap')) w') :
    if Region.wanted o (yielded ops a.tmps) = true then Oper.wp P o a w K Q else E := by
  have hw : Region.wanted o (yielded ops a.tmps) = true := by simp [Region.wanted, hgd]
  rw [if_pos hw]
  exact wp_append_any s x t ho e i z size bytes ht hi hz hsize hby hzs hsz a0 n cap xs hs hsl b m c news hx hb h1 h63 hbytes h

/-- A slice of the run's own: its cells, in memory that was not there in w; what was there in w is as it was. -/
structure Fr (E size : Nat) (xs : List Value) (w : World) (p : Option Addr) (n cap : Nat) (w' : World) : Prop where
  sl : SlAt w' E size p n cap xs
  k : Kept (fun _ => False) w w'
  nw : ∀ t, p = some t → w.heap.size ≤ t.block
theorem Fr.nil (E size : Nat) (w : World) : Fr E size [] w none 0 0 w := ⟨SlAt.nil _ _ _, Kept.refl _ _, fun t ht => by cases ht⟩
theorem Fr.lit (E size : Nat) (w : World) : Fr E size [] w (some ⟨w.heap.size, 0, none⟩) 0 0 (w.alloc (.cells #[] E)) :=
  ⟨⟨by simp, Nat.le_refl _, .inr ⟨w.heap.size, 0, #[], rfl, block_alloc_new _ _, by simp, fun j hj => by omega⟩⟩, (Kept.refl _ _).alloc _, fun t ht => by cases ht; exact Nat.le_refl _⟩
theorem Fr.mono {E size : Nat} {xs : List Value} {w w1 w2 : World} {p : Option Addr} {n cap : Nat} (h : Fr E size xs w p n cap w1) (k : Kept (fun _ => False) w1 w2) : Fr E size xs w p n cap w2 :=
  ⟨h.sl.kept fun t ht => k.block _ (h.sl.lt t ht) (fun h => h), h.k.trans k, h.nw⟩
theorem Fr.alloc {E size : Nat} {xs : List Value} {w w1 : World} {p : Option Addr} {n cap : Nat} (h : Fr E size xs w p n cap w1) (o : Obj) : Fr E size xs w p n cap (w1.alloc o) := h.mono ((Kept.refl _ _).alloc o)
theorem Fr.drewN {E size : Nat} {xs : List Value} {w w1 : World} {p : Option Addr} {n cap : Nat} (h : Fr E size xs w p n cap w1) (q : Nat) : Fr E size xs w p n cap (w1.drewN q) := h.mono ((Kept.refl _ _).drewN q)
theorem Fr.drew {E size : Nat} {xs : List Value} {w w1 : World} {p : Option Addr} {n cap : Nat} (h : Fr E size xs w p n cap w1) : Fr E size xs w p n cap w1.drew := h.mono (Kept.refl _ _).drew
theorem Fr.app {E size : Nat} {xs ys : List Value} {w w1 w2 : World} {p p' : Option Addr} {n cap m cap' : Nat} (h : Fr E size xs w p n cap w1) (hs : SlAt w2 E size p' (n + m) cap' (xs ++ ys))
    (hg : w1.grownBy w2 (p.map (·.block))) (hb : ∀ t, p' = some t → p.map (·.block) = some t.block ∨ w1.heap.size ≤ t.block) : Fr E size (xs ++ ys) w p' (n + m) cap' w2 := by
  refine ⟨hs, h.k.trans' (G := fun j => ∃ t, p = some t ∧ j = t.block) (Kept.of_grown hg fun k hk => ?_) (fun i hi ⟨t, ht, e⟩ => ?_), fun t ht => ?_⟩
  · cases hp : p with
    | none => rw [hp] at hk; cases hk
    | some t => rw [hp] at hk; exact ⟨t, rfl, by simpa using hk.symm⟩
  · have := h.nw t ht; omega
  · rcases hb t ht with h2 | h2
    · cases hp : p with
      | none => rw [hp] at h2; cases h2
      | some u =>
        rw [hp] at h2
        have hu : u.block = t.block := by simpa using h2
        rw [← hu]; exact h.nw u hp
    · exact Nat.le_trans h.k.size h2
/-- Seen from an elder world. -/
theorem Fr.from {E size : Nat} {xs : List Value} {w0 w w1 : World} {p : Option Addr} {n cap : Nat} (h : Fr E size xs w p n cap w1) (k : Kept (fun _ => False) w0 w) : Fr E size xs w0 p n cap w1 :=
  ⟨h.sl, k.trans h.k, fun t ht => Nat.le_trans k.size (h.nw t ht)⟩

/-! ### an argument that is a slice of structs -/
section
variable {H : Type} {enc : TypeId × Value → H} {P : Program} {w : World} {base : Nat} {spare : Nat → Bool} {held : Bool}
theorem open_recs {t e : TypeId} {fs : Array Field} {fuel : Nat} {cs : List Value} {x : DataW H × List MemPlace} (ht : P.underlying t = some (.slice e)) (he : P.underlying e = some (.struct fs))
    (hone : Deep.oneCellFields P fs = true) (hC : P.cellsOf e = fs.size) (h : DataW.trod enc P w base spare held fuel t cs = some x) :
    cs = [.slice none 0 0] ∨ ∃ (a : Addr) (len cap : Nat), cs = [.slice (some a) len cap] ∧ len ≤ cap ∧ cap ≤ maxLen ∧
      ∀ i, i < len → ∀ (j : Nat) (f : Field), fs[j]? = some f → ∃ (v : Value) (y : DataW H × List MemPlace) (n : Nat), w.cell? (a.add (i * fs.size + j)) = some v ∧ DataW.trod enc P w base spare held n f.type [v] = some y := by
  rcases Deep.open_slice ht h with ⟨h0, _⟩ | ⟨a, len, cap, m, n, D, Pl, hcs, _, hl, hm, hmm, _, hi⟩
  · exact .inl h0
  · refine .inr ⟨a, len, cap, hcs, hl, hm, fun i hil j f hj => ?_⟩
    have him : i < m := by rw [hmm]; split <;> omega
    obtain ⟨cs', hc, ht'⟩ := hi i him
    rw [hC] at hc
    obtain ⟨ys, n', _, _, _, hyl, hf⟩ := DataW.trod_struct he ht'
    obtain ⟨_, hcl, hat⟩ := World.cells?_some hc
    obtain ⟨ho, hk⟩ := Deep.hone_of hone j f hj
    have hjl : j < fs.size := (Array.getElem?_eq_some_iff.1 hj).1
    have hcell := hat j hjl
    have h1 := hf j f hj
    rw [ho, hk, Deep.take1_drop cs' j undef (by omega), List.getElem?_eq_getElem (show j < ys.length by omega)] at h1
    refine ⟨_, _, n', ?_, h1⟩
    rw [← Deep.add_add, hcell]
    simp [List.getD, List.getElem?_eq_getElem (show j < cs'.length by omega)]
end
theorem plain_of_cell {w : World} {a : Addr} {v : Value} (h : w.cell? (a.add 0) = some v) : a = ⟨a.block, a.off, none⟩ ∧ a.block < w.heap.size := by
  have hs := World.block_lt_of_cell? _ _ h
  obtain ⟨b, o, sp⟩ := a
  cases sp with
  | none => exact ⟨rfl, by simpa [addr_add] using hs⟩
  | some s => simp [Addr.add, World.cell?] at h; split at h <;> simp at h

/-! ### append onto an empty slice -/
theorem wpList_append_new {P : Program} {w : World} {ops : Array Oper} {rest : List Oper} {o : Oper} {a : Act} {Q : Exit → Act → World → Prop} (hgd : o.guard = none) (s x : Operand) (t : TypeId)
    (ho : o.op = .call { callee := .builtin .append, args := #[s, x], argTypes := #[t, t] })
    (e : TypeId) (i : TypeInfo) (z : Value) (size bytes : Nat) (ht : P.underlying t = some (.slice e)) (hi : P.info? e = some i) (hz : i.zero = some z)
    (hsize : i.size = size) (hby : i.bytes = bytes) (hzs : z.cells.size = size) (hsz : 0 < size)
    (a0 : Option Addr) (cap : Nat) (hs : a.eval s = .slice a0 0 cap) (hsl : SlAt w e size a0 0 cap [])
    (b : Option Addr) (m c : Nat) (news : List Value) (hx : a.eval x = .slice b m c) (hb : SlAt w e size b m c news) (h1 : ∀ u ∈ news, u.oneCell' = true)
    (h63 : m ≤ maxLen) (hbytes : m * bytes ≤ 140737488355328)
    (h : ∀ a' cap' w', SlAt w' e size a' m cap' news → w.grownBy w' (a0.map (·.block)) → (∀ t, a' = some t → a0.map (·.block) = some t.block ∨ w.heap.size ≤ t.block) → wpList P ops Q rest (a.put o.dst (.slice a' m cap')) w') : wpList P ops Q (o :: rest) a w :=
  wpList_append_any hgd s x t ho e i z size bytes ht hi hz hsize hby hzs hsz a0 0 cap [] hs hsl b m c news hx hb h1 (by omega) (by rw [Nat.zero_add]; exact hbytes) fun a' cap' w' g1 g2 g3 => by
    rw [Nat.zero_add] at g1 ⊢; exact h a' cap' w' g1 g2 g3
theorem step_append_new {P : Program} {w : World} {ops : Array Oper} {o : Oper} {a : Act} {K : Act → World → Prop} {Q : Exit → Act → World → Prop} {E : Prop} (hgd : o.guard = none) (s x : Operand) (t : TypeId)
    (ho : o.op = .call { callee := .builtin .append, args := #[s, x], argTypes := #[t, t] })
    (e : TypeId) (i : TypeInfo) (z : Value) (size bytes : Nat) (ht : P.underlying t = some (.slice e)) (hi : P.info? e = some i) (hz : i.zero = some z)
    (hsize : i.size = size) (hby : i.bytes = bytes) (hzs : z.cells.size = size) (hsz : 0 < size)
    (a0 : Option Addr) (cap : Nat) (hs : a.eval s = .slice a0 0 cap) (hsl : SlAt w e size a0 0 cap [])
    (b : Option Addr) (m c : Nat) (news : List Value) (hx : a.eval x = .slice b m c) (hb : SlAt w e size b m c news) (h1 : ∀ u ∈ news, u.oneCell' = true)
    (h63 : m ≤ maxLen) (hbytes : m * bytes ≤ 140737488355328)
    (h : ∀ a' cap' w', SlAt w' e size a' m cap' news → w.grownBy w' (a0.map (·.block)) → (∀ t, a' = some t → a0.map (·.block) = some t.block ∨ w.heap.size ≤ t.block) → K (a.put o.dst (.slice a' m cap')) w') :
    if Region.wanted o (yielded ops a.tmps) = true then Oper.wp P o a w K Q else E :=
  step_append_any hgd s x t ho e i z size bytes ht hi hz hsize hby hzs hsz a0 0 cap [] hs hsl b m c news hx hb h1 (by omega) (by rw [Nat.zero_add]; exact hbytes) fun a' cap' w' g1 g2 g3 => by
    rw [Nat.zero_add] at g1 ⊢; exact h a' cap' w' g1 g2 g3
theorem Fr.app0 {E size : Nat} {ys : List Value} {w w1 w2 : World} {p p' : Option Addr} {cap m cap' : Nat} (h : Fr E size [] w p 0 cap w1) (hs : SlAt w2 E size p' m cap' ys)
    (hg : w1.grownBy w2 (p.map (·.block))) (hb : ∀ t, p' = some t → p.map (·.block) = some t.block ∨ w1.heap.size ≤ t.block) : Fr E size ys w p' m cap' w2 := by
  have := h.app (m := m) (ys := ys) (by rw [Nat.zero_add]; exact hs) hg hb
  rwa [Nat.zero_add] at this
theorem block_grown {W w1 : World} {row : Option Nat} {b : Nat} {o : Obj} (hg : W.grownBy w1 row) (hx : W.heap[b]? = some o) (hne : row ≠ some b) : w1.heap[b]? = some o :=
  (hg.block b (lt_of_block hx) (fun e => hne e.symm)).trans hx

/-! ### for regions that draw: the worlds that come up, read from behind -/
theorem Fr.lit0 {E size n : Nat} {w0 w : World} (k : Kept (fun _ => False) w0 w) (h : n = w.heap.size) : Fr E size [] w0 (some ⟨n, 0, none⟩) 0 0 (w.alloc (.cells #[] E)) := by
  subst h; exact (Fr.lit E size w).from k
theorem block_drew {w : World} {b : Nat} {o : Option Obj} (h : w.heap[b]? = o) : w.drew.heap[b]? = o := h
theorem block_drewN {w : World} {b q : Nat} {o : Option Obj} (h : w.heap[b]? = o) : (w.drewN q).heap[b]? = o := h
theorem block_new {w : World} {b : Nat} {o : Obj} (h : b = w.heap.size) : (w.alloc o).heap[b]? = some o := by subst h; exact block_alloc_new _ _
theorem SlAt.drew {w : World} {E size : Nat} {a : Option Addr} {len cap : Nat} {xs : List Value} (h : SlAt w E size a len cap xs) : SlAt w.drew E size a len cap xs := h.kept fun _ _ => rfl
theorem SlAt.alloc {w : World} {E size : Nat} {a : Option Addr} {len cap : Nat} {xs : List Value} (h : SlAt w E size a len cap xs) (o : Obj) : SlAt (w.alloc o) E size a len cap xs := h.kept fun t ht => Below.heap_alloc _ _ _ (h.lt t ht)

/-! ### copy, where its run is known; into cells of which nothing is known but that they are there -/
theorem run_copy_any {P : Program} (w : World) (dT sT ty elem : TypeId) (i : TypeInfo) (size : Nat) (hu : P.underlying dT = some (.slice elem)) (hi : P.info? elem = some i) (hsize : i.size = size)
    (g o dLen dCap : Nat) (ad : Addr) (sLen sCap : Nat) (cs : List Value) (hn : cs.length = Nat.min sLen dLen * size) (hsrc : ∀ j v, cs[j]? = some v → w.cell? (ad.add j) = some v)
    (hd : ∀ j, j < cs.length → (w.cell? ⟨g, o + j, none⟩).isSome = true) (hf : ∀ j, j < cs.length → w.frozen? ⟨g, o + j, none⟩ = false) (h1 : ∀ v ∈ cs, v.oneCell' = true) :
    (Builtin.copy_ #[dT, sT] ty #[.slice (some ⟨g, o, none⟩) dLen dCap, .slice (some ad) sLen sCap]).run P w = .ok (goInt (Nat.min sLen dLen)) (w.setCells g o cs) := by
  subst hsize
  have hl := run_loadCells_list (P := P) w ad cs hsrc
  rw [hn] at hl
  have hst := run_storeCells_cells (P := P) g o cs 0 w (by simpa using hd) (by simpa using hf) h1
  simp only [Nat.add_zero] at hst
  simp [Builtin.copy_, run_underlying hu, Builtin.lenOf, Builtin.firstCells, sizeOf, typeInfo, hi, hl, hst]
theorem wp_copy_eq {P : Program} {w : World} {o : Oper} {a : Act} {K : Act → World → Prop} {Q : Exit → Act → World → Prop} (d s : Operand) (t t' : TypeId)
    (ho : o.op = .call { callee := .builtin .copy, args := #[d, s], argTypes := #[t, t'] }) (v u : Value) (hd : a.eval d = v) (hs : a.eval s = u) {v' : Value} {w' : World}
    (hr : (Builtin.copy_ #[t, t'] o.type #[v, u]).run P w = .ok v' w') (h : K (a.put o.dst v') w') : o.wp P a w K Q := by
  unfold Oper.wp execOp
  simp only [ho, resolve, invoke, builtin, Sem.run_bind, Sem.run_pure, Result.andThen_ok, List.map_toArray, List.map_cons, List.map_nil, hd, hs, hr]
  exact h
theorem wpList_copy_eq {P : Program} {w : World} {ops : Array Oper} {rest : List Oper} {o : Oper} {a : Act} {Q : Exit → Act → World → Prop} (hgd : o.guard = none) (d s : Operand) (t t' : TypeId)
    (ho : o.op = .call { callee := .builtin .copy, args := #[d, s], argTypes := #[t, t'] }) (v u : Value) (hd : a.eval d = v) (hs : a.eval s = u) {v' : Value} {w' : World}
    (hr : (Builtin.copy_ #[t, t'] o.type #[v, u]).run P w = .ok v' w') (h : wpList P ops Q rest (a.put o.dst v') w') : wpList P ops Q (o :: rest) a w :=
  wpList_plain hgd fun _ hK => wp_copy_eq d s t t' ho v u hd hs hr (hK _ _ h)
theorem step_copy_eq {P : Program} {ops : Array Oper} {o : Oper} {a : Act} {w : World} {K : Act → World → Prop} {Q : Exit → Act → World → Prop} {E : Prop} (hgd : o.guard = none) (d s : Operand) (t t' : TypeId)
    (ho : o.op = .call { callee := .builtin .copy, args := #[d, s], argTypes := #[t, t'] }) (v u : Value) (hd : a.eval d = v) (hs : a.eval s = u) {v' : Value} {w' : World}
    (hr : (Builtin.copy_ #[t, t'] o.type #[v, u]).run P w = .ok v' w') (h : K (a.put o.dst v') w') :
    if Region.wanted o (yielded ops a.tmps) = true then Oper.wp P o a w K Q else E := by
  have hw : Region.wanted o (yielded ops a.tmps) = true := by simp [Region.wanted, hgd]
  rw [if_pos hw]
  exact wp_copy_eq d s t t' ho v u hd hs hr h
theorem wpList_append_eq {P : Program} {w : World} {ops : Array Oper} {rest : List Oper} {o : Oper} {a : Act} {Q : Exit → Act → World → Prop} (hgd : o.guard = none) (d s : Operand) (t t' : TypeId)
    (ho : o.op = .call { callee := .builtin .append, args := #[d, s], argTypes := #[t, t'] }) (v u : Value) (hd : a.eval d = v) (hs : a.eval s = u) {v' : Value} {w' : World}
    (hr : (Builtin.append_ #[t, t'] o.type #[v, u]).run P w = .ok v' w') (h : wpList P ops Q rest (a.put o.dst v') w') : wpList P ops Q (o :: rest) a w := by
  refine wpList_plain hgd fun _ hK => ?_
  unfold Oper.wp execOp
  simp only [ho, resolve, invoke, builtin, Sem.run_bind, Sem.run_pure, Result.andThen_ok, List.map_toArray, List.map_cons, List.map_nil, hd, hs, hr]
  exact hK _ _ h
/-- On which block a slice lies. -/
def OnB (p : Option Addr) (b : Nat) : Prop := ∃ t, p = some t ∧ b = t.block
theorem Kept.of_grownB {w w' : World} {p : Option Addr} (hg : w.grownBy w' (p.map (·.block))) : Kept (OnB p) w w' :=
  Kept.of_grown hg fun k hk => by
    cases hp : p with
    | none => rw [hp] at hk; cases hk
    | some t => rw [hp] at hk; exact ⟨t, rfl, by simpa using hk.symm⟩
end Go.Proofs.Ytgbdnodkbdkaeaa
