/- The book of complex orders in memory; an order is looked for: the walks. -/
import Derived.Test.YtopfgcnehdjjpaaCa
namespace Go.Proofs.Ytopfgcnehdjjpaa
open Go.RowKit

/-- The book at block a: two rows, each in a block of its own. -/
structure BkAt (w : World) (a : Nat) (R : Nat → List Od) (p : Nat → Option Addr) (c : Nat → Nat) (O : Nat → Nat) : Prop where
  st : w.heap[a]? = some (.cells #[.slice (p 0) (R 0).length (c 0), .slice (p 1) (R 1).length (c 1)] 66 (0, 0))
  sl : ∀ k, k < 2 → SlAt w 31 5 (p k) (R k).length (c k) ((R k).flatMap odC)
  oa : O a = 3
  ok : ∀ k, k < 2 → ∀ t, p k = some t → O t.block = k + 1
  new : ∀ i, w.heap.size ≤ i → O i = 0
  few : (R 0).length + (R 1).length ≤ 256

theorem BkAt.kept {w w' : World} {a : Nat} {R : Nat → List Od} {p : Nat → Option Addr} {c : Nat → Nat} {O : Nat → Nat} (h : BkAt w a R p c O) (k : Kept (fun b => O b = 0) w w') : BkAt w' a R p c O :=
  ⟨(k.block a (lt_of_block h.st) (fun e => by rw [h.oa] at e; cases e)).trans h.st, fun j hj => (h.sl j hj).kept fun t ht => k.block _ ((h.sl j hj).lt t ht) (fun e => by rw [h.ok j hj t ht] at e; cases e),
   h.oa, h.ok, fun i hi => h.new i (Nat.le_trans k.size hi), h.few⟩
theorem BkAt.keptF {w w' : World} {a : Nat} {R : Nat → List Od} {p : Nat → Option Addr} {c : Nat → Nat} {O : Nat → Nat} (h : BkAt w a R p c O) (k : Kept (fun _ => False) w w') : BkAt w' a R p c O :=
  h.kept (k.mono fun _ _ h => h.elim)
theorem BkAt.row {w : World} {a : Nat} {R : Nat → List Od} {p : Nat → Option Addr} {c : Nat → Nat} {O : Nat → Nat} (h : BkAt w a R p c O) {k : Nat} (hk : k < 2) : w.cell? ⟨a, k, none⟩ = some (.slice (p k) (R k).length (c k)) := by
  rw [cell_of_block h.st]
  match k, hk with
  | 0, _ => rfl
  | 1, _ => rfl
/-- What is done to a book: its own blocks, and new ones. -/
structure Grows3 (O O' : Nat → Nat) (w w' : World) : Prop where
  kept : Kept (fun b => O b ≠ 0) w w'
  old : ∀ b, b < w.heap.size → O' b = O b
theorem Grows3.refl (O : Nat → Nat) (w : World) : Grows3 O O w w := ⟨Kept.refl _ _, fun _ _ => rfl⟩
theorem Grows3.trans {O O' O'' : Nat → Nat} {a b c : World} (h : Grows3 O O' a b) (k : Grows3 O' O'' b c) : Grows3 O O'' a c :=
  ⟨h.kept.trans' k.kept fun i hi hG => by rw [← h.old i hi]; exact hG, fun i hi => (k.old i (Nat.lt_of_lt_of_le hi h.kept.size)).trans (h.old i hi)⟩
theorem Grows3.ofF {O : Nat → Nat} {a b : World} (k : Kept (fun _ => False) a b) : Grows3 O O a b := ⟨k.mono fun _ _ h => h.elim, fun _ _ => rfl⟩

theorem od_cell {w : World} {t o n cap k j : Nat} {xs : List Od} {d : Od} (h : SlAt w 31 5 (some ⟨t, o, none⟩) n cap (xs.flatMap odC)) (hn : n = xs.length) (hd : xs[k]? = some d) (hj : j < 5) : w.cell? ⟨t, o + (k * 5 + j), none⟩ = (odC d)[j]? := by
  have hk : k < xs.length := (List.getElem?_eq_some_iff.1 hd).1
  rw [h.cell (by omega), fm_get odC_len _ _ _ hj, hd]; rfl
theorem od_cells {w : World} {t o n cap k : Nat} {xs : List Od} {d : Od} (h : SlAt w 31 5 (some ⟨t, o, none⟩) n cap (xs.flatMap odC)) (hn : n = xs.length) (hd : xs[k]? = some d) :
    w.cell? ⟨t, o + k * 5, none⟩ = some (.int .i64 d.id) ∧ w.cell? ⟨t, o + k * 5 + 1, none⟩ = some (.int .i64 d.owner) ∧ w.cell? ⟨t, o + k * 5 + 2, none⟩ = some (.int .i64 d.side) ∧ w.cell? ⟨t, o + k * 5 + 3, none⟩ = some (.int .i64 d.net) ∧ w.cell? ⟨t, o + k * 5 + 4, none⟩ = some (.int .i64 d.units) :=
  ⟨od_cell h hn hd (j := 0) (by decide), od_cell h hn hd (j := 1) (by decide), od_cell h hn hd (j := 2) (by decide), od_cell h hn hd (j := 3) (by decide), od_cell h hn hd (j := 4) (by decide)⟩
theorem sl_some {w : World} {E size n cap : Nat} {p : Option Addr} {xs : List Value} (h : SlAt w E size p n cap xs) (hn : 0 < n) : ∃ t o, p = some ⟨t, o, none⟩ := by
  rcases h.2.2 with ⟨_, h2⟩ | ⟨t, o, arr, ha, _⟩
  · have := h.2.1; omega
  · exact ⟨t, o, ha⟩
theorem od_one (xs : List Od) : ∀ u ∈ xs.flatMap odC, u.oneCell' = true := by
  intro u hu
  obtain ⟨e, _, he⟩ := List.mem_flatMap.1 hu
  simp [odC] at he
  rcases he with rfl | rfl | rfl | rfl | rfl <;> rfl

/-- Where an order stands in a row. -/
def idxN (xs : List Od) (id : Int) : Option Nat := xs.findIdx? fun o => o.id == id
def idxI (xs : List Od) (id : Int) : Int := match idxN xs id with
  | some i => i
  | none => -1
theorem idxN_at {xs : List Od} {k : Nat} {d : Od} {id : Int} (h : ∀ o ∈ xs.take k, o.id ≠ id) (hd : xs[k]? = some d) (hi : d.id = id) : idxN xs id = some k := by
  obtain ⟨hk, rfl⟩ := List.getElem?_eq_some_iff.1 hd
  unfold idxN
  rw [List.findIdx?_eq_some_iff_getElem]
  refine ⟨hk, by simpa using hi, fun j hj => ?_⟩
  have := h xs[j] (List.mem_take_iff_getElem.2 ⟨j, by omega, rfl⟩)
  simpa using this
theorem idxN_none {xs : List Od} {id : Int} (h : ∀ o ∈ xs, o.id ≠ id) : idxN xs id = none := by
  unfold idxN
  rw [List.findIdx?_eq_none_iff]
  intro o ho
  simpa using h o ho
theorem idxN_some {xs : List Od} {id : Int} {k : Nat} (h : idxN xs id = some k) : ∃ d, xs[k]? = some d ∧ d.id = id ∧ k < xs.length := by
  unfold idxN at h
  obtain ⟨hk, h1, _⟩ := List.findIdx?_eq_some_iff_getElem.1 h
  exact ⟨xs[k], List.getElem?_eq_getElem hk, by simpa using h1, hk⟩
theorem idxN_not {xs : List Od} {id : Int} (h : idxN xs id = none) : ∀ o ∈ xs, o.id ≠ id := by
  unfold idxN at h
  rw [List.findIdx?_eq_none_iff] at h
  intro o ho
  simpa using h o ho
theorem take_not {xs : List Od} {k : Nat} {d : Od} {id : Int} (h : ∀ o ∈ xs.take k, o.id ≠ id) (hd : xs[k]? = some d) (hi : d.id ≠ id) : ∀ o ∈ xs.take (k + 1), o.id ≠ id := by
  intro o ho
  rw [List.take_add_one, hd] at ho
  rcases List.mem_append.1 ho with ho | ho
  · exact h o ho
  · simp at ho; rw [ho]; exact hi

def EqPost (v : Bool) (w : World) (e : Ending) (w' : World) : Prop := e = .returned (.bool v) ∧ Kept (fun _ => False) w w'
theorem is_any (d : Od) (q : Nat) (id : Int) (w : World) (hq : w.cell? ⟨q, 0, none⟩ = some (.int .i64 id)) :
    Calls Try.prog 44 #[.agg #[.int .i64 d.id, .int .i64 d.owner, .int .i64 d.side, .int .i64 d.net, .int .i64 d.units], .pointer (some ⟨q, 0, none⟩)] w (EqPost (d.id == id) w) := by
  have hlt := World.block_lt_of_cell? _ _ hq
  have hq' : ∀ o, (w.alloc o).cell? ⟨q, 0, none⟩ = some (.int .i64 id) := fun o => by rw [World.cell?_of_block (a := ⟨q, 0, none⟩) (w := w) (Below.heap_alloc _ _ _ hlt)]; exact hq
  have h1 := hq' (.cells #[.int .i64 d.id, .int .i64 d.owner, .int .i64 d.side, .int .i64 d.net, .int .i64 d.units] 31)
  clear hq'
  go_enter Try.func44, Try.ntmps44
  go_wp2
  go_ret
  exact ⟨rfl, (Kept.refl _ _).alloc _⟩

def IdxPost (xs : List Od) (id : Int) (w : World) (e : Ending) (w' : World) : Prop := e = .returned (.int .i64 (idxI xs id)) ∧ Kept (fun _ => False) w w'
def IdxRel (xs : List Od) (id : Int) (w : World) (iv : Value) (wr : World) : Prop := ∃ k : Nat, k ≤ xs.length ∧ iv = .int .i64 k ∧ (∀ o ∈ xs.take k, o.id ≠ id) ∧ Kept (fun _ => False) w wr
set_option maxHeartbeats 1000000 in
theorem idx_any (p : Option Addr) (cap : Nat) (xs : List Od) (q : Nat) (id : Int) (w : World) (h : SlAt w 31 5 p xs.length cap (xs.flatMap odC)) (hq : w.cell? ⟨q, 0, none⟩ = some (.int .i64 id)) (h256 : xs.length ≤ 256) :
    Calls Try.prog 43 #[.slice p xs.length cap, .func (.func 44) #[] #[.pointer (some ⟨q, 0, none⟩)]] w (IdxPost xs id w) := by
  have hlt := World.block_lt_of_cell? _ _ hq
  go_enter Try.func43, Try.ntmps43
  go_wp2
  have hstart : IdxRel xs id w (.int .i64 0) w := ⟨0, Nat.zero_le _, rfl, fun o ho => by simp at ho, Kept.refl _ _⟩
  go_loopw [8] (fun iv wr => IdxRel xs id w iv wr) (fun iv _ => xs.length - (intOf iv).toNat)
  case atStart => exact hstart
  case round =>
    obtain ⟨k, hk, rfl, hno, hkept⟩ := hrel
    clear hstart
    have Hno := Lib.hid hno
    clear hno
    by_cases hlt2 : k < xs.length
    · obtain ⟨t, o, rfl⟩ := sl_some h (by omega)
      have hr := h.kept (w' := wr) fun t ht => hkept.block _ (h.lt t ht) (fun h => h)
      have hd : xs[k]? = some xs[k] := List.getElem?_eq_getElem hlt2
      obtain ⟨x0, x1, x2, x3, x4⟩ := od_cells hr rfl hd
      have hqr : wr.cell? ⟨q, 0, none⟩ = some (.int .i64 id) := by rw [World.cell?_of_block (a := ⟨q, 0, none⟩) (w := w) (hkept.block q hlt (fun h => h))]; exact hq
      generalize xs[k] = d at hd x0 x1 x2 x3 x4
      have Hd := Lib.hid hd
      have Hqr := Lib.hid hqr
      have Hq := Lib.hid hq
      clear hd hr hqr hq
      by_cases hid : d.id = id
      · have hb : (d.id == id) = true := by simpa using hid
        have Hid' := Lib.hid hid
        clear hid
        go_wp2_with fail
        refine (is_any d q id _ Hqr.out).mono ?_
        rintro e w' ⟨rfl, hk'⟩
        go_wp2
        go_ret
        exact ⟨ret_int (by rw [idxI, idxN_at Hno.out Hd.out Hid'.out]), hkept.trans hk'⟩
      · have hb : (d.id == id) = false := by simpa using hid
        have Hid' : Hid (¬ d.id = id) := hid
        clear hid
        go_wp2_with fail
        refine (is_any d q id _ Hqr.out).mono ?_
        rintro e w' ⟨rfl, hk'⟩
        go_wp2
        exact ⟨⟨k + 1, by omega, by go_num, take_not Hno.out Hd.out Hid'.out, hkept.trans hk'⟩, by simp [intOf]; omega⟩
    · obtain rfl : k = xs.length := by omega
      go_wp2
      go_ret
      have := Hno.out
      rw [List.take_length] at this
      exact ⟨ret_int (by rw [idxI, idxN_none this]), hkept⟩
end Go.Proofs.Ytopfgcnehdjjpaa
