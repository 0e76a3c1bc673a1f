/- The play: its words; what a call keeps of it. -/
import Derived.Test.YtpcoffpdkfbhdaaFk
import Derived.Test.YtpcoffpdkfbhdaaFi
import Derived.Test.YtpcoffpdkfbhdaaRo
namespace Go.Proofs.Ytpcoffpdkfbhdaa
open Go.RowKit

def entC (e : Ent) : List Value := [.int .i64 e.at_, .int .i64 e.row, .int .i64 e.v]
def intC (n : Nat) : Value := .int .i64 n
structure Ac where
  op : Int
  row : Int
  cell : Int
  v : Int

theorem Fr.grows {E size : Nat} {xs : List Value} {w0 w w' : World} {p : Option Addr} {n cap : Nat} {O O' : Nat → Bool} (h : Fr E size xs w0 p n cap w) (g : Grows O O' w w') (hO : ∀ t, p = some t → O t.block = false)
    (lo : ∀ i, i < w0.heap.size → O i = false) : Fr E size xs w0 p n cap w' ∧ ∀ t, p = some t → O' t.block = false :=
  ⟨⟨h.sl.kept fun t ht => g.kept.block _ (h.sl.lt t ht) (fun hG => by rw [hO t ht] at hG; cases hG), h.k.trans' (G := fun i => O i = true) g.kept (fun i hi hG => by rw [lo i hi] at hG; cases hG), h.nw⟩,
   fun t ht => (g.old _ (h.sl.lt t ht)).trans (hO t ht)⟩
theorem ArAt.keptF {w w' : World} {a bc br fc : Nat} {fa : Option Addr} {S : Ar} {O : Nat → Bool} (h : ArAt w a bc br fa fc S O) (k : Kept (fun _ => False) w w') : ArAt w' a bc br fa fc S O :=
  h.same (fun i hi _ => k.block i hi (fun h => h)) (fun _ _ => rfl) (fun i hi => h.new i (Nat.le_trans k.size hi))
/-- .. where another slice's block has turned. -/
theorem ArAt.grownF {w w' : World} {a bc br fc : Nat} {fa : Option Addr} {S : Ar} {O : Nat → Bool} (h : ArAt w a bc br fa fc S O) {p : Option Addr} (hO : ∀ t, p = some t → O t.block = false) (g : w.grownBy w' (p.map (·.block))) : ArAt w' a bc br fa fc S O :=
  h.same (fun i hi ho => g.block i hi (fun e => by
    cases hp : p with
    | none => rw [hp] at e; cases e
    | some t =>
      rw [hp] at e
      have he : i = t.block := by simpa using e
      rw [he, hO t hp] at ho; cases ho)) (fun _ _ => rfl) (fun i hi => h.new i (Nat.le_trans g.size hi))
theorem SlAt.ne_sl {w : World} {E E' size size' len cap len' cap' : Nat} {t t' : Addr} {xs xs' : List Value} (h : SlAt w E size (some t) len cap xs) (h' : SlAt w E' size' (some t') len' cap' xs') (hE : E ≠ E') : t.block ≠ t'.block := by
  rcases h'.2.2 with ⟨h2, _⟩ | ⟨b, o, arr, ha, hb, _⟩
  · cases h2
  · cases ha; exact h.ne_block hb (fun e => hE e.symm)
theorem Fr.apart {E E' size size' : Nat} {xs ys : List Value} {w0 w w' : World} {p p' : Option Addr} {n cap n' cap' : Nat} (h : Fr E size xs w0 p n cap w) (h' : Fr E' size' ys w0 p' n' cap' w) (hE : E ≠ E') (g : w.grownBy w' (p'.map (·.block))) : Fr E size xs w0 p n cap w' := by
  have hk : ∀ i, i < w.heap.size → (∀ t, p' = some t → i ≠ t.block) → w'.heap[i]? = w.heap[i]? := fun i hi hne => g.block i hi (fun e => by
    cases hp : p' with
    | none => rw [hp] at e; cases e
    | some t => rw [hp] at e; exact hne t hp (by simpa using e))
  refine ⟨h.sl.kept fun t ht => hk _ (h.sl.lt t ht) fun t' ht' e => ?_, h.k.trans' (G := fun j => ∃ t, p' = some t ∧ j = t.block) ⟨g.os, g.tape, g.output, g.size, fun i hi hG => hk i hi fun t ht e => hG ⟨t, ht, e⟩⟩ (fun i hi ⟨t, ht, e⟩ => ?_), h.nw⟩
  · have h1 := h.sl; have h2 := h'.sl
    rw [ht] at h1; rw [ht'] at h2
    exact SlAt.ne_sl h1 h2 hE e
  · have := h'.nw t ht; omega

/-- The play, as far as it has come: the arena, the entries, the cells that are free again. -/
structure Play (w0 : World) (a bc br N R : Nat) (m : List Ent) (free : List Nat) (next : Nat) (pm : Option Addr) (cm : Nat) (pf : Option Addr) (cf : Nat) (S : Ar) (fa : Option Addr) (fc : Nat) (O : Nat → Bool) (w : World) : Prop where
  ar : ArAt w a bc br fa fc S O
  inv : Inv S m free next
  N : S.N = N
  R : S.R = R
  m : Fr 35 3 (m.flatMap entC) w0 pm m.length cm w
  f : Fr 3 1 (free.map intC) w0 pf free.length cf w
  om : ∀ t, pm = some t → O t.block = false
  of : ∀ t, pf = some t → O t.block = false
  lo : ∀ i, i < w0.heap.size → O i = false
theorem Play.kept {w0 w w' : World} {a bc br N R next cm cf fc : Nat} {m : List Ent} {free : List Nat} {pm pf fa : Option Addr} {S : Ar} {O : Nat → Bool} (h : Play w0 a bc br N R m free next pm cm pf cf S fa fc O w) (k : Kept (fun _ => False) w w') :
    Play w0 a bc br N R m free next pm cm pf cf S fa fc O w' := ⟨h.ar.keptF k, h.inv, h.N, h.R, h.m.mono k, h.f.mono k, h.om, h.of, h.lo⟩

def PlayRel (w0 : World) (a bc br N R len : Nat) (mv fv nv iv : Value) (w : World) : Prop :=
  ∃ (k : Nat) (m : List Ent) (free : List Nat) (next : Nat) (pm : Option Addr) (cm : Nat) (pf : Option Addr) (cf : Nat) (S : Ar) (fa : Option Addr) (fc : Nat) (O : Nat → Bool),
    k ≤ len ∧ mv = .slice pm m.length cm ∧ fv = .slice pf free.length cf ∧ nv = .int .i64 next ∧ iv = .int .i64 k ∧ Play w0 a bc br N R m free next pm cm pf cf S fa fc O w

/-- The search for an entry by its cell. -/
def Found (m : List Ent) (j : Nat) (c : Int) (kk : Int) : Prop := (kk = -1 ∧ ∀ e ∈ m.take j, c ≠ e.at_) ∨ ∃ (i : Nat) (e : Ent), kk = i ∧ i < j ∧ m[i]? = some e ∧ (e.at_ : Int) = c
def Srch (m : List Ent) (c : Int) (W : World) (kv jv : Value) (w : World) : Prop :=
  ∃ (j q : Nat) (kk : Int), j ≤ m.length ∧ jv = .int .i64 j ∧ kv = .int .i64 kk ∧ w = W.drewN q ∧ Found m j c kk
theorem Found.start (m : List Ent) (c : Int) : Found m 0 c (-1) := .inl ⟨rfl, fun e he => by simp at he⟩
theorem Found.no {m : List Ent} {j : Nat} {c kk : Int} {e : Ent} (h : Found m j c kk) (he : m[j]? = some e) (hne : (e.at_ : Int) ≠ c) : Found m (j + 1) c kk := by
  rcases h with ⟨h1, h2⟩ | ⟨i, e', h1, h2, h3, h4⟩
  · refine .inl ⟨h1, fun e' he' => ?_⟩
    rw [List.take_add_one, he] at he'
    rcases List.mem_append.1 he' with h | h
    · exact h2 e' h
    · simp at h; subst h; exact fun e => hne e.symm
  · exact .inr ⟨i, e', h1, by omega, h3, h4⟩
theorem Found.yes {m : List Ent} {j : Nat} {c : Int} {e : Ent} (he : m[j]? = some e) (heq : (e.at_ : Int) = c) : Found m (j + 1) c j := .inr ⟨j, e, rfl, by omega, he, heq⟩

theorem LinkFrom.suffix {S : Ar} : ∀ {x : Int} (l1 : List Nat) {l2 : List Nat}, LinkFrom S x (l1 ++ l2) → ∃ y, LinkFrom S y l2
  | x, [], _, h => ⟨x, h⟩
  | _, _ :: l1, _, h => LinkFrom.suffix l1 h.2.2.2
theorem rowOf_split (m : List Ent) (j r : Nat) : rowOf m r = rowOf (m.take j) r ++ rowOf (m.drop j) r := by rw [← rowOf_append, List.take_append_drop]
theorem rowOf_drop_yes {m : List Ent} {j r : Nat} {e : Ent} (he : m[j]? = some e) (hr : e.row = r) : rowOf (m.drop j) r = e.at_ :: rowOf (m.drop (j + 1)) r ∧ (rowOf (m.take (j + 1)) r).length = (rowOf (m.take j) r).length + 1 := by
  have hj : j < m.length := (List.getElem?_eq_some_iff.1 he).1
  have h1 : m.drop j = e :: m.drop (j + 1) := by
    rw [List.drop_eq_getElem_cons hj]; congr 1
    exact (List.getElem?_eq_some_iff.1 he).2
  constructor
  · rw [h1]; unfold rowOf; simp [hr]
  · rw [List.take_add_one, he]; unfold rowOf; simp [hr]
theorem rowOf_drop_no {m : List Ent} {j r : Nat} {e : Ent} (he : m[j]? = some e) (hr : e.row ≠ r) : rowOf (m.drop j) r = rowOf (m.drop (j + 1)) r ∧ (rowOf (m.take (j + 1)) r).length = (rowOf (m.take j) r).length := by
  have hj : j < m.length := (List.getElem?_eq_some_iff.1 he).1
  have h1 : m.drop j = e :: m.drop (j + 1) := by
    rw [List.drop_eq_getElem_cons hj]; congr 1
    exact (List.getElem?_eq_some_iff.1 he).2
  constructor
  · rw [h1]; unfold rowOf; simp [hr]
  · rw [List.take_add_one, he]; unfold rowOf; simp [hr]

/-- One row, looked through beside the entries. -/
def Side (m : List Ent) (r : Nat) (W : World) (nv av ov jv : Value) (w : World) : Prop :=
  ∃ (j q : Nat), j ≤ m.length ∧ jv = .int .i64 j ∧ nv = .int .i64 (rowOf (m.take j) r).length ∧ At (rowOf (m.drop j) r) av ov ∧ w = W.drewN q
def Rows (W : World) (R : Nat) (rv : Value) (w : World) : Prop := ∃ r : Nat, r ≤ R ∧ rv = .int .i64 r ∧ Kept (fun _ => False) W w

theorem entC_len (e : Ent) : (entC e).length = 3 := rfl
theorem ent_cell {w w0 : World} {m : List Ent} {t o cm j k : Nat} {e : Ent} (h : Fr 35 3 (m.flatMap entC) w0 (some ⟨t, o, none⟩) m.length cm w) (he : m[j]? = some e) (hk : k < 3) : w.cell? ⟨t, o + (j * 3 + k), none⟩ = (entC e)[k]? := by
  have hj : j < m.length := (List.getElem?_eq_some_iff.1 he).1
  rw [h.sl.cell (by omega), fm_get entC_len _ _ _ hk, he]; rfl
theorem ent_some {w w0 : World} {m : List Ent} {pm : Option Addr} {cm : Nat} (h : Fr 35 3 (m.flatMap entC) w0 pm m.length cm w) (hm : 0 < m.length) : ∃ t o, pm = some ⟨t, o, none⟩ := by
  rcases h.sl.2.2 with ⟨_, h2⟩ | ⟨t, o, arr, ha, _⟩
  · have := h.sl.2.1; omega
  · exact ⟨t, o, ha⟩
theorem free_some {w w0 : World} {free : List Nat} {pf : Option Addr} {cf : Nat} (h : Fr 3 1 (free.map intC) w0 pf free.length cf w) (hm : 0 < free.length) : ∃ t o, pf = some ⟨t, o, none⟩ := by
  rcases h.sl.2.2 with ⟨_, h2⟩ | ⟨t, o, arr, ha, _⟩
  · have := h.sl.2.1; omega
  · exact ⟨t, o, ha⟩
theorem ent_one (m : List Ent) : ∀ u ∈ m.flatMap entC, u.oneCell' = true := by
  intro u hu
  obtain ⟨e, _, he⟩ := List.mem_flatMap.1 hu
  simp [entC] at he
  rcases he with rfl | rfl | rfl <;> rfl
theorem int_one (l : List Nat) : ∀ u ∈ l.map intC, u.oneCell' = true := by
  intro u hu
  obtain ⟨e, _, rfl⟩ := List.mem_map.1 hu
  rfl
theorem Try.info35' : (Try.prog.info? 35).map (fun i => (i.zero, i.size, i.bytes)) = some (some (.agg #[.int .i64 0, .int .i64 0, .int .i64 0]), 3, 24) := by kernel_rfl

def boxOf (x : Ac) : Obj := .cells #[.int .i64 x.op, .int .i64 x.row, .int .i64 x.cell, .int .i64 x.v] 31 (0, 0)
/-- A value has been put; its cell is named, the free ones are told anew. -/
def MidP (w0 : World) (a bc br : Nat) (S' : Ar) (O : Nat → Bool) (xb : Nat) (x : Ac) (m : List Ent) (pm : Option Addr) (cm : Nat) (c : Nat) (free' : List Nat) (next' : Nat) (atv fv nv : Value) (w : World) : Prop :=
  ∃ (pf : Option Addr) (cf : Nat) (fa : Option Addr) (fc : Nat), atv = .int .i64 c ∧ fv = .slice pf free'.length cf ∧ nv = .int .i64 next' ∧ ArAt w a bc br fa fc S' O ∧ w.heap[xb]? = some (boxOf x) ∧
    Fr 35 3 (m.flatMap entC) w0 pm m.length cm w ∧ Fr 3 1 (free'.map intC) w0 pf free'.length cf w ∧ ∀ t, pf = some t → O t.block = false
def MidM (w0 : World) (a bc br : Nat) (S' : Ar) (O : Nat → Bool) (m' : List Ent) (free' : List Nat) (pf : Option Addr) (cf : Nat) (mv : Value) (w : World) : Prop :=
  ∃ (pm : Option Addr) (cm : Nat) (fa : Option Addr) (fc : Nat), mv = .slice pm m'.length cm ∧ ArAt w a bc br fa fc S' O ∧
    Fr 35 3 (m'.flatMap entC) w0 pm m'.length cm w ∧ Fr 3 1 (free'.map intC) w0 pf free'.length cf w ∧ ∀ t, pm = some t → O t.block = false
theorem MidM.of {w0 wc w w2 : World} {a bc br : Nat} {S' : Ar} {O : Nat → Bool} {m m' : List Ent} {free' : List Nat} {pm pm' pf fa : Option Addr} {cm cm' cf fc : Nat} (hA : ArAt wc a bc br fa fc S' O) (hm : Fr 35 3 (m.flatMap entC) w0 pm m.length cm wc)
    (hf : Fr 3 1 (free'.map intC) w0 pf free'.length cf wc) {n' : Nat} {cs : List Value} (h2 : Fr 35 3 cs wc pm' n' cm' w2) (hk : Kept (fun _ => False) w2 w) (hn : n' = m'.length) (hcs : cs = m'.flatMap entC) :
    MidM w0 a bc br S' O m' free' pf cf (.slice pm' n' cm') w := by
  subst hn hcs
  have k := h2.k.trans hk
  exact ⟨pm', cm', fa, fc, rfl, hA.keptF k, (h2.mono hk).from hm.k, hf.mono k, fun t ht => hA.new _ (h2.nw t ht)⟩
theorem box_S {W : World} {xb : Nat} {x : Ac} (h : W.heap[xb]? = some (boxOf x)) : W.cell? ⟨xb, 1, none⟩ = some (.int .i64 x.row) ∧ W.cell? ⟨xb, 3, none⟩ = some (.int .i64 x.v) :=
  ⟨by rw [cell_of_block h]; rfl, by rw [cell_of_block h]; rfl⟩
end Go.Proofs.Ytpcoffpdkfbhdaa
