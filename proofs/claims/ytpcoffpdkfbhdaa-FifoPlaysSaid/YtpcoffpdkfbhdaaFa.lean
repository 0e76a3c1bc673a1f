/- The words of an arena: as values, and in memory. -/
import Derived.Test.YtpcoffpdkfbhdaaSl
namespace Go.Proofs.Ytpcoffpdkfbhdaa
open Go.RowKit

structure Cl where
  v : Int
  row : Int
  prev : Int
  next : Int
structure En where
  first : Int
  last : Int
  n : Int
structure Ar where
  N : Nat
  R : Nat
  cell : Nat → Cl
  ends : Nat → En
  freed : List Int
  fresh : Int

def fldC (c : Cl) : Nat → Int
  | 0 => c.v
  | 1 => c.row
  | 2 => c.prev
  | _ => c.next
def fldE (c : En) : Nat → Int
  | 0 => c.first
  | 1 => c.last
  | _ => c.n
def flatC (f : Nat → Cl) (j : Nat) : Value := .int .i64 (fldC (f (j / 4)) (j % 4))
def flatE (f : Nat → En) (j : Nat) : Value := .int .i64 (fldE (f (j / 3)) (j % 3))

theorem flatC_at (f : Nat → Cl) (i k : Nat) (hk : k < 4) : flatC f (i * 4 + k) = .int .i64 (fldC (f i) k) := by
  unfold flatC
  rw [show (i * 4 + k) / 4 = i by omega, show (i * 4 + k) % 4 = k by omega]
theorem flatE_at (f : Nat → En) (i k : Nat) (hk : k < 3) : flatE f (i * 3 + k) = .int .i64 (fldE (f i) k) := by
  unfold flatE
  rw [show (i * 3 + k) / 3 = i by omega, show (i * 3 + k) % 3 = k by omega]

/-- A store into field k of element i. -/
theorem flatC_put (f : Nat → Cl) (i k : Nat) (hk : k < 4) (x : Int) (c : Cl) (hc : ∀ m, m < 4 → fldC c m = if m = k then x else fldC (f i) m) : upd (flatC f) (i * 4 + k) (.int .i64 x) = flatC (upd f i c) := by
  funext j
  by_cases e : j = i * 4 + k
  · subst e
    rw [upd_same, flatC_at _ _ _ hk, upd_same, hc k hk, if_pos rfl]
  · rw [upd_other _ _ e]
    unfold flatC
    by_cases e2 : j / 4 = i
    · rw [e2, upd_same, hc (j % 4) (by omega), if_neg (by omega)]
    · rw [upd_other _ _ e2]
theorem flatE_put (f : Nat → En) (i k : Nat) (hk : k < 3) (x : Int) (c : En) (hc : ∀ m, m < 3 → fldE c m = if m = k then x else fldE (f i) m) : upd (flatE f) (i * 3 + k) (.int .i64 x) = flatE (upd f i c) := by
  funext j
  by_cases e : j = i * 3 + k
  · subst e
    rw [upd_same, flatE_at _ _ _ hk, upd_same, hc k hk, if_pos rfl]
  · rw [upd_other _ _ e]
    unfold flatE
    by_cases e2 : j / 3 = i
    · rw [e2, upd_same, hc (j % 3) (by omega), if_neg (by omega)]
    · rw [upd_other _ _ e2]
theorem upd_upd {α β : Type} [DecidableEq α] (f : α → β) (a : α) (x y : β) : upd (upd f a x) a y = upd f a y := by
  funext i; unfold upd; split <;> rfl
theorem upd_self {α β : Type} [DecidableEq α] (f : α → β) (a : α) : upd f a (f a) = f := by
  funext i; unfold upd; split <;> simp_all

/-- The arena at block a: its cells in block bc, its rows' ends in block br, its freed cells at fa. -/
structure ArAt (w : World) (a bc br : Nat) (fa : Option Addr) (fc : Nat) (S : Ar) (O : Nat → Bool) : Prop where
  st : w.heap[a]? = some (.cells #[.slice (some ⟨bc, 0, none⟩) S.N S.N, .slice (some ⟨br, 0, none⟩) S.R S.R, .slice fa S.freed.length fc, .int .i64 S.fresh] 58 (0, 0))
  cs : FlatAt w bc 52 (S.N * 4) (flatC S.cell)
  rs : FlatAt w br 56 (S.R * 3) (flatE S.ends)
  fr : SlAt w 3 1 fa S.freed.length fc (S.freed.map (Value.int .i64))
  oa : O a = true
  oc : O bc = true
  or : O br = true
  ofr : ∀ t, fa = some t → O t.block = true
  new : ∀ i, w.heap.size ≤ i → O i = false
  bn : S.N ≤ 4096
  br' : S.R ≤ 1024
  bf : 0 ≤ S.fresh ∧ S.fresh ≤ S.N
  bl : S.freed.length ≤ 4096

/-- The same arena where its blocks are as they were. -/
theorem ArAt.same {w w' : World} {a bc br fc : Nat} {fa : Option Addr} {S : Ar} {O O' : Nat → Bool} (h : ArAt w a bc br fa fc S O) (hw : ∀ i, i < w.heap.size → O i = true → w'.heap[i]? = w.heap[i]?)
    (hO : ∀ i, i < w.heap.size → O' i = O i) (hn : ∀ i, w'.heap.size ≤ i → O' i = false) : ArAt w' a bc br fa fc S O' :=
  have la := lt_of_block h.st
  ⟨(hw a la h.oa).trans h.st, h.cs.kept (hw _ h.cs.lt h.oc), h.rs.kept (hw _ h.rs.lt h.or), h.fr.kept fun t ht => hw _ (h.fr.lt t ht) (h.ofr t ht),
   (hO a la).trans h.oa, (hO _ h.cs.lt).trans h.oc, (hO _ h.rs.lt).trans h.or, fun t ht => (hO _ (h.fr.lt t ht)).trans (h.ofr t ht), hn, h.bn, h.br', h.bf, h.bl⟩
theorem ArAt.drewN {w : World} {a bc br fc : Nat} {fa : Option Addr} {S : Ar} {O : Nat → Bool} (h : ArAt w a bc br fa fc S O) (q : Nat) : ArAt (w.drewN q) a bc br fa fc S O :=
  h.same (fun _ _ _ => rfl) (fun _ _ => rfl) h.new
theorem ArAt.drew {w : World} {a bc br fc : Nat} {fa : Option Addr} {S : Ar} {O : Nat → Bool} (h : ArAt w a bc br fa fc S O) : ArAt w.drew a bc br fa fc S O :=
  h.same (fun _ _ _ => rfl) (fun _ _ => rfl) h.new

def Ar.inB (S : Ar) (row : Int) : Bool := decide (0 ≤ row) && decide (row < S.R)
def Ar.takenB (S : Ar) (c : Int) : Bool := decide (0 ≤ c) && decide (c < S.N) && ((S.cell c.toNat).row != -1)
def toldI (c : Int) : Int := if c = -1 then 0 else c
def toldB (c : Int) : Bool := c != -1
def Ar.frontI (S : Ar) (row : Int) : Int := if S.inB row = true then toldI (S.ends row.toNat).first else 0
def Ar.frontB (S : Ar) (row : Int) : Bool := S.inB row && toldB (S.ends row.toNat).first
def Ar.nextI (S : Ar) (c : Int) : Int := if S.takenB c = true then toldI (S.cell c.toNat).next else 0
def Ar.nextB (S : Ar) (c : Int) : Bool := S.takenB c && toldB (S.cell c.toNat).next
def Ar.valI (S : Ar) (c : Int) : Int := if S.takenB c = true then (S.cell c.toNat).v else 0
def Ar.lenI (S : Ar) (row : Int) : Int := if S.inB row = true then (S.ends row.toNat).n else 0
def Ar.freeI (S : Ar) : Int := S.N - S.fresh + S.freed.length

theorem FlatAt.ne_sl {w : World} {b n E E' size len cap : Nat} {g : Nat → Value} {t : Addr} {xs : List Value} (h : FlatAt w b E n g) (h' : SlAt w E' size (some t) len cap xs) (hE : E ≠ E') : b ≠ t.block := by
  rcases h'.2.2 with ⟨h2, _⟩ | ⟨t', o, arr, ha, hb, _⟩
  · cases h2
  · cases ha; exact h.ne_block hb hE
theorem SlAt.ne_block {w : World} {b E E' size len cap : Nat} {t : Addr} {xs : List Value} {cs : Array Value} {f : Nat × Nat} (h' : SlAt w E' size (some t) len cap xs) (h : w.heap[b]? = some (.cells cs E f)) (hE : E ≠ E') : t.block ≠ b := by
  rcases h'.2.2 with ⟨h2, _⟩ | ⟨t', o, arr, ha, hb, _⟩
  · cases h2
  · cases ha
    intro e
    have e' : t' = b := e
    rw [e', h] at hb; cases hb; exact hE rfl

/-- The struct's block, and the freed cells, laid anew. -/
theorem ArAt.setSt {w w' : World} {a bc br fc fc' : Nat} {fa fa' : Option Addr} {S : Ar} {O O' : Nat → Bool} {freed' : List Int} {fresh' : Int} (h : ArAt w a bc br fa fc S O)
    (hst : w'.heap[a]? = some (.cells #[.slice (some ⟨bc, 0, none⟩) S.N S.N, .slice (some ⟨br, 0, none⟩) S.R S.R, .slice fa' freed'.length fc', .int .i64 fresh'] 58 (0, 0)))
    (hne : ∀ i, i < w.heap.size → i ≠ a → (∀ t, fa = some t → i ≠ t.block) → w'.heap[i]? = w.heap[i]?) (hfr : SlAt w' 3 1 fa' freed'.length fc' (freed'.map (Value.int .i64)))
    (hofr : ∀ t, fa' = some t → O' t.block = true) (hO : ∀ i, i < w.heap.size → O' i = O i) (hn : ∀ i, w'.heap.size ≤ i → O' i = false) (bf : 0 ≤ fresh' ∧ fresh' ≤ S.N) (bl : freed'.length ≤ 4096) :
    ArAt w' a bc br fa' fc' { S with freed := freed', fresh := fresh' } O' := by
  have la := lt_of_block h.st
  refine ⟨hst, h.cs.kept (hne _ h.cs.lt (h.cs.ne_block h.st (by decide)) fun t ht => ?_), h.rs.kept (hne _ h.rs.lt (h.rs.ne_block h.st (by decide)) fun t ht => ?_), hfr, (hO a la).trans h.oa, (hO _ h.cs.lt).trans h.oc, (hO _ h.rs.lt).trans h.or, hofr, hn, h.bn, h.br', bf, bl⟩
  · have := h.fr; rw [ht] at this; exact h.cs.ne_sl this (by decide)
  · have := h.fr; rw [ht] at this; exact h.rs.ne_sl this (by decide)

/-- A store into field k of cell i. -/
theorem ArAt.storeC {w : World} {a bc br fc : Nat} {fa : Option Addr} {S : Ar} {O : Nat → Bool} (h : ArAt w a bc br fa fc S O) {i k : Nat} (hi : i < S.N) (hk : k < 4) (x : Int) (c : Cl) (hc : ∀ m, m < 4 → fldC c m = if m = k then x else fldC (S.cell i) m) :
    ArAt (w.setCell ⟨bc, i * 4 + k, none⟩ (.int .i64 x)) a bc br fa fc { S with cell := upd S.cell i c } O := by
  have hne : ∀ j, j ≠ bc → (w.setCell ⟨bc, i * 4 + k, none⟩ (.int .i64 x)).heap[j]? = w.heap[j]? := fun j hj => Below.heap_setCell _ _ _ _ hj
  refine ⟨(hne _ (h.cs.ne_block h.st (by decide)).symm).trans h.st, ?_, h.rs.kept (hne _ (h.rs.ne h.cs (by decide))), h.fr.kept fun t ht => hne _ ?_, h.oa, h.oc, h.or, h.ofr, fun j hj => h.new j (by simpa using hj), h.bn, h.br', h.bf, h.bl⟩
  · have := h.cs.put (j := i * 4 + k) (by omega) (.int .i64 x)
    rwa [flatC_put _ _ _ hk _ c hc] at this
  · have := h.fr; rw [ht] at this; exact (h.cs.ne_sl this (by decide)).symm
theorem ArAt.storeE {w : World} {a bc br fc : Nat} {fa : Option Addr} {S : Ar} {O : Nat → Bool} (h : ArAt w a bc br fa fc S O) {i k : Nat} (hi : i < S.R) (hk : k < 3) (x : Int) (c : En) (hc : ∀ m, m < 3 → fldE c m = if m = k then x else fldE (S.ends i) m) :
    ArAt (w.setCell ⟨br, i * 3 + k, none⟩ (.int .i64 x)) a bc br fa fc { S with ends := upd S.ends i c } O := by
  have hne : ∀ j, j ≠ br → (w.setCell ⟨br, i * 3 + k, none⟩ (.int .i64 x)).heap[j]? = w.heap[j]? := fun j hj => Below.heap_setCell _ _ _ _ hj
  refine ⟨(hne _ (h.rs.ne_block h.st (by decide)).symm).trans h.st, h.cs.kept (hne _ (h.cs.ne h.rs (by decide))), ?_, h.fr.kept fun t ht => hne _ ?_, h.oa, h.oc, h.or, h.ofr, fun j hj => h.new j (by simpa using hj), h.bn, h.br', h.bf, h.bl⟩
  · have := h.rs.put (j := i * 3 + k) (by omega) (.int .i64 x)
    rwa [flatE_put _ _ _ hk _ c hc] at this
  · have := h.fr; rw [ht] at this; exact (h.rs.ne_sl this (by decide)).symm
theorem ArAt.storeC4 {w : World} {a bc br fc : Nat} {fa : Option Addr} {S : Ar} {O : Nat → Bool} (h : ArAt w a bc br fa fc S O) {i : Nat} (hi : i < S.N) (c : Cl) :
    ArAt ((((w.setCell ⟨bc, i * 4, none⟩ (.int .i64 c.v)).setCell ⟨bc, i * 4 + 1, none⟩ (.int .i64 c.row)).setCell ⟨bc, i * 4 + 2, none⟩ (.int .i64 c.prev)).setCell ⟨bc, i * 4 + 3, none⟩ (.int .i64 c.next)) a bc br fa fc { S with cell := upd S.cell i c } O := by
  have h1 := h.storeC hi (k := 0) (by decide) c.v ⟨c.v, (S.cell i).row, (S.cell i).prev, (S.cell i).next⟩ (fun m hm => by match m, hm with | 0, _ | 1, _ | 2, _ | 3, _ => rfl)
  have h2 := h1.storeC hi (k := 1) (by decide) c.row ⟨c.v, c.row, (S.cell i).prev, (S.cell i).next⟩ (fun m hm => by simp only [upd_same]; match m, hm with | 0, _ | 1, _ | 2, _ | 3, _ => rfl)
  have h3 := h2.storeC hi (k := 2) (by decide) c.prev ⟨c.v, c.row, c.prev, (S.cell i).next⟩ (fun m hm => by simp only [upd_same]; match m, hm with | 0, _ | 1, _ | 2, _ | 3, _ => rfl)
  have h4 := h3.storeC hi (k := 3) (by decide) c.next c (fun m hm => by simp only [upd_same]; match m, hm with | 0, _ | 1, _ | 2, _ | 3, _ => rfl)
  simpa only [upd_upd, Nat.add_zero] using h4
theorem ArAt.storeE3 {w : World} {a bc br fc : Nat} {fa : Option Addr} {S : Ar} {O : Nat → Bool} (h : ArAt w a bc br fa fc S O) {i : Nat} (hi : i < S.R) (c : En) :
    ArAt (((w.setCell ⟨br, i * 3, none⟩ (.int .i64 c.first)).setCell ⟨br, i * 3 + 1, none⟩ (.int .i64 c.last)).setCell ⟨br, i * 3 + 2, none⟩ (.int .i64 c.n)) a bc br fa fc { S with ends := upd S.ends i c } O := by
  have h1 := h.storeE hi (k := 0) (by decide) c.first ⟨c.first, (S.ends i).last, (S.ends i).n⟩ (fun m hm => by match m, hm with | 0, _ | 1, _ | 2, _ => rfl)
  have h2 := h1.storeE hi (k := 1) (by decide) c.last ⟨c.first, c.last, (S.ends i).n⟩ (fun m hm => by simp only [upd_same]; match m, hm with | 0, _ | 1, _ | 2, _ => rfl)
  have h3 := h2.storeE hi (k := 2) (by decide) c.n c (fun m hm => by simp only [upd_same]; match m, hm with | 0, _ | 1, _ | 2, _ => rfl)
  simpa only [upd_upd, Nat.add_zero] using h3
theorem ArAt.storeE2 {w : World} {a bc br fc : Nat} {fa : Option Addr} {S : Ar} {O : Nat → Bool} (h : ArAt w a bc br fa fc S O) {i : Nat} (hi : i < S.R) (c : En) (hc : c.first = (S.ends i).first) :
    ArAt ((w.setCell ⟨br, i * 3 + 1, none⟩ (.int .i64 c.last)).setCell ⟨br, i * 3 + 2, none⟩ (.int .i64 c.n)) a bc br fa fc { S with ends := upd S.ends i c } O := by
  have h2 := h.storeE hi (k := 1) (by decide) c.last ⟨(S.ends i).first, c.last, (S.ends i).n⟩ (fun m hm => by match m, hm with | 0, _ | 1, _ | 2, _ => rfl)
  have h3 := h2.storeE hi (k := 2) (by decide) c.n c (fun m hm => by simp only [upd_same]; match m, hm with | 0, _ => exact hc | 1, _ | 2, _ => rfl)
  simpa only [upd_upd, Nat.add_zero] using h3
theorem Grows.setCell {O O' : Nat → Bool} {a w : World} (h : Grows O O' a w) {p : Addr} (hp : O p.block = true) (u : Value) : Grows O O' a (w.setCell p u) := ⟨h.kept.setCell (fun _ => hp) u, h.old⟩
end Go.Proofs.Ytpcoffpdkfbhdaa
