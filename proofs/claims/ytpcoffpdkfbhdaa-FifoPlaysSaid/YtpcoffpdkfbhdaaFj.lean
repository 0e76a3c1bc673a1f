/- Plain laws of the arena: what its cells say of rows of values, and how a value put or taken out turns that. -/
import Derived.Test.YtpcoffpdkfbhdaaFh
namespace Go.Proofs.Ytpcoffpdkfbhdaa
open Go.RowKit

def hdI : List Nat → Int → Int
  | [], q => q
  | i :: _, _ => i
def lsI (p : Int) : List Nat → Int
  | [] => p
  | i :: l => lsI i l

/-- The cells of l are linked one to the other in row r, from p to q. -/
def Seg (cell : Nat → Cl) (N : Nat) (r : Int) : Int → List Nat → Int → Prop
  | _, [], _ => True
  | p, i :: l, q => i < N ∧ (cell i).row = r ∧ (cell i).prev = p ∧ (cell i).next = hdI l q ∧ Seg cell N r i l q

theorem hdI_append (l1 l2 : List Nat) (q : Int) : hdI (l1 ++ l2) q = hdI l1 (hdI l2 q) := by cases l1 <;> rfl
theorem lsI_append (p : Int) : ∀ (l1 l2 : List Nat), lsI p (l1 ++ l2) = lsI (lsI p l1) l2
  | [], _ => rfl
  | i :: l1, l2 => lsI_append i l1 l2
theorem Seg.append {cell : Nat → Cl} {N : Nat} {r : Int} : ∀ {p q : Int} {l1 l2 : List Nat}, Seg cell N r p (l1 ++ l2) q ↔ Seg cell N r p l1 (hdI l2 q) ∧ Seg cell N r (lsI p l1) l2 q
  | p, q, [], l2 => ⟨fun h => ⟨trivial, h⟩, fun h => h.2⟩
  | p, q, i :: l1, l2 => by
    simp only [List.cons_append, Seg, lsI, hdI_append]
    rw [Seg.append (p := i) (l1 := l1)]
    constructor
    · rintro ⟨a, b, c, d, e, f⟩; exact ⟨⟨a, b, c, d, e⟩, f⟩
    · rintro ⟨⟨a, b, c, d, e⟩, f⟩; exact ⟨a, b, c, d, e, f⟩
theorem Seg.congr {cell cell' : Nat → Cl} {N : Nat} {r : Int} : ∀ {p q : Int} {l : List Nat}, Seg cell N r p l q → (∀ i ∈ l, cell' i = cell i) → Seg cell' N r p l q
  | _, _, [], _, _ => trivial
  | p, q, i :: l, ⟨a, b, c, d, e⟩, h => by
    have hi := h i (List.mem_cons_self ..)
    exact ⟨a, by rw [hi]; exact b, by rw [hi]; exact c, by rw [hi]; exact d, e.congr fun j hj => h j (List.mem_cons_of_mem _ hj)⟩
theorem Seg.mem {cell : Nat → Cl} {N : Nat} {r : Int} : ∀ {p q : Int} {l : List Nat}, Seg cell N r p l q → ∀ i ∈ l, i < N ∧ (cell i).row = r
  | _, _, [], _, _, h => by cases h
  | p, q, j :: l, ⟨a, b, _, _, e⟩, i, h => by
    rcases List.mem_cons.1 h with rfl | h
    · exact ⟨a, b⟩
    · exact e.mem i h
/-- The last one's next is turned. -/
theorem Seg.setNext {cell : Nat → Cl} {N : Nat} {r : Int} {p q q' : Int} {l : List Nat} {z : Nat} (h : Seg cell N r p (l ++ [z]) q) (hz : z ∉ l) : Seg (upd cell z { cell z with next := q' }) N r p (l ++ [z]) q' := by
  rw [Seg.append] at h ⊢
  obtain ⟨h1, a, b, c, d, e⟩ := h
  refine ⟨h1.congr fun i hi => upd_other _ _ (fun e => hz (e ▸ hi)), a, ?_, ?_, ?_, trivial⟩
  · rw [upd_same]; exact b
  · rw [upd_same]; exact c
  · rw [upd_same]; rfl
theorem Seg.setPrev {cell : Nat → Cl} {N : Nat} {r : Int} {p p' q : Int} {l : List Nat} {y : Nat} (h : Seg cell N r p (y :: l) q) (hy : y ∉ l) : Seg (upd cell y { cell y with prev := p' }) N r p' (y :: l) q := by
  obtain ⟨a, b, c, d, e⟩ := h
  refine ⟨a, ?_, ?_, ?_, e.congr fun i hi => upd_other _ _ (fun e => hy (e ▸ hi))⟩
  · rw [upd_same]; exact b
  · rw [upd_same]
  · rw [upd_same]; exact d

theorem lsI_concat (p : Int) (l : List Nat) (z : Nat) : lsI p (l ++ [z]) = z := by rw [lsI_append]; rfl

/-- A row: its ends and its cells. -/
structure RowOK (S : Ar) (r : Nat) (l : List Nat) : Prop where
  first : (S.ends r).first = hdI l (-1)
  last : (S.ends r).last = lsI (-1) l
  n : (S.ends r).n = l.length
  seg : Seg S.cell S.N r (-1) l (-1)

structure Ent where
  at_ : Nat
  row : Nat
  v : Int
def rowOf (m : List Ent) (r : Nat) : List Nat := (m.filter fun e => e.row == r).map Ent.at_

/-- The arena holds the entries m; the cells of free are free again; from next on none was taken. -/
structure Inv (S : Ar) (m : List Ent) (free : List Nat) (next : Nat) : Prop where
  rows : ∀ r, r < S.R → RowOK S r (rowOf m r)
  val : ∀ e ∈ m, (S.cell e.at_).v = e.v ∧ e.row < S.R
  nd : (m.map Ent.at_ ++ free).Nodup
  lt : ∀ i ∈ m.map Ent.at_ ++ free, i < next
  out : ∀ i, i ∉ m.map Ent.at_ → (S.cell i).row = -1
  fr : S.freed = free.map fun i : Nat => (i : Int)
  fs : S.fresh = next
  nx : next ≤ S.N
  cnt : m.length + free.length = next
  sN : S.N ≤ 4096


theorem Inv.new (R N : Nat) (hN : N ≤ 4096) : Inv (Ar.new R N) [] [] 0 :=
  ⟨fun r _ => ⟨rfl, rfl, rfl, trivial⟩, (fun e he => by cases he), List.nodup_nil, (fun i hi => by cases hi), fun _ _ => rfl, rfl, rfl, Nat.zero_le _, rfl, hN⟩

theorem mem_rowOf {m : List Ent} {r i : Nat} (h : i ∈ rowOf m r) : i ∈ m.map Ent.at_ := by
  obtain ⟨e, he, rfl⟩ := List.mem_map.1 h
  exact List.mem_map.2 ⟨e, (List.mem_filter.1 he).1, rfl⟩
theorem rowOf_nodup {m : List Ent} (h : (m.map Ent.at_).Nodup) (r : Nat) : (rowOf m r).Nodup :=
  h.sublist (List.Sublist.map _ List.filter_sublist)
theorem rowOf_len (m : List Ent) (r : Nat) : (rowOf m r).length ≤ m.length := by
  unfold rowOf; rw [List.length_map]; exact List.length_filter_le _ _
theorem rowOf_snoc (m : List Ent) (e : Ent) (r : Nat) : rowOf (m ++ [e]) r = if e.row = r then rowOf m r ++ [e.at_] else rowOf m r := by
  unfold rowOf
  rw [List.filter_append, List.map_append]
  by_cases h : e.row = r <;> simp [List.filter_cons, h]
theorem rowOf_mid (m1 m2 : List Ent) (e : Ent) (r : Nat) : rowOf (m1 ++ e :: m2) r = rowOf m1 r ++ (if e.row = r then e.at_ :: rowOf m2 r else rowOf m2 r) := by
  unfold rowOf
  rw [List.filter_append, List.map_append]
  by_cases h : e.row = r <;> simp [List.filter_cons, h]
theorem rowOf_append (m1 m2 : List Ent) (r : Nat) : rowOf (m1 ++ m2) r = rowOf m1 r ++ rowOf m2 r := by
  unfold rowOf; rw [List.filter_append, List.map_append]

theorem snoc_cases (l : List Nat) : l = [] ∨ ∃ l' z, l = l' ++ [z] := by
  rcases List.eq_nil_or_concat l with h | ⟨l', z, h⟩
  · exact .inl h
  · exact .inr ⟨l', z, by simpa using h⟩

/-- What is put behind a row, whichever cell it takes. -/
theorem Inv.put {S T : Ar} {m : List Ent} {free free' : List Nat} {next next' r c : Nat} {v : Int} (h : Inv S m free next) (hr : r < S.R)
    (hT : T.N = S.N ∧ T.R = S.R ∧ T.cell = S.cell ∧ T.ends = S.ends) (hc : c ∉ m.map Ent.at_) (hcN : c < S.N)
    (hnd : ((m ++ [Ent.mk c r v]).map Ent.at_ ++ free').Nodup) (hlt : ∀ i ∈ (m ++ [Ent.mk c r v]).map Ent.at_ ++ free', i < next')
    (hfr : T.freed = free'.map fun i : Nat => (i : Int)) (hfs : T.fresh = next') (hnx : next' ≤ S.N) (hcnt : (m ++ [Ent.mk c r v]).length + free'.length = next') :
    Inv (if (S.ends r).last = -1 then { T with cell := upd S.cell c ⟨v, r, (S.ends r).last, -1⟩, ends := upd S.ends r ⟨c, c, (S.ends r).n + 1⟩ }
      else { T with cell := upd (upd S.cell c ⟨v, r, (S.ends r).last, -1⟩) (S.ends r).last.toNat { (upd S.cell c ⟨v, r, (S.ends r).last, -1⟩) (S.ends r).last.toNat with next := c }, ends := upd S.ends r ⟨(S.ends r).first, c, (S.ends r).n + 1⟩ })
      (m ++ [Ent.mk c r v]) free' next' := by
  obtain ⟨tN, tR, tC, tE⟩ := hT
  have hrow := h.rows r hr
  have hcrow : ∀ r', c ∉ rowOf m r' := fun r' hh => hc (mem_rowOf hh)
  have hnodup := rowOf_nodup (List.nodup_append.1 h.nd |>.1) r
  have hval : ∀ (cell' : Nat → Cl), (∀ i ∈ m.map Ent.at_, (cell' i).v = (S.cell i).v) → (cell' c).v = v → ∀ e ∈ m ++ [Ent.mk c r v], (cell' e.at_).v = e.v ∧ e.row < S.R := by
    intro cell' h1 h2 e he
    rcases List.mem_append.1 he with he | he
    · exact ⟨(h1 _ (List.mem_map.2 ⟨e, he, rfl⟩)).trans (h.val e he).1, (h.val e he).2⟩
    · rw [List.mem_singleton.1 he]; exact ⟨h2, hr⟩
  have hmap : (m ++ [Ent.mk c r v]).map Ent.at_ = m.map Ent.at_ ++ [c] := by simp
  rcases snoc_cases (rowOf m r) with hl | ⟨l', z, hl⟩
  · have hlast : (S.ends r).last = -1 := by rw [hrow.last, hl]; rfl
    rw [if_pos hlast]
    refine ⟨fun r' hr' => ?_, ?_, hnd, hlt, fun i hi => ?_, hfr, hfs, by show next' ≤ T.N; omega, hcnt, by show T.N ≤ 4096; have := h.sN; omega⟩
    · rw [rowOf_snoc]
      have hr'' : r' < S.R := by have : r' < T.R := hr'; omega
      by_cases e : r = r'
      · subst e
        rw [if_pos rfl, hl]
        refine ⟨?_, ?_, ?_, ?_⟩
        · show (upd S.ends r _ r).first = _; rw [upd_same]; rfl
        · show (upd S.ends r _ r).last = _; rw [upd_same]; rfl
        · show (upd S.ends r _ r).n = _; rw [upd_same, hrow.n, hl]; rfl
        · show Seg (upd S.cell c _) T.N r (-1) [c] (-1)
          refine ⟨by omega, ?_, ?_, ?_, trivial⟩ <;> rw [upd_same]
          · exact hlast
          · rfl
      · rw [if_neg e]
        have hrow' := h.rows r' hr''
        refine ⟨?_, ?_, ?_, ?_⟩
        · show (upd S.ends r _ r').first = _; rw [upd_other _ _ (fun h => e h.symm)]; exact hrow'.first
        · show (upd S.ends r _ r').last = _; rw [upd_other _ _ (fun h => e h.symm)]; exact hrow'.last
        · show (upd S.ends r _ r').n = _; rw [upd_other _ _ (fun h => e h.symm)]; exact hrow'.n
        · show Seg (upd S.cell c _) T.N r' (-1) _ (-1)
          rw [tN]
          exact hrow'.seg.congr fun i hi => upd_other _ _ (fun e => hcrow r' (e ▸ hi))
    · show ∀ e ∈ m ++ [Ent.mk c r v], (upd S.cell c _ e.at_).v = e.v ∧ e.row < T.R
      rw [tR]
      refine hval _ (fun i hi => ?_) (by rw [upd_same])
      have hic : i ≠ c := fun e => hc (e ▸ hi)
      rw [upd_other _ _ hic]
    · show (upd S.cell c _ i).row = -1
      rw [hmap] at hi
      simp only [List.mem_append, List.mem_singleton, not_or] at hi
      rw [upd_other _ _ hi.2]; exact h.out i hi.1
  · have hlast : (S.ends r).last = z := by rw [hrow.last, hl, lsI_concat]
    have hzl : z ∈ rowOf m r := by rw [hl]; simp
    have hzc : z ≠ c := fun e => hcrow r (e ▸ hzl)
    have hzr : (S.cell z).row = r := (hrow.seg.mem z hzl).2
    rw [if_neg (by rw [hlast]; omega)]
    have hz : (S.ends r).last.toNat = z := by rw [hlast]; rfl
    rw [hz, upd_other _ _ hzc]
    have hseg := hrow.seg
    rw [hl] at hseg hnodup
    have hzl' : z ∉ l' := by
      intro hh
      have := (List.nodup_append.1 hnodup).2.2 z hh z (by simp)
      exact this rfl
    refine ⟨fun r' hr' => ?_, ?_, hnd, hlt, fun i hi => ?_, hfr, hfs, by show next' ≤ T.N; omega, hcnt, by show T.N ≤ 4096; have := h.sN; omega⟩
    · rw [rowOf_snoc]
      have hr'' : r' < S.R := by have : r' < T.R := hr'; omega
      by_cases e : r = r'
      · subst e
        rw [if_pos rfl]
        refine ⟨?_, ?_, ?_, ?_⟩
        · show (upd S.ends r _ r).first = _; rw [upd_same, hl, hdI_append, hdI_append]; show (S.ends r).first = _; rw [hrow.first, hl, hdI_append]; rfl
        · show (upd S.ends r _ r).last = _; rw [upd_same, lsI_concat]
        · show (upd S.ends r _ r).n = _; rw [upd_same]; show (S.ends r).n + 1 = _; rw [hrow.n]; simp
        · show Seg (upd (upd S.cell c _) z _) T.N r (-1) (rowOf m r ++ [c]) (-1)
          rw [tN, hl, Seg.append]
          constructor
          · have h1 := (hseg.setNext (q' := (c : Int)) hzl')
            refine h1.congr fun i hi => ?_
            have hic : i ≠ c := fun e => hcrow r (by rw [hl, ← e]; exact hi)
            by_cases hiz : i = z
            · subst hiz; rw [upd_same, upd_same]
            · rw [upd_other _ _ hiz, upd_other _ _ hiz, upd_other _ _ hic]
          · rw [lsI_concat]
            refine ⟨hcN, ?_, ?_, ?_, trivial⟩ <;> rw [upd_other _ _ (fun e => hzc e.symm), upd_same]
            · exact hlast
            · rfl
      · rw [if_neg e]
        have hrow' := h.rows r' hr''
        refine ⟨?_, ?_, ?_, ?_⟩
        · show (upd S.ends r _ r').first = _; rw [upd_other _ _ (fun h => e h.symm)]; exact hrow'.first
        · show (upd S.ends r _ r').last = _; rw [upd_other _ _ (fun h => e h.symm)]; exact hrow'.last
        · show (upd S.ends r _ r').n = _; rw [upd_other _ _ (fun h => e h.symm)]; exact hrow'.n
        · show Seg (upd (upd S.cell c _) z _) T.N r' (-1) _ (-1)
          rw [tN]
          refine hrow'.seg.congr fun i hi => ?_
          have h1 : i ≠ z := fun e' => by
            have := (hrow'.seg.mem i hi).2
            rw [e', hzr] at this; exact e (by exact_mod_cast this)
          have h2 : i ≠ c := fun e' => hcrow r' (e' ▸ hi)
          rw [upd_other _ _ h1, upd_other _ _ h2]
    · show ∀ e ∈ m ++ [Ent.mk c r v], (upd (upd S.cell c _) z _ e.at_).v = e.v ∧ e.row < T.R
      rw [tR]
      refine hval _ (fun i hi => ?_) (by rw [upd_other _ _ (fun e => hzc e.symm), upd_same])
      have hic : i ≠ c := fun e => hc (e ▸ hi)
      by_cases hiz : i = z
      · subst hiz; rw [upd_same]
      · rw [upd_other _ _ hiz, upd_other _ _ hic]
    · show (upd (upd S.cell c _) z _ i).row = -1
      rw [hmap] at hi
      simp only [List.mem_append, List.mem_singleton, not_or] at hi
      have hiz : i ≠ z := fun e => hi.1 (e ▸ mem_rowOf hzl)
      rw [upd_other _ _ hiz, upd_other _ _ hi.2]; exact h.out i hi.1
end Go.Proofs.Ytpcoffpdkfbhdaa
