/- Plain laws of the arena: a value put, a value taken out. -/
import Derived.Test.YtpcoffpdkfbhdaaFj
namespace Go.Proofs.Ytpcoffpdkfbhdaa
open Go.RowKit

/-- Which cell comes next. -/
def pickC (free : List Nat) (next : Nat) : Nat := if free = [] then next else free.getLast?.getD 0
def pickN (free : List Nat) (next : Nat) : Nat := if free = [] then next + 1 else next

theorem Inv.nd1 {S : Ar} {m : List Ent} {free : List Nat} {next : Nat} (h : Inv S m free next) : (m.map Ent.at_).Nodup := (List.nodup_append.1 h.nd).1
theorem Inv.mlen {S : Ar} {m : List Ent} {free : List Nat} {next : Nat} (h : Inv S m free next) : m.length + free.length ≤ 4096 := by have := h.cnt; have := h.nx; have := h.sN; omega

theorem lsI_bd {cell : Nat → Cl} {N : Nat} {r : Int} {q : Int} : ∀ (l : List Nat) (p p' : Int), Seg cell N r p l q → (p' = -1 ∨ (0 ≤ p' ∧ p' < N)) → lsI p' l = -1 ∨ (0 ≤ lsI p' l ∧ lsI p' l < N)
  | [], _, _, _, h => h
  | i :: l, _, _, ⟨a, _, _, _, e⟩, _ => lsI_bd l i i e (.inr ⟨by omega, by omega⟩)
theorem hdI_bd {cell : Nat → Cl} {N : Nat} {r : Int} {p q q' : Int} {l : List Nat} (h : Seg cell N r p l q) (hq : q' = -1 ∨ (0 ≤ q' ∧ q' < N)) : hdI l q' = -1 ∨ (0 ≤ hdI l q' ∧ hdI l q' < N) := by
  cases l with
  | nil => exact hq
  | cons i l => obtain ⟨a, _⟩ := h; exact .inr ⟨by simp [hdI], by simp [hdI]; omega⟩

theorem takeI_of {S : Ar} {m : List Ent} {free : List Nat} {next : Nat} (h : Inv S m free next) : S.takeI = pickC free next := by
  unfold Ar.takeI pickC
  rw [h.fr, h.fs]
  by_cases hf : free = []
  · subst hf; simp
  · rw [if_neg (by simpa using hf), if_neg hf, List.getLast?_map, List.getLast?_eq_some_getLast hf]; rfl

theorem freeI_of {S : Ar} {m : List Ent} {free : List Nat} {next : Nat} (h : Inv S m free next) : S.freeI = S.N - m.length := by
  unfold Ar.freeI
  rw [h.fr, h.fs, List.length_map]
  have := h.cnt; have := h.nx; omega

theorem Inv.can {S : Ar} {m : List Ent} {free : List Nat} {next r : Nat} (h : Inv S m free next) (hr : r < S.R) (hroom : m.length < S.N) : S.Can r := by
  have hrow := h.rows r hr
  have hc := h.cnt
  have hN := h.sN
  have hnx := h.nx
  have hl := rowOf_len m r
  refine ⟨hr, by rw [freeI_of h]; omega, ?_, ?_, ?_⟩
  · rw [takeI_of h]
    unfold pickC
    by_cases hf : free = []
    · rw [if_pos hf]; subst hf; simp at hc; omega
    · rw [if_neg hf]
      have hm := h.lt (free.getLast hf) (List.mem_append_right _ (List.getLast_mem hf))
      rw [List.getLast?_eq_some_getLast hf]; simp; omega
  · rw [hrow.last]; exact lsI_bd _ _ _ hrow.seg (.inl rfl)
  · rw [hrow.n]; omega

theorem Inv.push {S : Ar} {m : List Ent} {free : List Nat} {next r : Nat} (h : Inv S m free next) (hr : r < S.R) (hroom : m.length < S.N) (v : Int) :
    Inv (S.pushS r v) (m ++ [Ent.mk (pickC free next) r v]) free.dropLast (pickN free next) := by
  have hI := takeI_of h
  obtain ⟨tN, tR, tC, tE⟩ := takeS_same S
  have hcnt := h.cnt
  have hnx := h.nx
  have hpush : S.pushS r v = if (S.ends r).last = -1 then { S.takeS with cell := upd S.cell (pickC free next) ⟨v, r, (S.ends r).last, -1⟩, ends := upd S.ends r ⟨pickC free next, pickC free next, (S.ends r).n + 1⟩ }
      else { S.takeS with cell := upd (upd S.cell (pickC free next) ⟨v, r, (S.ends r).last, -1⟩) (S.ends r).last.toNat { (upd S.cell (pickC free next) ⟨v, r, (S.ends r).last, -1⟩) (S.ends r).last.toNat with next := pickC free next }, ends := upd S.ends r ⟨(S.ends r).first, pickC free next, (S.ends r).n + 1⟩ } := by
    simp only [Ar.pushS, tC, tE, hI, Int.toNat_natCast]
  rw [hpush]
  by_cases hf : free = []
  · subst hf
    have hp : pickC [] next = next := rfl
    have hq : pickN [] next = next + 1 := rfl
    rw [hp, hq]
    simp only [List.append_nil] at *
    have hnotin : next ∉ m.map Ent.at_ := fun hh => by have := h.lt next (by simpa using hh); omega
    refine h.put hr ⟨tN, tR, tC, tE⟩ hnotin (by simp at hcnt; omega) ?_ (fun i hi => ?_) ?_ ?_ ?_ ?_
    · simp only [List.dropLast_nil, List.append_nil, List.map_append, List.map_cons, List.map_nil]
      rw [List.nodup_append]
      exact ⟨h.nd1, by simp, fun a ha b hb e => hnotin (by rw [List.mem_singleton.1 hb] at e; exact e ▸ ha)⟩
    · simp only [List.dropLast_nil, List.append_nil, List.map_append, List.map_cons, List.map_nil, List.mem_append, List.mem_singleton] at hi
      rcases hi with hi | hi
      · have := h.lt i (by simpa using hi); omega
      · omega
    · unfold Ar.takeS; rw [if_pos (by rw [h.fr]; rfl)]; show S.freed = _; rw [h.fr]; rfl
    · unfold Ar.takeS; rw [if_pos (by rw [h.fr]; rfl)]; show S.fresh + 1 = _; rw [h.fs]; simp
    · simp at hcnt; omega
    · simp at hcnt ⊢; omega
  · have hlast : free.dropLast ++ [free.getLast hf] = free := List.dropLast_concat_getLast hf
    have hp : pickC free next = free.getLast hf := by rw [pickC, if_neg hf, List.getLast?_eq_some_getLast hf]; rfl
    have hq : pickN free next = next := if_neg hf
    rw [hp, hq]
    generalize free.getLast hf = c at hlast
    have hnd := h.nd
    have hlt := h.lt
    rw [← hlast] at hnd hlt
    have hnotin : c ∉ m.map Ent.at_ := fun hh => (List.nodup_append.1 hnd).2.2 c hh c (by simp) rfl
    have hcn : c < next := hlt c (by simp)
    have hfl : free.length = free.dropLast.length + 1 := by rw [List.length_dropLast]; have := List.length_pos_iff.2 hf; omega
    refine h.put hr ⟨tN, tR, tC, tE⟩ hnotin (by omega) ?_ (fun i hi => ?_) ?_ ?_ hnx ?_
    · have hperm : (m.map Ent.at_ ++ (free.dropLast ++ [c])).Perm ((m ++ [Ent.mk c r v]).map Ent.at_ ++ free.dropLast) := by
        simp only [List.map_append, List.map_cons, List.map_nil, List.append_assoc]
        exact List.Perm.append_left _ List.perm_append_comm
      exact hperm.nodup_iff.1 hnd
    · refine hlt i ?_
      simp only [List.map_append, List.map_cons, List.map_nil, List.mem_append, List.mem_singleton] at hi ⊢
      rcases hi with (hi | hi) | hi
      · exact .inl hi
      · exact .inr (.inr hi)
      · exact .inr (.inl hi)
    · unfold Ar.takeS; rw [if_neg (by rw [h.fr]; simpa using hf)]; show S.freed.dropLast = _; rw [h.fr, List.map_dropLast]
    · unfold Ar.takeS; rw [if_neg (by rw [h.fr]; simpa using hf)]; exact h.fs
    · simp; omega

theorem cutPrev_law {S : Ar} {r : Nat} {x : Cl} {l1 : List Nat} {c : Int} (hp : x.prev = lsI (-1) l1) (hseg : Seg S.cell S.N r (-1) l1 c) (hf : (S.ends r).first = hdI l1 c) (hnd : l1.Nodup) :
    Seg (S.cutPrev x r).cell S.N r (-1) l1 x.next ∧ ((S.cutPrev x r).ends r).first = hdI l1 x.next ∧ ((S.cutPrev x r).ends r).last = (S.ends r).last ∧
    (∀ i, i ∉ l1 → (S.cutPrev x r).cell i = S.cell i) ∧ (∀ i, ((S.cutPrev x r).cell i).v = (S.cell i).v ∧ ((S.cutPrev x r).cell i).row = (S.cell i).row) ∧ (∀ r', r' ≠ r → (S.cutPrev x r).ends r' = S.ends r') := by
  rcases snoc_cases l1 with rfl | ⟨l', z, rfl⟩
  · have hp' : x.prev = -1 := hp
    rw [Ar.cutPrev, if_pos hp']
    refine ⟨trivial, ?_, ?_, fun _ _ => rfl, fun _ => ⟨rfl, rfl⟩, fun r' h => upd_other _ _ h⟩
    · show (upd S.ends r _ r).first = _; rw [upd_same]; rfl
    · show (upd S.ends r _ r).last = _; rw [upd_same]
  · rw [lsI_concat] at hp
    have hz : z ∉ l' := fun h => (List.nodup_append.1 hnd).2.2 z h z (by simp) rfl
    rw [Ar.cutPrev, if_neg (by omega), hp]
    refine ⟨hseg.setNext hz, ?_, rfl, fun i hi => upd_other _ _ (fun e => hi (by rw [e]; simp)), fun i => ?_, fun _ _ => rfl⟩
    · show (S.ends r).first = _
      rw [hf, hdI_append, hdI_append]; rfl
    · show (upd S.cell z _ i).v = _ ∧ (upd S.cell z _ i).row = _
      by_cases e : i = z
      · subst e; rw [upd_same]; exact ⟨rfl, rfl⟩
      · rw [upd_other _ _ e]; exact ⟨rfl, rfl⟩
theorem cutNext_law {S : Ar} {r : Nat} {x : Cl} {l2 : List Nat} {c : Int} (hn : x.next = hdI l2 (-1)) (hseg : Seg S.cell S.N r c l2 (-1)) (hf : (S.ends r).last = lsI c l2) (hnd : l2.Nodup) :
    Seg (S.cutNext x r).cell S.N r x.prev l2 (-1) ∧ ((S.cutNext x r).ends r).last = lsI x.prev l2 ∧ ((S.cutNext x r).ends r).first = (S.ends r).first ∧
    (∀ i, i ∉ l2 → (S.cutNext x r).cell i = S.cell i) ∧ (∀ i, ((S.cutNext x r).cell i).v = (S.cell i).v ∧ ((S.cutNext x r).cell i).row = (S.cell i).row) ∧ (∀ r', r' ≠ r → (S.cutNext x r).ends r' = S.ends r') := by
  cases l2 with
  | nil =>
    have hp' : x.next = -1 := hn
    rw [Ar.cutNext, if_pos hp']
    refine ⟨trivial, ?_, ?_, fun _ _ => rfl, fun _ => ⟨rfl, rfl⟩, fun r' h => upd_other _ _ h⟩
    · show (upd S.ends r _ r).last = _; rw [upd_same]; rfl
    · show (upd S.ends r _ r).first = _; rw [upd_same]
  | cons y l =>
    have hn' : x.next = y := hn
    have hy : y ∉ l := (List.nodup_cons.1 hnd).1
    rw [Ar.cutNext, if_neg (by omega), hn']
    refine ⟨hseg.setPrev hy, hf, rfl, fun i hi => upd_other _ _ (fun e => hi (by rw [e]; simp)), fun i => ?_, fun _ _ => rfl⟩
    show (upd S.cell y _ i).v = _ ∧ (upd S.cell y _ i).row = _
    by_cases e : i = y
    · subst e; rw [upd_same]; exact ⟨rfl, rfl⟩
    · rw [upd_other _ _ e]; exact ⟨rfl, rfl⟩

theorem Inv.mid {S : Ar} {m1 m2 : List Ent} {e : Ent} {free : List Nat} {next : Nat} (h : Inv S (m1 ++ e :: m2) free next) :
    e.row < S.R ∧ Seg S.cell S.N e.row (-1) (rowOf m1 e.row) e.at_ ∧ Seg S.cell S.N e.row e.at_ (rowOf m2 e.row) (-1) ∧ e.at_ < S.N ∧ (S.cell e.at_).row = e.row ∧ (S.cell e.at_).prev = lsI (-1) (rowOf m1 e.row) ∧ (S.cell e.at_).next = hdI (rowOf m2 e.row) (-1) := by
  have hr := (h.val e (by simp)).2
  have hrow := h.rows e.row hr
  have hseg := hrow.seg
  rw [rowOf_mid, if_pos rfl, Seg.append] at hseg
  obtain ⟨h1, a, b, c, d, f⟩ := hseg
  exact ⟨hr, h1, f, a, b, c, d⟩

theorem Inv.has {S : Ar} {m1 m2 : List Ent} {e : Ent} {free : List Nat} {next : Nat} (h : Inv S (m1 ++ e :: m2) free next) : S.Has e.at_ e.row := by
  obtain ⟨hr, s1, s2, hN, hrow, hprev, hnext⟩ := h.mid
  have hn := (h.rows e.row hr).n
  have hl := rowOf_len (m1 ++ e :: m2) e.row
  have hm := h.mlen
  have hlen : 0 < (m1 ++ e :: m2).length := by simp; omega
  refine ⟨hN, hrow, hr, ?_, ?_, ?_, ?_⟩
  · rw [hprev]; exact lsI_bd _ _ _ s1 (.inl rfl)
  · rw [hnext]; exact hdI_bd s2 (.inl rfl)
  · rw [hn]; omega
  · rw [h.fr, List.length_map]; omega

theorem Inv.remove {S : Ar} {m1 m2 : List Ent} {e : Ent} {free : List Nat} {next : Nat} (h : Inv S (m1 ++ e :: m2) free next) : Inv (S.removeS e.at_) (m1 ++ m2) (free ++ [e.at_]) next := by
  obtain ⟨hr, s1, s2, hN, hrow, hprev, hnext⟩ := h.mid
  have hrw := h.rows e.row hr
  have hndr := rowOf_nodup h.nd1 e.row
  rw [rowOf_mid, if_pos rfl] at hndr
  have hnd1 : (rowOf m1 e.row).Nodup := (List.nodup_append.1 hndr).1
  have hnd2 : (e.at_ :: rowOf m2 e.row).Nodup := (List.nodup_append.1 hndr).2.1
  have hdis := (List.nodup_append.1 hndr).2.2
  have hc1 : e.at_ ∉ rowOf m1 e.row := fun hh => hdis _ hh _ (List.mem_cons_self ..) rfl
  have hc2 : e.at_ ∉ rowOf m2 e.row := (List.nodup_cons.1 hnd2).1
  have hd12 : ∀ i, i ∈ rowOf m1 e.row → i ∉ rowOf m2 e.row := fun i h1 h2 => hdis i h1 i (List.mem_cons_of_mem _ h2) rfl
  obtain ⟨p1, p2, p3, p4, p5, p6⟩ := cutPrev_law (x := S.cell e.at_) (c := (e.at_ : Int)) hprev s1 (by rw [hrw.first, rowOf_mid, if_pos rfl, hdI_append]; rfl) hnd1
  obtain ⟨pN, pR, pF, pf, pn⟩ := cutPrev_same S (S.cell e.at_) e.row
  have s2' : Seg (S.cutPrev (S.cell e.at_) e.row).cell (S.cutPrev (S.cell e.at_) e.row).N e.row e.at_ (rowOf m2 e.row) (-1) := by
    rw [pN]; exact s2.congr fun i hi => p4 i (fun h1 => hd12 i h1 hi)
  obtain ⟨q1, q2, q3, q4, q5, q6⟩ := cutNext_law (x := S.cell e.at_) (c := (e.at_ : Int)) hnext s2' (by rw [p3, hrw.last, rowOf_mid, if_pos rfl, lsI_append]; rfl) (List.nodup_cons.1 hnd2).2
  obtain ⟨qN, qR, qF, qf, qn⟩ := cutNext_same (S.cutPrev (S.cell e.at_) e.row) (S.cell e.at_) e.row
  have hrt : (S.cell e.at_).row.toNat = e.row := by rw [hrow]; rfl
  generalize hS1 : S.cutPrev (S.cell e.at_) e.row = S1 at *
  generalize hS2 : S1.cutNext (S.cell e.at_) e.row = S2 at *
  have hfin : S.removeS e.at_ = { { S2 with ends := upd S2.ends e.row { S2.ends e.row with n := (S2.ends e.row).n - 1 } } with cell := upd S2.cell e.at_ ⟨0, -1, -1, -1⟩, freed := S.freed ++ [(e.at_ : Int)] } := by
    simp only [Ar.removeS, hrt, hS1, hS2, Ar.cutLen]
  rw [hfin]
  -- cells that are not the row's are as they were
  have hother : ∀ i, i ∉ rowOf m1 e.row → i ∉ rowOf m2 e.row → S2.cell i = S.cell i := fun i h1 h2 => (q4 i h2).trans (p4 i h1)
  have hv : ∀ i, (S2.cell i).v = (S.cell i).v ∧ (S2.cell i).row = (S.cell i).row := fun i => ⟨(q5 i).1.trans (p5 i).1, (q5 i).2.trans (p5 i).2⟩
  have hmem : ∀ i, i ∈ (m1 ++ m2).map Ent.at_ → i ∈ (m1 ++ e :: m2).map Ent.at_ := fun i hi => by
    simp only [List.map_append, List.map_cons, List.mem_append, List.mem_cons] at hi ⊢
    rcases hi with hi | hi
    · exact .inl hi
    · exact .inr (.inr hi)
  have hperm : ((m1 ++ e :: m2).map Ent.at_ ++ free).Perm ((m1 ++ m2).map Ent.at_ ++ (free ++ [e.at_])) := by
    simp only [List.map_append, List.map_cons, List.append_assoc]
    refine List.Perm.append_left _ ?_
    show (e.at_ :: (m2.map Ent.at_ ++ free)).Perm (m2.map Ent.at_ ++ (free ++ [e.at_]))
    rw [← List.append_assoc]
    exact (List.perm_append_singleton _ _).symm
  have hnotin : e.at_ ∉ (m1 ++ m2).map Ent.at_ := fun hh => by
    have := hperm.nodup_iff.1 h.nd
    exact (List.nodup_append.1 this).2.2 _ hh e.at_ (by simp) rfl
  refine ⟨fun r' hr' => ?_, fun e' he' => ?_, hperm.nodup_iff.1 h.nd, fun i hi => h.lt i (hperm.mem_iff.2 hi), fun i hi => ?_, ?_, ?_, ?_, ?_, ?_⟩
  · have hr'' : r' < S.R := by have : r' < S2.R := hr'; omega
    rw [rowOf_append]
    by_cases er : r' = e.row
    · subst er
      refine ⟨?_, ?_, ?_, ?_⟩
      · show (upd S2.ends e.row _ e.row).first = _; rw [upd_same]; show (S2.ends e.row).first = _; rw [q3, p2, hnext, hdI_append]
      · show (upd S2.ends e.row _ e.row).last = _; rw [upd_same]; show (S2.ends e.row).last = _; rw [q2, hprev, lsI_append]
      · show (upd S2.ends e.row _ e.row).n = _; rw [upd_same]; show (S2.ends e.row).n - 1 = _; rw [qn, pn, hrw.n, rowOf_mid, if_pos rfl]; simp; omega
      · show Seg (upd S2.cell e.at_ _) S2.N e.row (-1) (rowOf m1 e.row ++ rowOf m2 e.row) (-1)
        rw [Seg.append]
        refine ⟨?_, ?_⟩
        · rw [qN, pN, ← hnext]
          refine p1.congr fun i hi => ?_
          have : i ≠ e.at_ := fun e' => hc1 (e' ▸ hi)
          rw [upd_other _ _ this]; exact q4 i (hd12 i hi)
        · rw [← hprev, qN]
          refine q1.congr fun i hi => ?_
          have : i ≠ e.at_ := fun e' => hc2 (e' ▸ hi)
          rw [upd_other _ _ this]
    · have hrow' := h.rows r' hr''
      rw [rowOf_mid, if_neg (fun e' => er e'.symm)] at hrow'
      have hends : S2.ends r' = S.ends r' := (q6 r' er).trans (p6 r' er)
      refine ⟨?_, ?_, ?_, ?_⟩
      · show (upd S2.ends e.row _ r').first = _; rw [upd_other _ _ er, hends]; exact hrow'.first
      · show (upd S2.ends e.row _ r').last = _; rw [upd_other _ _ er, hends]; exact hrow'.last
      · show (upd S2.ends e.row _ r').n = _; rw [upd_other _ _ er, hends]; exact hrow'.n
      · show Seg (upd S2.cell e.at_ _) S2.N r' (-1) _ (-1)
        rw [qN, pN]
        refine hrow'.seg.congr fun i hi => ?_
        have hri := (hrow'.seg.mem i hi).2
        have n1 : i ∉ rowOf m1 e.row := fun hh => by have := (s1.mem i hh).2; rw [this] at hri; exact er (by exact_mod_cast hri.symm)
        have n2 : i ∉ rowOf m2 e.row := fun hh => by have := (s2.mem i hh).2; rw [this] at hri; exact er (by exact_mod_cast hri.symm)
        have n3 : i ≠ e.at_ := fun e' => by rw [e', hrow] at hri; exact er (by exact_mod_cast hri.symm)
        rw [upd_other _ _ n3]; exact hother i n1 n2
  · have hin : e' ∈ m1 ++ e :: m2 := by
      simp only [List.mem_append, List.mem_cons] at he' ⊢
      rcases he' with h' | h'
      · exact .inl h'
      · exact .inr (.inr h')
    have n3 : e'.at_ ≠ e.at_ := fun eq => hnotin (eq ▸ List.mem_map.2 ⟨e', he', rfl⟩)
    show (upd S2.cell e.at_ _ e'.at_).v = e'.v ∧ e'.row < S2.R
    rw [upd_other _ _ n3, (hv _).1, qR, pR]
    exact h.val e' hin
  · show (upd S2.cell e.at_ _ i).row = -1
    by_cases n3 : i = e.at_
    · subst n3; rw [upd_same]
    · rw [upd_other _ _ n3, (hv _).2]
      refine h.out i fun hh => hi ?_
      simp only [List.map_append, List.map_cons, List.mem_append, List.mem_cons] at hh ⊢
      rcases hh with hh | hh | hh
      · exact .inl hh
      · exact absurd hh n3
      · exact .inr hh
  · show S.freed ++ [(e.at_ : Int)] = _; rw [h.fr]; simp
  · show S2.fresh = _; rw [qf, pf]; exact h.fs
  · show next ≤ S2.N; rw [qN, pN]; exact h.nx
  · have := h.cnt; simp at this ⊢; omega
  · show S2.N ≤ 4096; rw [qN, pN]; exact h.sN

theorem seg_link {S : Ar} {r : Nat} : ∀ {p : Int} (l : List Nat), Seg S.cell S.N r p l (-1) → LinkFrom S (hdI l (-1)) l
  | _, [], _ => rfl
  | _, i :: l, ⟨a, b, _, d, e⟩ => ⟨rfl, a, by rw [b]; omega, by rw [d]; exact seg_link l e⟩
theorem Inv.link {S : Ar} {m : List Ent} {free : List Nat} {next r : Nat} (h : Inv S m free next) (hr : r < S.R) : LinkFrom S (S.ends r).first (rowOf m r) := by
  have hrow := h.rows r hr
  rw [hrow.first]; exact seg_link _ hrow.seg
theorem Inv.ent {S : Ar} {m : List Ent} {free : List Nat} {next : Nat} (h : Inv S m free next) {e : Ent} (he : e ∈ m) : e.at_ < S.N ∧ (S.cell e.at_).row = e.row ∧ (S.cell e.at_).v = e.v ∧ e.row < S.R := by
  obtain ⟨m1, m2, rfl⟩ := List.append_of_mem he
  obtain ⟨hr, _, _, hN, hrow, _⟩ := h.mid
  exact ⟨hN, hrow, (h.val e he).1, hr⟩
theorem Inv.taken {S : Ar} {m : List Ent} {free : List Nat} {next : Nat} (h : Inv S m free next) {e : Ent} (he : e ∈ m) : S.takenB e.at_ = true := by
  obtain ⟨hN, hrow, _⟩ := h.ent he
  simp [Ar.takenB, hN, hrow]
theorem Inv.not_taken {S : Ar} {m : List Ent} {free : List Nat} {next : Nat} (h : Inv S m free next) {c : Int} (hc : ∀ e ∈ m, c ≠ e.at_) : S.takenB c = false := by
  unfold Ar.takenB
  by_cases h0 : 0 ≤ c
  · obtain ⟨i, rfl⟩ := Int.eq_ofNat_of_zero_le h0
    have := h.out i fun hh => by obtain ⟨e, he, rfl⟩ := List.mem_map.1 hh; exact hc e he rfl
    simp [this]
  · simp [h0]
theorem Inv.valI {S : Ar} {m : List Ent} {free : List Nat} {next : Nat} (h : Inv S m free next) {e : Ent} (he : e ∈ m) : S.valI e.at_ = e.v := by
  rw [Ar.valI, if_pos (h.taken he)]; exact (h.ent he).2.2.1
theorem Inv.lenI {S : Ar} {m : List Ent} {free : List Nat} {next r : Nat} (h : Inv S m free next) (hr : r < S.R) : S.lenI r = (rowOf m r).length := by
  rw [Ar.lenI, if_pos (by simp [Ar.inB, hr])]; exact (h.rows r hr).n
theorem Inv.front {S : Ar} {m : List Ent} {free : List Nat} {next r : Nat} (h : Inv S m free next) (hr : r < S.R) : S.frontI r = (rowOf m r).headD 0 ∧ S.frontB r = !(rowOf m r).isEmpty := by
  have hin : S.inB r = true := by simp [Ar.inB, hr]
  unfold Ar.frontI Ar.frontB
  rw [hin, if_pos rfl, Int.toNat_natCast, (h.rows r hr).first]
  cases rowOf m r with
  | nil => exact ⟨rfl, rfl⟩
  | cons i l => exact ⟨by simp [hdI, toldI], by simp [hdI, toldB]⟩
theorem push_NR (S : Ar) (r : Nat) (v : Int) : (S.pushS r v).N = S.N ∧ (S.pushS r v).R = S.R := by
  obtain ⟨tN, tR, _, _⟩ := takeS_same S
  unfold Ar.pushS
  simp only
  split <;> exact ⟨tN, tR⟩
theorem remove_NR (S : Ar) (i : Nat) : (S.removeS i).N = S.N ∧ (S.removeS i).R = S.R := by
  obtain ⟨pN, pR, _⟩ := cutPrev_same S (S.cell i) (S.cell i).row.toNat
  obtain ⟨qN, qR, _⟩ := cutNext_same (S.cutPrev (S.cell i) (S.cell i).row.toNat) (S.cell i) (S.cell i).row.toNat
  exact ⟨qN.trans pN, qR.trans pR⟩
end Go.Proofs.Ytpcoffpdkfbhdaa
