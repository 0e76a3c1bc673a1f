/- Both books, side by side: what one act does to them (plain laws, and the contracts joined). -/
import Derived.Test.YtopfgcnehdjjpaaDg
import Derived.Test.YtopfgcnehdjjpaaCs
namespace Go.Proofs.Ytopfgcnehdjjpaa
open Go.RowKit

/-- The program's book, somewhere behind w0. -/
def SB (w0 : World) (bk : Nat) (R : Nat → List Od) (w : World) : Prop := w0.heap.size ≤ bk ∧ ∃ p c O, BkAt w bk R p c O ∧ ∀ i, i < w0.heap.size → O i = 0
/-- The document's book, somewhere behind w0. -/
def SR (w0 : World) (m : Nat) (R : Nat → List Od) (w : World) : Prop := w0.heap.size ≤ m ∧ ∃ p c, RbAt w m R p c ∧ ∀ j, j < 2 → ∀ t, p j = some t → w0.heap.size ≤ t.block

theorem SlAt.obj {w : World} {E size len cap : Nat} {t : Addr} {xs : List Value} (h : SlAt w E size (some t) len cap xs) : ∃ cs, w.heap[t.block]? = some (.cells cs E (0, 0)) := by
  rcases h.2.2 with ⟨h2, _⟩ | ⟨t', o, arr, ha, hb, _⟩
  · cases h2
  · cases ha; exact ⟨arr, hb⟩
open Classical in
theorem BkAt.canon {w : World} {bk : Nat} {R : Nat → List Od} {p : Nat → Option Addr} {c : Nat → Nat} {O : Nat → Nat} (h : BkAt w bk R p c O) : ∃ O', BkAt w bk R p c O' ∧ (∀ i, O i = 0 → O' i = 0) ∧ ∀ i, O' i ≠ 0 → ∃ cs E, w.heap[i]? = some (.cells cs E (0, 0)) ∧ (E = 66 ∨ E = 31) := by
  obtain ⟨Q, hQ⟩ : ∃ Q : Nat → Prop, ∀ i, Q i ↔ (i = bk ∨ ∃ k, k < 2 ∧ ∃ t, p k = some t ∧ t.block = i) := ⟨_, fun _ => Iff.rfl⟩
  refine ⟨fun i => if Q i then O i else 0, ⟨h.st, h.sl, ?_, ?_, ?_, h.few⟩, ?_, ?_⟩
  · show (if Q bk then O bk else 0) = 3
    rw [if_pos ((hQ bk).2 (.inl rfl))]; exact h.oa
  · intro k hk t ht
    show (if Q t.block then O t.block else 0) = k + 1
    rw [if_pos ((hQ _).2 (.inr ⟨k, hk, t, ht, rfl⟩))]; exact h.ok k hk t ht
  · intro i hi
    show (if Q i then O i else 0) = 0
    rw [h.new i hi]; split <;> rfl
  · intro i hi
    show (if Q i then O i else 0) = 0
    rw [hi]; split <;> rfl
  · intro i hi
    by_cases hc : Q i
    · rcases (hQ i).1 hc with rfl | ⟨k, hk, t, ht, rfl⟩
      · exact ⟨_, 66, h.st, .inl rfl⟩
      · have hs := h.sl k hk
        rw [ht] at hs
        obtain ⟨cs, hcs⟩ := hs.obj
        exact ⟨cs, 31, hcs, .inr rfl⟩
    · exact absurd (if_neg hc) hi
theorem cells_ty {w : World} {b : Nat} {cs cs' : Array Value} {E E' : TypeId} (h : w.heap[b]? = some (.cells cs E (0, 0))) (h' : w.heap[b]? = some (.cells cs' E' (0, 0))) : E = E' := by
  rw [h] at h'
  injection h' with h1
  injection h1
theorem SB.keptF {w0 w w' : World} {bk : Nat} {R : Nat → List Od} (h : SB w0 bk R w) (k : Kept (fun _ => False) w w') : SB w0 bk R w' := by
  obtain ⟨h0, p, c, O, h1, h2⟩ := h
  exact ⟨h0, p, c, O, h1.keptF k, h2⟩
theorem SR.keptF {w0 w w' : World} {m : Nat} {R : Nat → List Od} (h : SR w0 m R w) (k : Kept (fun _ => False) w w') : SR w0 m R w' := by
  obtain ⟨h0, p, c, h1, h2⟩ := h
  exact ⟨h0, p, c, h1.keptF k, h2⟩
/-- What the document's book's block does not touch. -/
theorem SB.keptM {w0 w w' : World} {bk m : Nat} {R R' : Nat → List Od} (h : SB w0 bk R w) (hr : SR w0 m R' w) (k : Kept (fun b => b = m) w w') : SB w0 bk R w' := by
  obtain ⟨h0, p, c, O, h1, h2⟩ := h
  obtain ⟨_, p', c', hr1, _⟩ := hr
  obtain ⟨O', h3, h4, h5⟩ := h1.canon
  refine ⟨h0, p, c, O', h3.kept (k.mono fun i _ hi => ?_), fun i hi => h4 i (h2 i hi)⟩
  by_cases e : O' i = 0
  · exact e
  · obtain ⟨cs, E, hcs, hE⟩ := h5 i e
    rw [hi] at hcs
    have := cells_ty hr1.st hcs
    subst this
    rcases hE with hE | hE <;> cases hE
/-- What a call of the program's does to the program's book. -/
def PS (f : Nat) (args : Nat → Array Value) (v : Value) (R R' : Nat → List Od) : Prop := ∀ w bk p c O, BkAt w bk R p c O →
  Calls Try.prog f (args bk) w fun e w' => e = .returned v ∧ ∃ p' c' O', BkAt w' bk R' p' c' O' ∧ Grows3 O O' w w'
def RS (f : Nat) (args : Nat → Array Value) (v : Value) (R R' : Nat → List Od) : Prop := ∀ w m p c, RbAt w m R p c →
  Calls Try.prog f (args m) w fun e w' => e = .returned v ∧ ∃ p' c', RbAt w' m R' p' c' ∧ Kept (fun b => b = m) w w' ∧ Newer p p' w
def PSPost (w0 : World) (bk : Nat) (R' : Nat → List Od) (v : Value) (w : World) (e : Ending) (w' : World) : Prop :=
  e = .returned v ∧ SB w0 bk R' w' ∧ (∀ m Rr, SR w0 m Rr w → SR w0 m Rr w') ∧ Kept (fun b => w0.heap.size ≤ b) w w' ∧ ∀ (b : Nat) cs, w.heap[b]? = some (Obj.cells cs 33 (0, 0)) → w'.heap[b]? = some (Obj.cells cs 33 (0, 0))
theorem PS.call {f : Nat} {args : Nat → Array Value} {v : Value} {R R' : Nat → List Od} (h : PS f args v R R') {w0 w : World} {bk : Nat} (hs : SB w0 bk R w) : Calls Try.prog f (args bk) w (PSPost w0 bk R' v w) := by
  obtain ⟨h0, p, c, O, h1, h2⟩ := hs
  obtain ⟨O', h3, h4, h5⟩ := h1.canon
  refine (h w bk p c O' h3).mono fun e w' ⟨he, p', c', O'', hb, hg⟩ => ⟨he, ⟨h0, p', c', O'', hb, fun i hi => ?_⟩, fun m Rr hr => ?_, ?_, fun b cs hb' => ?_⟩
  · have hlt : i < w.heap.size := by
      have := lt_of_block h1.st; omega
    rw [hg.old i hlt]; exact h4 i (h2 i hi)
  · obtain ⟨hm, pr, cr, hr1, hr2⟩ := hr
    refine ⟨hm, pr, cr, hr1.kept hg.kept (fun hO => ?_) (fun j hj t ht hO => ?_), hr2⟩
    · obtain ⟨cs, E, hcs, hE⟩ := h5 m hO
      have := cells_ty hr1.st hcs
      subst this
      rcases hE with hE | hE <;> cases hE
    · obtain ⟨cs, E, hcs, hE⟩ := h5 t.block hO
      have hsl := hr1.sl j hj
      rw [ht] at hsl
      obtain ⟨cs', hcs'⟩ := hsl.obj
      have := cells_ty hcs' hcs
      subst this
      rcases hE with hE | hE <;> cases hE
  · refine hg.kept.mono fun i _ hi => ?_
    by_cases e : i < w0.heap.size
    · exact absurd (h4 i (h2 i e)) hi
    · omega
  · refine (hg.kept.block b (lt_of_block hb') (fun hO => ?_)).trans hb'
    obtain ⟨cs', E, hcs, hE⟩ := h5 b hO
    have := cells_ty hb' hcs
    subst this
    rcases hE with hE | hE <;> cases hE
def RSPost (w0 : World) (m : Nat) (R' : Nat → List Od) (v : Value) (w : World) (e : Ending) (w' : World) : Prop :=
  e = .returned v ∧ SR w0 m R' w' ∧ (∀ bk Rb, SB w0 bk Rb w → SB w0 bk Rb w') ∧ Kept (fun b => b = m) w w'
theorem RS.call {f : Nat} {args : Nat → Array Value} {v : Value} {R R' : Nat → List Od} (h : RS f args v R R') {w0 w : World} {m : Nat} (hs : SR w0 m R w) : Calls Try.prog f (args m) w (RSPost w0 m R' v w) := by
  have hs' := hs
  obtain ⟨h0, p, c, h1, h2⟩ := hs
  refine (h w m p c h1).mono fun e w' ⟨he, p', c', hb, hk, hn⟩ => ⟨he, ⟨h0, p', c', hb, fun j hj t ht => ?_⟩, fun bk Rb hbk => hbk.keptM hs' hk, hk⟩
  rcases hn j hj t ht with ⟨j', hj', h'⟩ | h'
  · exact h2 j' hj' t h'
  · have := lt_of_block h1.st; omega
theorem Newer.same (p : Nat → Option Addr) (w : World) : Newer p p w := fun j hj _ ht => .inl ⟨j, hj, ht⟩

/-! ### the rows, in order -/
structure GI (R : Nat → List Od) : Prop where
  good : Good R
  units : ∀ k, k < 2 → ∀ x ∈ R k, x.units ≤ 1000000
  few : (R 0).length + (R 1).length ≤ 256
theorem rah_true {a b : Od} (hs : a.side = b.side) (h12 : a.side = 1 ∨ a.side = 2) (hid : a.id ≠ b.id) (h : ¬ cmpI b a < 0) : rahB a b = true := by
  unfold rahB
  by_cases h1 : a.side = 1
  · rw [cmp_buy (hs ▸ h1)] at h
    by_cases hn : a.net = b.net
    · rw [if_neg (by simpa using hn)]; simp; omega
    · rw [if_pos hn, h1]; simp; omega
  · rw [cmp_sell (hs ▸ h1)] at h
    have h2 : a.side = 2 := h12.resolve_left h1
    by_cases hn : a.net = b.net
    · rw [if_neg (by simpa using hn)]; simp; omega
    · rw [if_pos hn, h2]; simp; omega
theorem rah_false {a b : Od} (hs : a.side = b.side) (h12 : a.side = 1 ∨ a.side = 2) (h : cmpI b a < 0) : rahB a b = false := by
  unfold rahB
  by_cases h1 : a.side = 1
  · rw [cmp_buy (hs ▸ h1)] at h
    by_cases hn : a.net = b.net
    · rw [if_neg (by simpa using hn)]; simp; omega
    · rw [if_pos hn, h1]; simp; omega
  · rw [cmp_sell (hs ▸ h1)] at h
    have h2 : a.side = 2 := h12.resolve_left h1
    by_cases hn : a.net = b.net
    · rw [if_neg (by simpa using hn)]; simp; omega
    · rw [if_pos hn, h2]; simp; omega
theorem mem_idx {xs : List Od} {i : Nat} {x : Od} (h : xs[i]? = some x) : x ∈ xs := List.mem_of_getElem? h
theorem none_ids {R : Nat → List Od} {id : Int} (h : findR R id = none) : ∀ k, k < 2 → ∀ x ∈ R k, x.id ≠ id := by
  have hn : ∀ xs : List Od, idxN xs id = none → ∀ x ∈ xs, x.id ≠ id := fun xs h x hx e => by
    unfold idxN at h
    rw [List.findIdx?_eq_none_iff] at h
    have := h x hx
    simp [e] at this
  intro k hk
  unfold findR at h
  cases h0 : idxN (R 0) id with
  | some j => rw [h0] at h; cases h
  | none =>
    rw [h0] at h
    cases h1 : idxN (R 1) id with
    | some j => rw [h1] at h; cases h
    | none =>
      have h2 : k = 0 ∨ k = 1 := by omega
      rcases h2 with rfl | rfl
      · exact hn _ h0
      · exact hn _ h1
theorem Srt.sub {s : Int} {xs ys : List Od} (h : Srt s xs) (hs : ys.Sublist xs) : Srt s ys := ⟨h.1.sublist hs, fun x hx => h.2 x (hs.subset hx)⟩
theorem delAt_sub (xs : List Od) (i : Nat) : (delAt xs i).Sublist xs := by
  unfold delAt
  conv => rhs; rw [← List.take_append_drop i xs]
  refine List.Sublist.append (List.Sublist.refl _) ?_
  exact List.drop_sublist_drop_left _ (Nat.le_succ i)
theorem GI.side {R : Nat → List Od} (h : GI R) {k i : Nat} {d : Od} (hk : k < 2) (hd : (R k)[i]? = some d) : d.side = (k : Int) + 1 := by
  have h2 : k = 0 ∨ k = 1 := by omega
  rcases h2 with rfl | rfl
  · exact h.good.buy.2 d (mem_idx hd)
  · exact h.good.sell.2 d (mem_idx hd)
theorem GI.upd {R : Nat → List Od} (h : GI R) {k : Nat} (hk : k < 2) {ys : List Od} (hs : Srt ((k : Int) + 1) ys) (hl : ys.length ≤ (R k).length) (hu : ∀ x ∈ ys, x.units ≤ 1000000) : GI (upd R k ys) := by
  have h2 : k = 0 ∨ k = 1 := by omega
  rcases h2 with rfl | rfl
  · refine ⟨⟨by rw [upd_same]; exact hs, by rw [upd_other _ _ (by decide)]; exact h.good.sell⟩, fun j hj x hx => ?_, by rw [upd_same, upd_other _ _ (by decide)]; have := h.few; omega⟩
    by_cases e : j = 0
    · subst e; rw [upd_same] at hx; exact hu x hx
    · rw [upd_other _ _ e] at hx; exact h.units j hj x hx
  · refine ⟨⟨by rw [upd_other _ _ (by decide)]; exact h.good.buy, by rw [upd_same]; exact hs⟩, fun j hj x hx => ?_, by rw [upd_same, upd_other _ _ (by decide)]; have := h.few; omega⟩
    by_cases e : j = 1
    · subst e; rw [upd_same] at hx; exact hu x hx
    · rw [upd_other _ _ e] at hx; exact h.units j hj x hx
theorem GI.srt {R : Nat → List Od} (h : GI R) {k : Nat} (hk : k < 2) : Srt ((k : Int) + 1) (R k) := by
  have h2 : k = 0 ∨ k = 1 := by omega
  rcases h2 with rfl | rfl
  · exact h.good.buy
  · exact h.good.sell
theorem GI.del {R : Nat → List Od} (h : GI R) {k : Nat} (hk : k < 2) (i : Nat) : GI (Ytopfgcnehdjjpaa.upd R k (delAt (R k) i)) :=
  h.upd hk ((h.srt hk).sub (delAt_sub _ _)) (delAt_sub _ _).length_le (fun x hx => h.units k hk x ((delAt_sub _ _).subset hx))
theorem cmp_units {a b a' b' : Od} (h1 : a.id = a'.id) (h2 : a.side = a'.side) (h3 : a.net = a'.net) (h4 : b.id = b'.id) (h5 : b.net = b'.net) : cmpI a b = cmpI a' b' := by
  unfold cmpI netI; rw [h1, h2, h3, h4, h5]
theorem pw_map {xs ys : List Od} (h : xs.map (fun x => (x.id, x.side, x.net)) = ys.map (fun x => (x.id, x.side, x.net))) (hp : xs.Pairwise (fun a b => cmpI a b < 0)) : ys.Pairwise (fun a b => cmpI a b < 0) := by
  let f : Int × Int × Int → Od := fun t => ⟨t.1, 0, t.2.1, t.2.2, 0⟩
  have hc : ∀ a b : Od, cmpI a b = cmpI (f (a.id, a.side, a.net)) (f (b.id, b.side, b.net)) := fun a b => cmp_units rfl rfl rfl rfl rfl
  have e : ∀ zs : List Od, zs.Pairwise (fun a b => cmpI a b < 0) ↔ (zs.map (fun x => (x.id, x.side, x.net))).Pairwise (fun s t => cmpI (f s) (f t) < 0) := fun zs => by
    rw [List.pairwise_map]
    exact ⟨fun h => h.imp fun {a b} h => by rw [← hc]; exact h, fun h => h.imp fun {a b} h => by rw [hc]; exact h⟩
  rw [e] at hp ⊢
  rw [← h]; exact hp
theorem GI.set {R : Nat → List Od} (h : GI R) {k i : Nat} {d : Od} (hk : k < 2) (hd : (R k)[i]? = some d) (u : Int) (hu : u ≤ 1000000) : GI (Ytopfgcnehdjjpaa.upd R k ((R k).set i { d with units := u })) := by
  refine h.upd hk ⟨pw_map (xs := R k) ?_ (h.srt hk).1, fun x hx => ?_⟩ (by rw [List.length_set]; exact Nat.le_refl _) (fun x hx => ?_)
  · rw [List.map_set]
    apply List.ext_getElem?
    intro j
    rw [List.getElem?_set]
    split
    · rename_i e; subst e
      have hi : i < (R k).length := (List.getElem?_eq_some_iff.1 hd).1
      rw [if_pos (by simpa using hi), List.getElem?_map, hd]; rfl
    · rfl
  · rcases List.mem_or_eq_of_mem_set hx with hx | rfl
    · exact (h.srt hk).2 x hx
    · exact (h.srt hk).2 d (mem_idx hd)
  · rcases List.mem_or_eq_of_mem_set hx with hx | rfl
    · exact h.units k hk x hx
    · exact hu
end Go.Proofs.Ytopfgcnehdjjpaa
