/- A region that draws its order, walked operation by operation, whatever the order: what each slot holds once it is written is said of the world as it stands. -/
import Derived.Test.YtgbdnodkbdkaeaaRo
import Derived.Orders
namespace Go.Proofs.Ytgbdnodkbdkaeaa
open Go.RowKit

/-- A frame with values laid into its slots. -/
def puts (a : Act) : List (Option Tmp) → List Value → Act
  | d :: ds, v :: vs => puts (a.put d v) ds vs
  | _, _ => a
def disB : List (Option Tmp) → Bool
  | [] => true
  | some t :: ds => !ds.contains (some t) && disB ds
  | none :: ds => disB ds
theorem disB_cons {d : Option Tmp} {ds : List (Option Tmp)} (h : disB (d :: ds) = true) : (∀ t, d = some t → some t ∉ ds) ∧ disB ds = true := by
  cases d with
  | none => exact ⟨fun t ht => (by cases ht), by simpa [disB] using h⟩
  | some t =>
    simp only [disB, Bool.and_eq_true, Bool.not_eq_true'] at h
    exact ⟨fun t' ht' => (by cases ht'; simpa using h.1), h.2⟩
theorem put_put (a : Act) (d : Option Tmp) (u v : Value) : (a.put d u).put d v = a.put d v := by
  cases d with
  | none => rfl
  | some t => simp [Act.put]
theorem put_defers (a : Act) (d : Option Tmp) (v : Value) : (a.put d v).defers = a.defers := by cases d <;> rfl
theorem put_size (a : Act) (d : Option Tmp) (v : Value) : (a.put d v).tmps.size = a.tmps.size := by cases d <;> simp [Act.put]
theorem puts_put {d : Option Tmp} {v : Value} : ∀ {ds : List (Option Tmp)} {vs : List Value} {a : Act}, (∀ t, d = some t → some t ∉ ds) → (puts a ds vs).put d v = puts (a.put d v) ds vs
  | [], _, _, _ => rfl
  | _ :: _, [], _, _ => rfl
  | d' :: ds, v' :: vs, a, h => by
    show (puts (a.put d' v') ds vs).put d v = puts ((a.put d v).put d' v') ds vs
    rw [puts_put (fun t ht hm => h t ht (List.mem_cons_of_mem _ hm)), Act.put_comm a v v' (fun t ht e => h t ht (e ▸ List.mem_cons_self))]
theorem puts_set {v : Value} : ∀ {ds : List (Option Tmp)} {vs : List Value} {a : Act} {k : Nat} {d : Option Tmp}, disB ds = true → ds[k]? = some d → vs.length = ds.length → (puts a ds vs).put d v = puts a ds (vs.set k v)
  | [], _, _, k, _, _, hk, _ => by simp at hk
  | _ :: _, [], _, _, _, _, _, hl => by simp at hl
  | d' :: ds, v' :: vs, a, 0, d, h, hk, _ => by
    obtain rfl : d' = d := by simpa using hk
    show (puts (a.put d' v') ds vs).put d' v = puts (a.put d' v) ds vs
    rw [puts_put (disB_cons h).1, put_put]
  | d' :: ds, v' :: vs, a, k + 1, d, h, hk, hl => by
    show (puts (a.put d' v') ds vs).put d v = puts (a.put d' v') ds (vs.set k v)
    exact puts_set (disB_cons h).2 (by simpa using hk) (by simpa using hl)
theorem puts_defers : ∀ {ds : List (Option Tmp)} {vs : List Value} {a : Act}, (puts a ds vs).defers = a.defers
  | [], _, _ => rfl
  | _ :: _, [], _ => rfl
  | d' :: ds, v' :: vs, a => by
    show (puts (a.put d' v') ds vs).defers = _
    rw [puts_defers, put_defers]
theorem puts_other {t : Tmp} : ∀ {ds : List (Option Tmp)} {vs : List Value} {a : Act}, some t ∉ ds → (puts a ds vs).eval (.tmp t) = a.eval (.tmp t)
  | [], _, _, _ => rfl
  | _ :: _, [], _, _ => rfl
  | d' :: ds, v' :: vs, a, h => by
    show (puts (a.put d' v') ds vs).eval (.tmp t) = _
    rw [puts_other (fun hm => h (List.mem_cons_of_mem _ hm)), Act.eval_put (fun d hd he => h (by cases he; rw [hd]; exact List.mem_cons_self))]
theorem puts_at {t : Tmp} : ∀ {ds : List (Option Tmp)} {vs : List Value} {a : Act} {k : Nat}, disB ds = true → ds[k]? = some (some t) → vs.length = ds.length → t < a.tmps.size → (puts a ds vs).eval (.tmp t) = vs.getD k undef
  | [], _, _, k, _, hk, _, _ => by simp at hk
  | _ :: _, [], _, _, _, _, hl, _ => by simp at hl
  | d' :: ds, v' :: vs, a, 0, h, hk, _, ht => by
    obtain rfl : d' = some t := by simpa using hk
    show (puts (a.put (some t) v') ds vs).eval (.tmp t) = _
    rw [puts_other ((disB_cons h).1 t rfl)]
    simp [Act.eval, Act.put, Array.getD, ht]
  | d' :: ds, v' :: vs, a, k + 1, h, hk, hl, ht => by
    show (puts (a.put d' v') ds vs).eval (.tmp t) = (v' :: vs).getD (k + 1) undef
    rw [puts_at (disB_cons h).2 (by simpa using hk) (by simpa using hl) (by rw [put_size]; exact ht)]
    simp
theorem put_eval_self (a : Act) (t : Tmp) : a.put (some t) (a.eval (.tmp t)) = a := by
  obtain ⟨tm, df⟩ := a
  simp only [Act.put, Act.eval]
  congr 1
  apply Array.ext_getElem?
  intro i
  rw [Array.getElem?_setIfInBounds]
  by_cases e : t = i
  · subst e
    rw [if_pos rfl]
    by_cases h : t < tm.size
    · rw [if_pos h]; simp [Array.getD, h]
    · rw [if_neg h]; simp [Array.getElem?_eq_none (Nat.le_of_not_lt h)]
  · rw [if_neg e]
theorem puts_start : ∀ (ds : List (Option Tmp)) (a : Act), puts a ds (ds.map fun d => match d with | some t => a.eval (.tmp t) | none => undef) = a
  | [], a => rfl
  | none :: ds, a => puts_start ds a
  | some t :: ds, a => by
    show puts (a.put (some t) (a.eval (.tmp t))) ds _ = a
    rw [put_eval_self]
    exact puts_start ds a
theorem puts_size : ∀ {ds : List (Option Tmp)} {vs : List Value} {a : Act}, (puts a ds vs).tmps.size = a.tmps.size
  | [], _, _ => rfl
  | _ :: _, [], _ => rfl
  | d' :: ds, v' :: vs, a => by
    show (puts (a.put d' v') ds vs).tmps.size = _
    rw [puts_size, put_size]
theorem puts_far {ds : List (Option Tmp)} {vs : List Value} {a : Act} {t : Tmp} (h : ¬ t < a.tmps.size) : (puts a ds vs).eval (.tmp t) = a.eval (.tmp t) := by
  have h2 : ¬ t < (puts a ds vs).tmps.size := by rw [puts_size]; exact h
  simp [Act.eval, Array.getD, h, h2]

theorem slotE {a : Act} {t : Tmp} {v : Value} (h : a.eval (.tmp t) = v) : (a.tmps[t]?).getD undef = v := by
  rw [← h]; simp [Act.eval]

def dstsOf (ops : Array Oper) : List (Option Tmp) := ops.toList.map (·.dst)
/-- Operation j waits for operation k. -/
def reachB (ops : Array Oper) (k : Nat) : Nat → Nat → Bool
  | 0, j => j == k
  | fuel + 1, j => j == k || ((ops[j]?).map fun o => o.after.any fun e => Region.binds .any e && reachB ops k fuel e.on).getD false
/-- Whatever writes slot t waits for operation k. -/
def freeB (ops : Array Oper) (k : Nat) (t : Tmp) : Bool := (List.range ops.size).all fun j => ((ops[j]?).map fun o => o.dst != some t || reachB ops k ops.size j).getD true
/-- Whatever strikes what is known of operation j's value waits for operation k. -/
def liveB (ops : Array Oper) (kills : Nat → Nat → Bool) (k j : Nat) : Bool := (List.range ops.size).all fun k' => !kills k' j || reachB ops k ops.size k'
def depB (o : Oper) (j : Nat) : Bool := o.after.any fun e => Region.binds .any e && e.on == j
def sizeB (ops : Array Oper) (a : Act) : Bool := (dstsOf ops).all fun d => match d with | some t => decide (t < a.tmps.size) | none => true
/-- What is to be shown of operation k. -/
def StepOk (P : Program) (ops : Array Oper) (a0 : Act) (C : World → Prop) (kills : Nat → Nat → Bool) (V : Nat → Value → World → Prop) (S : Nat → World → Prop) (Q : Exit → Act → World → Prop) (k : Nat) (o : Oper) : Prop :=
  ∀ (a : Act) (w : World), C w → (∀ j, reachB ops k ops.size j = true → S j w) →
    (∀ j, depB o j = true → liveB ops kills k j = true → ∃ u, V j u w ∧ ∀ d, (ops[j]?).bind (·.dst) = some d → a.eval (.tmp d) = u) →
    (∀ t, freeB ops k t = true → a.eval (.tmp t) = a0.eval (.tmp t)) →
    Region.wanted o (yielded ops a.tmps) = true ∧ ∀ K : Act → World → Prop, (∀ v w', V k v w' → C w' → (∀ j u, j ≠ k → kills k j = false → reachB ops k ops.size j = false → V j u w → V j u w') → (∀ j, j ≠ k → reachB ops j ops.size k = false → S j w → S j w') → K (a.put o.dst v) w') → o.wp P a w K Q
def StepsOk (P : Program) (ops : Array Oper) (a0 : Act) (C : World → Prop) (kills : Nat → Nat → Bool) (V : Nat → Value → World → Prop) (S : Nat → World → Prop) (Q : Exit → Act → World → Prop) : Nat → List Oper → Prop
  | _, [] => True
  | k, o :: rest => StepOk P ops a0 C kills V S Q k o ∧ StepsOk P ops a0 C kills V S Q (k + 1) rest
theorem StepsOk.at {P : Program} {ops : Array Oper} {a0 : Act} {C : World → Prop} {kills : Nat → Nat → Bool} {V : Nat → Value → World → Prop} {S : Nat → World → Prop} {Q : Exit → Act → World → Prop} : ∀ {l : List Oper} {k j : Nat} {o : Oper},
    StepsOk P ops a0 C kills V S Q k l → l[j]? = some o → StepOk P ops a0 C kills V S Q (k + j) o
  | [], _, _, _, _, hj => by simp at hj
  | _ :: _, k, 0, o, h, hj => by obtain rfl := Option.some.inj hj; exact h.1
  | _ :: l, k, j + 1, o, h, hj => by
    have := StepsOk.at (l := l) (k := k + 1) (j := j) h.2 (by simpa using hj)
    rwa [show k + 1 + j = k + (j + 1) by omega] at this
def backB (ops : Array Oper) : Bool := (List.range ops.size).all fun i => ((ops[i]?).map fun o => o.after.all fun e => !Region.binds .any e || decide (e.on < i)).getD true

theorem reach_listed {ops : Array Oper} {listed : Array Bool} (hcl : ∀ j o, ops[j]? = some o → listed.getD j false = true → ∀ e ∈ o.after, Region.binds .any e = true → listed.getD e.on false = true) {k : Nat} (hk : listed.getD k false = false) :
    ∀ (fuel j : Nat), reachB ops k fuel j = true → listed.getD j false = false
  | 0, j, h => by
    obtain rfl : j = k := by simpa [reachB] using h
    exact hk
  | fuel + 1, j, h => by
    simp only [reachB, Bool.or_eq_true] at h
    rcases h with h | h
    · obtain rfl : j = k := by simpa using h
      exact hk
    · cases ho : ops[j]? with
      | none => rw [ho] at h; cases h
      | some o =>
        rw [ho] at h
        simp only [Option.map_some, Option.getD_some, Array.any_eq_true] at h
        obtain ⟨i, hi, h2⟩ := h
        rw [Bool.and_eq_true] at h2
        have h3 := reach_listed hcl hk fuel _ h2.2
        cases hl : listed.getD j false with
        | false => rfl
        | true => rw [hcl j o ho hl o.after[i] (by simp) h2.1] at h3; cases h3
theorem count_set : ∀ (l : List Bool) (i : Nat), l[i]? = some false → (l.set i true).count false + 1 = l.count false
  | [], i, h => by simp at h
  | b :: l, 0, h => by obtain rfl : b = false := by simpa using h
                       simp
  | b :: l, i + 1, h => by
    have := count_set l i (by simpa using h)
    cases b <;> simp [List.set] <;> omega

theorem wpAny_vals {P : Program} {ops : Array Oper} {a0 : Act} {C : World → Prop} {kills : Nat → Nat → Bool} {V : Nat → Value → World → Prop} {S : Nat → World → Prop} {Q : Exit → Act → World → Prop}
    (hdis : disB (dstsOf ops) = true) (hback : backB ops = true) (hsize : sizeB ops a0 = true) (hst : StepsOk P ops a0 C kills V S Q 0 ops.toList)
    (hend : ∀ vs w, vs.length = ops.size → C w → (∀ j, j < ops.size → (∀ k', k' < ops.size → kills k' j = false) → V j (vs.getD j undef) w) → Q .normal (puts a0 (dstsOf ops) vs) w) :
    ∀ (fuel : Nat) (listed : Array Bool) (vs : List Value) (w : World), listed.size = ops.size → listed.toList.count false ≤ fuel → C w → vs.length = ops.size →
      (∀ j, listed.getD j false = true → (∀ k', kills k' j = true → listed.getD k' false = false) → V j (vs.getD j undef) w) →
      (∀ j t, ((ops[j]?).bind (·.dst)) = some t → listed.getD j false = false → vs.getD j undef = a0.eval (.tmp t)) →
      (∀ j o, ops[j]? = some o → listed.getD j false = true → ∀ e ∈ o.after, Region.binds .any e = true → listed.getD e.on false = true) → (∀ j, listed.getD j false = false → S j w) →
      wpAny P .any ops Q fuel listed (puts a0 (dstsOf ops) vs) w := by
  have hlen : (dstsOf ops).length = ops.size := by simp [dstsOf]
  have hall : ∀ (listed : Array Bool) (vs : List Value) (w : World), listed.size = ops.size → Region.ready .any ops listed = [] → C w → vs.length = ops.size →
      (∀ j, listed.getD j false = true → (∀ k', kills k' j = true → listed.getD k' false = false) → V j (vs.getD j undef) w) → Q .normal (puts a0 (dstsOf ops) vs) w := by
    intro listed vs w hs hr hC hl hV
    have hall : ∀ i, i < ops.size → listed.getD i false = true := by
      intro i
      induction i using Nat.strongRecOn with
      | ind i ih =>
        intro hi
        cases hb : listed.getD i false with
        | true => rfl
        | false =>
          exfalso
          have : i ∈ Region.ready .any ops listed := by
            rw [mem_ready]
            refine ⟨by simp [Array.getD, hs, hi] at hb ⊢; exact hb, ops[i], by simp [hi], fun e he hbd => ih e.on ?_ ?_⟩
            all_goals
              have h1 := List.all_eq_true.1 hback i (List.mem_range.2 hi)
              simp only [Array.getElem?_eq_getElem hi, Option.map_some, Option.getD_some] at h1
              have h2 := Array.all_eq_true'.1 h1 e he
              rw [hbd] at h2
              have h3 : e.on < i := by simpa using h2
              omega
          rw [hr] at this; cases this
    refine hend vs w hl hC fun j hj hk => hV j (hall j hj) fun k' hk' => ?_
    by_cases hlt : k' < ops.size
    · rw [hk k' hlt] at hk'; cases hk'
    · simp [Array.getD, hs, hlt]
  intro fuel
  induction fuel with
  | zero =>
    intro listed vs w hs hc hC hl hV hU hcl hS
    have hr : Region.ready .any ops listed = [] := by
      apply List.eq_nil_iff_forall_not_mem.2
      intro i hi
      obtain ⟨h0, o, ho, _⟩ := mem_ready.1 hi
      have hlt : i < listed.size := by rw [hs]; exact (Array.getElem?_eq_some_iff.1 ho).1
      have : 0 < listed.toList.count false := by
        rw [List.count_pos_iff]
        have h1 : listed[i] = false := by simpa [Array.getD, hlt] using h0
        rw [← h1]; simp
      omega
    exact ⟨hr, hall listed vs w hs hr hC hl hV⟩
  | succ fuel ih =>
    intro listed vs w hs hc hC hl hV hU hcl hS
    refine ⟨fun hr => hall listed vs w hs hr hC hl hV, fun i hi => ?_⟩
    obtain ⟨h0, o, ho, hdep⟩ := mem_ready.1 hi
    have hlt : i < ops.size := (Array.getElem?_eq_some_iff.1 ho).1
    have hli : i < listed.size := by rw [hs]; exact hlt
    have hd : (dstsOf ops)[i]? = some o.dst := by simp [dstsOf, ho]
    have hstep := hst.at (j := i) (o := o) (by simpa using ho)
    rw [Nat.zero_add] at hstep
    obtain ⟨hwant, hw0⟩ := hstep (puts a0 (dstsOf ops) vs) w hC (fun j hr => hS j (reach_listed hcl (k := i) (by simpa [Array.getD, hli] using h0) ops.size j hr))
      (fun j hdj hlive => by
        obtain ⟨x, hx, he⟩ := Array.any_eq_true.1 hdj
        rw [Bool.and_eq_true] at he
        obtain ⟨hb, he⟩ := he
        obtain rfl : o.after[x].on = j := by simpa using he
        refine ⟨vs.getD o.after[x].on undef, hV _ (hdep _ (by simp) hb) (fun k' hk' => ?_), fun d hd' => ?_⟩
        · by_cases hlt' : k' < ops.size
          · have h1 := List.all_eq_true.1 hlive k' (List.mem_range.2 hlt')
            rw [hk'] at h1
            exact reach_listed hcl (k := i) (by simpa [Array.getD, hli] using h0) ops.size k' (by simpa using h1)
          · simp [Array.getD, hs, hlt']
        · have hon : o.after[x].on < ops.size := by
            rcases Nat.lt_or_ge o.after[x].on ops.size with h | h
            · exact h
            · rw [Array.getElem?_eq_none h] at hd'; cases hd'
          have hat : (dstsOf ops)[o.after[x].on]? = some (some d) := by
            simp only [dstsOf, List.getElem?_map, Array.getElem?_toList]
            rw [Array.getElem?_eq_getElem hon] at hd' ⊢
            simpa using hd'
          refine puts_at hdis hat (by rw [hlen, hl]) ?_
          have := List.all_eq_true.1 hsize (some d) (List.mem_of_getElem? hat)
          simpa using this)
      (fun t ht => by
        by_cases hsz : t < a0.tmps.size
        · by_cases hin : some t ∈ dstsOf ops
          · obtain ⟨j, hj⟩ := List.getElem?_of_mem hin
            rw [puts_at hdis hj (by rw [hlen, hl]) hsz]
            have hj' : (ops[j]?).bind (·.dst) = some t := by
              simp only [dstsOf, List.getElem?_map, Array.getElem?_toList] at hj
              cases ho : ops[j]? with
              | none => rw [ho] at hj; cases hj
              | some o => rw [ho] at hj; simpa using hj
            refine hU j t hj' ?_
            have hjn : j < ops.size := by
              rcases Nat.lt_or_ge j ops.size with h | h
              · exact h
              · rw [Array.getElem?_eq_none h] at hj'; cases hj'
            have h1 := List.all_eq_true.1 ht j (List.mem_range.2 hjn)
            rw [Array.getElem?_eq_getElem hjn] at h1 hj'
            simp only [Option.map_some, Option.getD_some, Bool.or_eq_true] at h1
            refine reach_listed hcl (k := i) (by simpa [Array.getD, hli] using h0) ops.size j (h1.resolve_left ?_)
            have : ops[j].dst = some t := by simpa using hj'
            rw [this]; simp
          · exact puts_other hin
        · exact puts_far hsz)
    have hw := hw0 (fun a' w' => ∃ v, a' = (puts a0 (dstsOf ops) vs).put o.dst v ∧ V i v w' ∧ C w' ∧ (∀ j u, j ≠ i → kills i j = false → reachB ops i ops.size j = false → V j u w → V j u w') ∧ (∀ j, j ≠ i → reachB ops j ops.size i = false → S j w → S j w'))
      (fun v w' h1 h2 h3 h4 => ⟨v, rfl, h1, h2, h3, h4⟩)
    unfold wpOp
    rw [ho]
    simp only [hwant, if_true]
    refine .inl (Oper.wp_mono ?_ hw)
    rintro a' w' ⟨v, rfl, hv, hC', hkeep, hS'⟩
    rw [puts_set hdis hd (by rw [hlen, hl])]
    have hcl' : ∀ j o, ops[j]? = some o → (listed.setIfInBounds i true).getD j false = true → ∀ e ∈ o.after, Region.binds .any e = true → (listed.setIfInBounds i true).getD e.on false = true := by
      intro j o' ho' hj e he hb
      by_cases e2 : i = j
      · subst e2
        obtain rfl := Option.some.inj (ho.symm.trans ho')
        exact getD_set_true (hdep e he hb)
      · rw [getD_set_ne _ e2] at hj
        exact getD_set_true (hcl j o' ho' hj e he hb)
    refine ih _ _ _ (by simpa using hs) ?_ hC' (by simpa using hl) ?_ ?_ ?_ ?_
    · have := count_set listed.toList i (by simp; simpa [hli] using h0)
      simp only [Array.toList_setIfInBounds]; omega
    · intro j hj hkj
      by_cases e : j = i
      · subst e
        have : (vs.set j v).getD j undef = v := by simp [List.getD, show j < vs.length by omega]
        rw [this]; exact hv
      · have : (vs.set i v).getD j undef = vs.getD j undef := by simp [List.getD, List.getElem?_set, Ne.symm e]
        rw [this]
        have hlj : listed.getD j false = true := by rwa [getD_set_ne _ (Ne.symm e)] at hj
        refine hkeep j _ e ?_ ?_ (hV j hlj ?_)
        · cases hk : kills i j with
          | false => rfl
          | true =>
            have := hkj i hk
            simp [Array.getD, hli] at this
        · cases hr : reachB ops i ops.size j with
          | false => rfl
          | true => rw [reach_listed hcl (k := i) (by simpa [Array.getD, hli] using h0) ops.size j hr] at hlj; cases hlj
        · intro k' hk'
          have := hkj k' hk'
          by_cases e2 : i = k'
          · subst e2; simp [Array.getD, hli] at this
          · rwa [getD_set_ne _ e2] at this
    · intro j t hj hu
      by_cases e : i = j
      · subst e; simp [Array.getD, hli] at hu
      · rw [getD_set_ne _ e] at hu
        have : (vs.set i v).getD j undef = vs.getD j undef := by simp [List.getD, List.getElem?_set, e]
        rw [this]; exact hU j t hj hu
    · exact hcl'
    · intro ks hks
      by_cases e : i = ks
      · subst e; simp [Array.getD, hli] at hks
      · rw [getD_set_ne _ e] at hks
        refine hS' ks (Ne.symm e) ?_ (hS ks hks)
        cases hr : reachB ops ks ops.size i with
        | false => rfl
        | true =>
          have := reach_listed hcl' (k := ks) (by rw [getD_set_ne _ e]; exact hks) ops.size i hr
          simp [Array.getD, hli] at this

/-- **The region**: C is said of every world, V of each slot that is written. -/
theorem wp_region_vals {P : Program} {id : Nat} {ops : Array Oper} {a : Act} {w : World} {Q : Exit → Act → World → Prop} (hm : P.follows .mixedOrders = true) (hdis : disB (dstsOf ops) = true) (hback : backB ops = true) (hsize : sizeB ops a = true)
    (C : World → Prop) (kills : Nat → Nat → Bool) (V : Nat → Value → World → Prop) (S : Nat → World → Prop) (hC : C w.drew) (hS : ∀ j, S j w.drew) (hst : StepsOk P ops a C kills V S Q 0 ops.toList)
    (hend : ∀ vs w, vs.length = ops.size → C w → (∀ j, j < ops.size → (∀ k', k' < ops.size → kills k' j = false) → V j (vs.getD j undef) w) → Q .normal (puts a (dstsOf ops) vs) w) :
    (Code.region id ops true).wp P Q a w := by
  refine wp_region_any hm ?_
  have := wpAny_vals hdis hback hsize hst hend ops.size (Array.replicate ops.size false) ((dstsOf ops).map fun d => match d with | some t => a.eval (.tmp t) | none => undef) w.drew (by simp) (by simp) hC (by simp [dstsOf])
    (fun j hj => by simp [Array.getD] at hj)
    (fun j t hj _ => by
      have : (dstsOf ops)[j]? = some (some t) := by
        simp only [dstsOf, List.getElem?_map, Array.getElem?_toList]
        cases ho : ops[j]? with
        | none => rw [ho] at hj; cases hj
        | some o => rw [ho] at hj; simpa using hj
      simp [List.getD, this])
    (fun j o ho hj => by simp [Array.getD] at hj) (fun j _ => hS j)
  rwa [puts_start] at this
/-! ### what is said of a slot -/
inductive Kd
  | any
  | val (v : Value)
  | emp (E : TypeId)
  | box (E : TypeId) (n : Nat) (cs : List Value)
  | fr (E size n : Nat) (xs : List Value)
  | old (E size n cap : Nat) (xs : List Value)
  | wd (Φ : World → Prop)
  | vl (Φ : Value → Prop)
  | vw (Φ : Value → World → Prop)
def Kd.is (wc : World) : Kd → Value → World → Prop
  | any, _, _ => True
  | val u, v, _ => v = u
  | emp E, v, w => ∃ b, v = .slice (some ⟨b, 0, none⟩) 0 0 ∧ w.heap[b]? = some (.cells #[] E (0, 0)) ∧ wc.heap.size ≤ b
  | box E n cs, v, w => ∃ b, v = .slice (some ⟨b, 0, none⟩) n n ∧ w.heap[b]? = some (.cells cs.toArray E (0, 0)) ∧ wc.heap.size ≤ b
  | fr E size n xs, v, w => ∃ p cap, v = .slice p n cap ∧ Fr E size xs wc p n cap w
  | old E size n cap xs, v, _ => ∃ p, v = .slice p n cap ∧ SlAt wc E size p n cap xs
  | wd Φ, _, w => Φ w
  | vl Φ, v, _ => Φ v
  | vw Φ, v, w => Φ v w
def Kd.plain : Kd → Bool
  | wd _ => false
  | vw _ => false
  | _ => true
theorem Kd.mono {wc w w' : World} {k : Kd} {v : Value} (hk : Kept (fun _ => False) w w') (hp : k.plain = true) (h : k.is wc v w) : k.is wc v w' := by
  cases k with
  | any => exact h
  | val u => exact h
  | emp E => obtain ⟨b, h1, h2, h3⟩ := h; exact ⟨b, h1, (hk.block b (lt_of_block h2) (fun h => h)).trans h2, h3⟩
  | box E n cs => obtain ⟨b, h1, h2, h3⟩ := h; exact ⟨b, h1, (hk.block b (lt_of_block h2) (fun h => h)).trans h2, h3⟩
  | fr E size n xs => obtain ⟨p, cap, h1, h2⟩ := h; exact ⟨p, cap, h1, h2.mono hk⟩
  | old E size n cap xs => exact h
  | vl Φ => exact h
  | wd Φ => cases hp
  | vw Φ => cases hp
/-- A value, or a block that has cells. -/
def Kd.solid : Kd → Bool
  | any => true
  | val _ => true
  | old _ _ _ _ _ => true
  | vl _ => true
  | box _ _ cs => !cs.isEmpty
  | _ => false
theorem Kd.grow {wc w w' : World} {k : Kd} {v : Value} {b0 : Nat} {E : TypeId} (hg : w.grownBy w' (some b0)) (h0 : w.heap[b0]? = some (.cells #[] E (0, 0))) (hs : k.solid = true) (h : k.is wc v w) : k.is wc v w' := by
  cases k with
  | any => exact h
  | val u => exact h
  | emp E => cases hs
  | fr E size n xs => cases hs
  | old E size n cap xs => exact h
  | vl Φ => exact h
  | wd Φ => cases hs
  | vw Φ => cases hs
  | box E n cs =>
    obtain ⟨b, h1, h2, h3⟩ := h
    refine ⟨b, h1, (hg.block b (lt_of_block h2) (fun e => ?_)).trans h2, h3⟩
    obtain rfl : b = b0 := by simpa using e
    rw [h0] at h2
    have : cs = [] := by
      have h4 : (#[] : Array Value) = cs.toArray := by injection (Option.some.inj h2)
      simpa using congrArg Array.toList h4.symm
    subst this; cases hs
/-- .. or a value alone. -/
def Kd.isVal : Kd → Bool
  | any => true
  | val _ => true
  | old _ _ _ _ _ => true
  | vl _ => true
  | _ => false
theorem Kd.stay {wc w w' : World} {k : Kd} {v : Value} (hs : k.isVal = true) (h : k.is wc v w) : k.is wc v w' := by
  cases k <;> first | exact h | cases hs
def restB (ops : Array Oper) (kills : Nat → Nat → Bool) (k j : Nat) : Bool := j != k && (!kills k j && !reachB ops k ops.size j)
theorem Kd.rest {ops : Array Oper} {kills : Nat → Nat → Bool} {k : Nat} {L : List Kd} {f : Kd → Bool} (hf : f .any = true) (hall : ((List.range L.length).all fun j => !(restB ops kills k j) || f (L.getD j .any)) = true) {j : Nat}
    (hj : j ≠ k) (hk : kills k j = false) (hr : reachB ops k ops.size j = false) : f (L.getD j .any) = true := by
  by_cases hlt : j < L.length
  · have h1 := List.all_eq_true.1 hall j (List.mem_range.2 hlt)
    have h2 : restB ops kills k j = true := by simp [restB, hj, hk, hr]
    rw [h2] at h1; simpa using h1
  · rw [List.getD_eq_getElem?_getD, List.getElem?_eq_none (by omega)]; exact hf
theorem wanted_of {o : Oper} {ops : Array Oper} {a : Act} {g : Nat} {want : Bool} {t : Tmp} (hg : o.guard = some (g, want)) (hd : (ops[g]?).bind (·.dst) = some t) (he : a.eval (.tmp t) = .bool want) : Region.wanted o (yielded ops a.tmps) = true := by
  have he' := slotE he
  have hy : yielded ops a.tmps g = some want := by
    unfold yielded
    rw [hd]
    cases ht : a.tmps[t]? with
    | none => rw [ht] at he'; cases he'
    | some v => rw [ht] at he'; simp at he'; subst he'; simp [ht]
  simp [Region.wanted, hg, hy]
theorem tf_absurd {b : Bool} {p : Prop} (h : b = false) (h2 : b = true) : p := by rw [h] at h2; cases h2
theorem cons_of {vs : List Value} {n : Nat} (h : vs.length = n + 1) : ∃ v l, vs = v :: l ∧ l.length = n := by
  cases vs with
  | nil => simp at h
  | cons v l => exact ⟨v, l, rfl, by simpa using h⟩
theorem nil_of {vs : List Value} (h : vs.length = 0) : vs = [] := List.eq_nil_of_length_eq_zero h
theorem keeps_grown {wc w w' : World} {p : Option Addr} (hC : Kept (fun _ => False) wc w) (hp : ∀ t, p = some t → wc.heap.size ≤ t.block) (hg : w.grownBy w' (p.map (·.block))) : Kept (fun _ => False) wc w' :=
  hC.trans' (Kept.of_grownB hg) fun i hi ⟨t, ht, e⟩ => by have := hp t ht; omega
theorem wp_append_emp {P : Program} {wc w : World} {o : Oper} {a : Act} {K : Act → World → Prop} {Q : Exit → Act → World → Prop} (s x : Operand) (t : TypeId)
    (ho : o.op = .call { callee := .builtin .append, args := #[s, x], argTypes := #[t, t] })
    (e : TypeId) (i : TypeInfo) (z : Value) (size bytes : Nat) (ht : P.underlying t = some (.slice e)) (hi : P.info? e = some i) (hz : i.zero = some z)
    (hsize : i.size = size) (hby : i.bytes = bytes) (hzs : z.cells.size = size) (hsz : 0 < size) (hC : Kept (fun _ => False) wc w)
    (b0 : Nat) (hs : a.eval s = .slice (some ⟨b0, 0, none⟩) 0 0) (hb0 : w.heap[b0]? = some (.cells #[] e (0, 0))) (hn0 : wc.heap.size ≤ b0)
    (b : Option Addr) (m c : Nat) (news : List Value) (hx : a.eval x = .slice b m c) (hb : SlAt w e size b m c news) (h1 : ∀ u ∈ news, u.oneCell' = true)
    (h63 : m ≤ maxLen) (hbytes : m * bytes ≤ 140737488355328)
    (h : ∀ v w', (Kd.fr e size m news).is wc v w' → Kept (fun _ => False) wc w' → w.grownBy w' (some b0) → K (a.put o.dst v) w') : o.wp P a w K Q := by
  refine wp_append_any s x t ho e i z size bytes ht hi hz hsize hby hzs hsz (some ⟨b0, 0, none⟩) 0 0 [] hs ⟨by simp, Nat.le_refl _, .inr ⟨b0, 0, #[], rfl, hb0, by simp, fun j hj => by omega⟩⟩ b m c news hx hb h1 (by omega) (by rw [Nat.zero_add]; exact hbytes) ?_
  intro a' cap' w' g1 g2 g3
  have hC' := keeps_grown (p := some ⟨b0, 0, none⟩) hC (fun t ht => by cases ht; exact hn0) g2
  rw [Nat.zero_add] at g1 ⊢
  refine h _ _ ⟨a', cap', rfl, ⟨by simpa using g1, hC', fun t ht => ?_⟩⟩ hC' g2
  rcases g3 t ht with h4 | h4
  · have : b0 = t.block := by simpa using h4
    omega
  · have := hC.size; omega
theorem wp_append_fr {P : Program} {wc w : World} {o : Oper} {a : Act} {K : Act → World → Prop} {Q : Exit → Act → World → Prop} (s x : Operand) (t : TypeId)
    (ho : o.op = .call { callee := .builtin .append, args := #[s, x], argTypes := #[t, t] })
    (e : TypeId) (i : TypeInfo) (z : Value) (size bytes : Nat) (ht : P.underlying t = some (.slice e)) (hi : P.info? e = some i) (hz : i.zero = some z)
    (hsize : i.size = size) (hby : i.bytes = bytes) (hzs : z.cells.size = size) (hsz : 0 < size)
    (n : Nat) (xs : List Value) (v0 : Value) (hs : a.eval s = v0) (hv0 : (Kd.fr e size n xs).is wc v0 w)
    (b : Option Addr) (m c : Nat) (news : List Value) (hx : a.eval x = .slice b m c) (hb : SlAt w e size b m c news) (h1 : ∀ u ∈ news, u.oneCell' = true)
    (h63 : n + m ≤ maxLen) (hbytes : (n + m) * bytes ≤ 140737488355328)
    (h : ∀ v w', (Kd.fr e size (n + m) (xs ++ news)).is wc v w' → Kept (fun _ => False) wc w' → K (a.put o.dst v) w') : o.wp P a w K Q := by
  obtain ⟨p, cap, rfl, hF⟩ := hv0
  refine wp_append_any s x t ho e i z size bytes ht hi hz hsize hby hzs hsz p n cap xs hs hF.sl b m c news hx hb h1 h63 hbytes ?_
  intro a' cap' w' g1 g2 g3
  have hF' := hF.app g1 g2 g3
  exact h _ _ ⟨a', cap', rfl, hF'⟩ hF'.k
theorem SlAt.of_box {w : World} {b E size n : Nat} {cs : List Value} (h : w.heap[b]? = some (.cells cs.toArray E (0, 0))) (hs : cs.length = n * size) : SlAt w E size (some ⟨b, 0, none⟩) n n cs :=
  ⟨hs, Nat.le_refl _, .inr ⟨b, 0, cs.toArray, rfl, h, by simp [hs], fun j hj => by simp⟩⟩
/-- A frame of which just some slots are known. -/
theorem wp_frame {P : Program} {c : Code} {a : Act} {w : World} {Q : Exit → Act → World → Prop} (h : ∀ a', a' = a → c.wp P Q a' w) : c.wp P Q a w := h a rfl
end Go.Proofs.Ytgbdnodkbdkaeaa
