/- Alloc: tables as the document's, where they may be: grids 9. -/
import Derived.Test.YtgbdnodkbdkaeaaBm
namespace Go.Proofs.Ytgbdnodkbdkaeaa
open Go Go.RowKit

theorem Try.info60' : (Try.prog.info? 60).map (fun i => (i.zero, i.size, i.bytes)) = some (some (.slice none 0 0), 1, 24) := by kernel_rfl
theorem chk_all {w : World} {a : Option Addr} {c : Nat} {xs : Tb} (h8 : xs.length ≤ 8) (hs : StS w a xs) : Calls Try.prog 21 #[.slice a xs.length c] w (WsPost (chkT xs) w) := by
  rcases hs with rfl | ⟨b, o, rfl, h1, h2⟩
  · have := chk_zero (w := w) (a := a) (c := c)
    exact this
  · rcases Nat.eq_zero_or_pos xs.length with h0 | h0
    · obtain rfl := List.eq_nil_of_length_eq_zero h0
      exact chk_zero
    · exact chk_any h0 h8 h2 h1
def gdV (A : Nat → Option Addr) (C : Nat → Nat) (gs : List Tb) (n : Nat) : List Value := (List.range n).map fun k => .slice (A k) (tbAt gs k).length (C k)
/-- The document's tables so far. -/
structure GdS (W : World) (gs : List Tb) (n : Nat) (op : Option Addr) (oc : Nat) (A : Nat → Option Addr) (C : Nat → Nat) (w : World) : Prop where
  fr : Fr 60 1 (gdV A C gs n) W op n oc w
  tb : ∀ k, k < n → SlAt w 93 2 (A k) (tbAt gs k).length (C k) ((tbAt gs k).flatMap stC)
theorem gdV_succ (A : Nat → Option Addr) (C : Nat → Nat) (gs : List Tb) (n : Nat) (p : Option Addr) (cap : Nat) : gdV (upd A n p) (upd C n cap) gs (n + 1) = gdV A C gs n ++ [.slice p (tbAt gs n).length cap] := by
  unfold gdV
  rw [List.range_succ, List.map_append, List.map_singleton, upd_same, upd_same]
  congr 1
  refine List.map_congr_left fun k hk => ?_
  have := List.mem_range.1 hk
  rw [upd_other _ _ (by omega), upd_other _ _ (by omega)]
theorem GdS.app {W w wa w6 : World} {gs : List Tb} {n oc c6 cap : Nat} {op p p6 : Option Addr} {A : Nat → Option Addr} {C : Nat → Nat} (h : GdS W gs n op oc A C w) (ka : Kept (fun _ => False) w wa) (hp : SlAt wa 93 2 p (tbAt gs n).length cap ((tbAt gs n).flatMap stC))
    (hsl6 : SlAt w6 60 1 p6 (n + 1) c6 (gdV A C gs n ++ [.slice p (tbAt gs n).length cap])) (hg6 : wa.grownBy w6 (op.map (·.block))) (hb6 : ∀ t, p6 = some t → op.map (·.block) = some t.block ∨ wa.heap.size ≤ t.block) :
    GdS W gs (n + 1) p6 c6 (upd A n p) (upd C n cap) w6 := by
  have hkeep : ∀ (a : Option Addr) (m c : Nat) (vs : List Value), SlAt wa 93 2 a m c vs → SlAt w6 93 2 a m c vs := fun a m c vs ha => by
    refine ha.kept fun t ht => hg6.block t.block (ha.lt t ht) fun e => ?_
    cases hop : op with
    | none => rw [hop] at e; cases e
    | some u =>
      rw [hop] at e
      obtain ⟨arr2, hu⟩ := h.fr.sl.blk hop
      have hu2 := (ka.block _ (lt_of_block hu) (fun h => h)).trans hu
      have h3 : t.block = u.block := by simpa using e
      obtain ⟨arr, h4⟩ := ha.blk ht
      rw [← h3, h4] at hu2
      cases hu2
  refine ⟨by rw [gdV_succ]; exact (h.fr.mono ka).app hsl6 hg6 hb6, fun k hk => ?_⟩
  by_cases e : k = n
  · subst e; rw [upd_same, upd_same]; exact hkeep _ _ _ _ hp
  · rw [upd_other _ _ e, upd_other _ _ e]
    have h1 := h.tb k (by omega)
    exact hkeep _ _ _ _ (h1.kept fun t ht => ka.block _ (h1.lt t ht) (fun h => h))
def chkG (gs : List Tb) : Nat → Bool
  | 0 => true
  | i + 1 => chkG gs i && chkT (tbAt gs i)
theorem chkG_false {gs : List Tb} {i : Nat} (h : chkG gs i = false) : ∀ n, i ≤ n → chkG gs n = false
  | 0, hn => by obtain rfl : i = 0 := by omega
                exact h
  | n + 1, hn => by
    by_cases e : i = n + 1
    · subst e; exact h
    · show (chkG gs n && _) = false
      rw [chkG_false h n (by omega)]; rfl
theorem chkG_at {gs : List Tb} : ∀ {n : Nat}, chkG gs n = true → ∀ j, j < n → chkT (tbAt gs j) = true
  | 0, _, j, hj => by omega
  | n + 1, h, j, hj => by
    have h' : (chkG gs n && chkT (tbAt gs n)) = true := h
    simp only [Bool.and_eq_true] at h'
    by_cases e : j = n
    · subst e; exact h'.2
    · exact chkG_at h'.1 j (by omega)
theorem chkT_good {xs : Tb} (h : chkT xs = true) : GoodT xs := by
  unfold chkT at h
  simp only [Bool.and_eq_true, decide_eq_true_eq] at h
  refine ⟨h.1, ?_, fun j hj => chkU_rows h.2 j hj⟩
  have := (chkU_at h.2 0 (by omega)).1
  unfold stepB at this
  simp only [if_pos, Bool.and_eq_true, beq_iff_eq] at this
  exact this.1
theorem chkG_good {gs : List Tb} (h : chkG gs gs.length = true) : GoodG gs := fun j hj => chkT_good (chkG_at h j hj)
theorem StS.some {w : World} {a : Option Addr} {xs : Tb} (h : StS w a xs) (hn : 1 ≤ xs.length) : ∃ b o, a = some ⟨b, o, none⟩ ∧ StAt w b o xs ∧ b < w.heap.size := by
  rcases h with rfl | h
  · simp at hn
  · exact h
theorem TaS.tabs {w : World} {a : Option Addr} {gs : List Tb} (h : TaS w a gs) (hg : GoodG gs) : TbS w a gs := by
  rcases h with rfl | ⟨b, off, rfl, h⟩
  · exact .inl rfl
  · refine .inr ⟨b, off, rfl, fun j hj => ?_⟩
    obtain ⟨a1, c1, h1, _, h2⟩ := h j hj
    obtain ⟨b1, o1, rfl, h3, h4⟩ := h2.some (hg j hj).len.1
    exact ⟨b1, o1, c1, h1, h4, h3⟩
theorem GdS.tabs {W w : World} {gs : List Tb} {op : Option Addr} {oc : Nat} {A : Nat → Option Addr} {C : Nat → Nat} (h : GdS W gs gs.length op oc A C w) (hg : GoodG gs) : TbS w op gs := by
  rcases Nat.eq_zero_or_pos gs.length with h0 | hn
  · exact .inl (List.eq_nil_of_length_eq_zero h0)
  · rcases h.fr.sl.2.2 with ⟨_, h2⟩ | ⟨t, o, arr, h1, _⟩
    · have := h.fr.sl.2.1; omega
    · subst h1
      refine .inr ⟨t, o, rfl, fun j hj => ?_⟩
      obtain ⟨b1, o1, e1, h3, h4⟩ := (h.tb j hj).steps.some (hg j hj).len.1
      refine ⟨b1, o1, C j, ?_, h4, h3⟩
      rw [h.fr.sl.cell (j := j) (by omega), ← e1]
      simp [gdV, hj]
theorem run_field64 (v : Value) (n : Int) (w : World) : (Instr.field 64 (.agg #[v, .int .i64 n]) 1).run Try.prog w = .ok (.int .i64 n) w := by
  simp [Instr.field, go_sem, asAgg]
def GrPost (gs : List Tb) (w : World) (e : Ending) (w' : World) : Prop :=
  Kept (fun _ => False) w w' ∧ ((chkG gs gs.length = false ∧ e = .returned (.tuple #[.slice none 0 0, .bool false])) ∨ (chkG gs gs.length = true ∧ ∃ op oc A C, e = .returned (.tuple #[.slice op gs.length oc, .bool (decide ((gs.length : Int) ≤ 10))]) ∧ GdS w gs gs.length op oc A C w'))
def GrRel (gs : List Tb) (W : World) (ov iv : Value) (wr : World) : Prop := ∃ (i : Nat) (op : Option Addr) (oc : Nat) (A : Nat → Option Addr) (C : Nat → Nat), i ≤ gs.length ∧ iv = .int .i64 i ∧ ov = .slice op i oc ∧ GdS W gs i op oc A C wr ∧ chkG gs i = true
theorem GdS.nil (W : World) (gs : List Tb) : GdS W gs 0 none 0 (fun _ => none) (fun _ => 0) W := ⟨Fr.nil _ _ _, fun k hk => by omega⟩
set_option maxRecDepth 100000 in
set_option maxHeartbeats 1000000 in
theorem grids_zero {w : World} {a : Option Addr} {c : Nat} : Calls Try.prog 9 #[.slice a 0 c] w (GrPost [] w) := by
  go_enter Try.func9, Try.ntmps9
  go_wp2_with fail
  go_loopw [4, 5] (fun ov iv wr => ov = .slice none 0 0 ∧ iv = .int .i64 0 ∧ wr = w) (fun _ _ _ => 0)
  case atStart => exact ⟨rfl, rfl, rfl⟩
  case round =>
    obtain ⟨rfl, rfl, rfl⟩ := hrel
    go_wp2
    go_ret2
    exact ⟨Kept.refl _ _, .inr ⟨rfl, none, 0, _, _, rfl, GdS.nil _ _⟩⟩
set_option maxRecDepth 100000 in
set_option maxHeartbeats 4000000 in
theorem grids_some {w : World} {b off c : Nat} {gs : List Tb} (hm : gs.length * 24 ≤ reachBytes) (hs : TaAt w b off gs) : Calls Try.prog 9 #[.slice (some ⟨b, off, none⟩) gs.length c] w (GrPost gs w) := by
  obtain ⟨i0, hi0, hz0, hz1, hz2⟩ := info_parts Try.info60'
  unfold reachBytes at hm
  have Hs := Lib.hid hs
  obtain ⟨n, hn⟩ : ∃ n, gs.length = n := ⟨_, rfl⟩
  have Hn := Lib.hid hn
  rw [hn] at hm ⊢
  clear hs hn
  go_enter Try.func9, Try.ntmps9
  go_wp2_with fail
  go_loopw [4, 5] (fun ov iv wr => GrRel gs w ov iv wr) (fun _ iv _ => n - (intOf iv).toNat)
  case atStart => exact ⟨0, none, 0, _, _, Nat.zero_le _, rfl, rfl, GdS.nil _ _, rfl⟩
  case round =>
    obtain ⟨i, op, oc, A, C, hi, rfl, rfl, hG, hck⟩ := hrel
    have hin : i ≤ n := by have := Hn.out; omega
    have Hck := Lib.hid hck
    clear hi hck
    by_cases hlt : i < n
    · have hb2 : (0 : Int) ≤ (i : Int) := by omega
      have hb3 : (i : Int) < (n : Int) := by omega
      obtain ⟨a1, c1, cg, hlen, hst⟩ := (Hs.out.kept hG.fr.k) i (by have := Hn.out; omega)
      have hof := of20_any (c := c1) hlen hst
      obtain ⟨xs, hxs⟩ : ∃ xs, tbAt gs i = xs := ⟨_, rfl⟩
      rw [hxs] at cg hlen hof
      unfold reachBytes at hlen
      obtain ⟨L, hL⟩ : ∃ L, xs.length = L := ⟨_, rfl⟩
      rw [hL] at cg hlen hof
      have Hof := Lib.hid hof
      have Hxs := Lib.hid hxs
      have HL := Lib.hid hL
      have HG := Lib.hid hG
      have hfalse : Hid (chkT xs = false → chkG gs gs.length = false) := fun h => chkG_false (i := i + 1) (by show (chkG gs i && chkT (tbAt gs i)) = false; rw [Hxs.out, h, Bool.and_false]) _ (by have := Hn.out; omega)
      clear hof hxs hL hG hst
      go_wp2_with fail
      refine Hof.out.mono ?_
      rintro e w3 ⟨p, cap, rfl, hF⟩
      have hk3 := HG.out.fr.k.trans hF.k
      have HF := Lib.hid hF
      have Hk3 := Lib.hid hk3
      clear hF hk3 Hof
      by_cases h8 : 8 < L
      · have hB := Lib.hid (hfalse.out (by unfold chkT; rw [HL.out]; simp; omega))
        clear hfalse
        go_wp2
        go_ret2
        exact ⟨Hk3.out, .inl ⟨hB.out, rfl⟩⟩
      · have hsl := HF.out.sl
        have hck := chk_all (c := cap) (by rw [HL.out]; omega) (SlAt.steps (xs := xs) (a := p) (cap := cap) (w := w3) (by rw [HL.out]; exact hsl))
        rw [HL.out] at hck
        obtain ⟨g, hg⟩ : ∃ g, chkT xs = g := ⟨_, rfl⟩
        rw [hg] at hck
        have Hcall := Lib.hid hck
        have Hg := Lib.hid hg
        have h8' : L ≤ 8 := by omega
        clear hck hg hsl h8
        go_wp2_with fail
        refine Hcall.out.mono ?_
        rintro e w4 ⟨v, m, rfl, k4, hcs⟩
        have hfd := run_field64 v m w4
        have hk4 := Hk3.out.trans k4
        rcases hcs with ⟨rfl, rfl, rfl⟩ | ⟨rfl, ⟨fa, rfl⟩, hm2⟩
        · have hg2 : Hid (chkG gs (i + 1) = true) := by
            show (chkG gs i && chkT (tbAt gs i)) = true
            rw [Hck.out, Hxs.out, Hg.out]; rfl
          have HGw := Lib.hid (HG.out.fr.mono ((HF.out.k).trans k4))
          have K4 := Lib.hid ((HF.out.k).trans k4)
          have Hp4 : Hid (SlAt w4 93 2 p L cap (xs.flatMap stC)) := HF.out.sl.kept fun t ht => k4.block _ (HF.out.sl.lt t ht) (fun h => h)
          clear hfalse hk4 k4 HF Hk3
          go_wp2_with (at_builtin; refine wpList_append_any rfl (.tmp 27) (.tmp 29) 26 rfl 60 i0 _ 1 24 Try.underlying26 hi0 hz0 hz1 hz2 rfl (by decide) op i oc (gdV A C gs i) rfl (HGw.out.alloc _).sl (some ⟨w4.heap.size, 0, none⟩) 1 1 [.slice p L cap] rfl (SlAt.one (block_new3 w4 _) rfl) (by intro u hu; simp at hu; subst hu; rfl) (by unfold maxLen; omega) (by omega) ?_; intro p6 c6 w6 hsl6 hg6 hb6; have HN := Lib.hid (HG.out.app (K4.out.alloc _) (p := p) (cap := cap) (by rw [Hxs.out, HL.out]; exact Hp4.out.kept fun t ht => Below.heap_alloc _ _ _ (Hp4.out.lt t ht)) (by rw [Hxs.out, HL.out]; exact hsl6) hg6 hb6); clear hsl6 hg6 hb6)
          exact ⟨⟨i + 1, p6, c6, _, _, by have := Hn.out; omega, by push_cast; rfl, rfl, HN.out, hg2.out⟩, by simp [intOf]; omega⟩
        · have hB := Lib.hid (hfalse.out Hg.out)
          have q1 : (m != 0) = true := by rcases hm2 with rfl | rfl <;> rfl
          have Hk4 := Lib.hid hk4
          clear hfalse hm2 hk4 k4
          go_wp2
          go_ret2
          exact ⟨Hk4.out, .inl ⟨hB.out, rfl⟩⟩
    · obtain rfl : i = n := by omega
      have HG := Lib.hid hG
      clear hG
      go_wp2
      go_ret2
      refine ⟨HG.out.fr.k, .inr ⟨by rw [Hn.out]; exact Hck.out, op, oc, A, C, by rw [Hn.out]; rfl, by rw [Hn.out]; exact HG.out⟩⟩
theorem grids_any {w : World} {a : Option Addr} {c : Nat} {gs : List Tb} (hm : gs.length * 24 ≤ reachBytes) (hs : TaS w a gs) : Calls Try.prog 9 #[.slice a gs.length c] w (GrPost gs w) := by
  rcases hs with rfl | ⟨b, off, rfl, hs⟩
  · exact grids_zero
  · exact grids_some hm hs
end Go.Proofs.Ytgbdnodkbdkaeaa
