/- Alloc: the last leg's price for what is left: (*search).last 45. -/
import Derived.Test.YtgbdnodkbdkaeaaAt
namespace Go.Proofs.Ytgbdnodkbdkaeaa
open Go Go.RowKit

def rowAt (rows : List (List Int)) (j : Nat) : List Int := rows.getD j []
/-- Rows of prices, in a slice. -/
def RwAt (w : World) (b off : Nat) (rows : List (List Int)) : Prop := ∀ j, j < rows.length → ∃ a c, (rowAt rows j).length ≤ c ∧ w.cell? ⟨b, off + j, none⟩ = some (.slice a (rowAt rows j).length c) ∧ PsS w a (rowAt rows j)
/-- The search's world: legs and rows lie, the prices so far are its own. -/
structure Sst (W1 : World) (sb lb lo lc rb ro rc n : Nat) (xs : List Int) (w : World) : Prop where
  blk : ∃ op oc, w.heap[sb]? = some (.cells #[.slice (some ⟨lb, lo, none⟩) n lc, .slice (some ⟨rb, ro, none⟩) n rc, .slice op xs.length oc] 69 (0, 0)) ∧ SlAt w 2 1 op xs.length oc (xs.map intC) ∧ (∀ t, op = some t → W1.heap.size ≤ t.block)
  kept : Kept (fun b => b = sb) W1 w
  old : sb < W1.heap.size
def lastV (c : Int) (row : List Int) (left : Int) : Option Int := if left.tmod c = 0 ∧ row.contains (wrap64 (left.tdiv c)) = true then some (wrap64 (left.tdiv c)) else none
def LaPost (W1 : World) (sb lb lo lc rb ro rc n : Nat) (xs : List Int) (v : Option Int) (e : Ending) (w' : World) : Prop :=
  e = .returned (.bool v.isSome) ∧ Sst W1 sb lb lo lc rb ro rc n (xs ++ v.toList) w'
theorem Sst.drewN {W1 w : World} {sb lb lo lc rb ro rc n : Nat} {xs : List Int} (h : Sst W1 sb lb lo lc rb ro rc n xs w) (q : Nat) : Sst W1 sb lb lo lc rb ro rc n xs (w.drewN q) := ⟨h.blk, h.kept.drewN q, h.old⟩
theorem Sst.mono {W1 w w' : World} {sb lb lo lc rb ro rc n : Nat} {xs : List Int} (h : Sst W1 sb lb lo lc rb ro rc n xs w) (k : Kept (fun _ => False) w w') : Sst W1 sb lb lo lc rb ro rc n xs w' := by
  obtain ⟨⟨op, oc, h1, h2, h3⟩, h4, h5⟩ := h
  exact ⟨⟨op, oc, (k.block sb (lt_of_block h1) (fun h => h)).trans h1, h2.kept fun t ht => k.block _ (h2.lt t ht) (fun h => h), h3⟩, h4.trans (k.mono fun _ _ h => h.elim), h5⟩
theorem Sst.app {W1 wy wa w6 : World} {sb lb lo lc rb ro rc n : Nat} {xs : List Int} {v : Int} {op p6 : Option Addr} {oc c6 : Nat} {xl : Nat}
    (hblk : wy.heap[sb]? = some (.cells #[.slice (some ⟨lb, lo, none⟩) n lc, .slice (some ⟨rb, ro, none⟩) n rc, .slice op xl oc] 69 (0, 0))) (hnew : ∀ t, op = some t → W1.heap.size ≤ t.block) (hkept : Kept (fun b => b = sb) W1 wy) (hold : sb < W1.heap.size)
    (hwa : Kept (fun _ => False) wy wa) (hsl6 : SlAt w6 2 1 p6 (xs.length + 1) c6 (xs.map intC ++ [intC v])) (hg6 : wa.grownBy w6 (op.map (·.block))) (hb6 : ∀ t, p6 = some t → op.map (·.block) = some t.block ∨ wa.heap.size ≤ t.block) :
    Sst W1 sb lb lo lc rb ro rc n (xs ++ [v]) (w6.setCell ⟨sb, 2, none⟩ (.slice p6 (xs.length + 1) c6)) := by
  have hne : op.map (·.block) ≠ some sb := by
    intro e
    cases hop : op with
    | none => rw [hop] at e; cases e
    | some t => rw [hop] at e; have h2 := hnew t hop; have h3 : t.block = sb := by simpa using e
                omega
  have hq6 := block_grown hg6 ((hwa.block sb (lt_of_block hblk) (fun h => h)).trans hblk) hne
  have hnw : ∀ t, p6 = some t → W1.heap.size ≤ t.block := fun t ht => by
    rcases hb6 t ht with h | h
    · cases hop : op with
      | none => rw [hop] at h; cases h
      | some u => rw [hop] at h; have h2 := hnew u hop; have h3 : u.block = t.block := by simpa using h
                  omega
    · have := hkept.size; have := hwa.size; omega
  refine ⟨⟨p6, c6, ?_, ?_, hnw⟩, ?_, hold⟩
  · rw [block_setCell hq6, List.length_append]; rfl
  · rw [List.length_append, List.map_append]
    exact hsl6.kept fun t ht => block_setCell_ne rfl (by have := hnw t ht; show t.block ≠ sb; omega) _
  · refine Kept.setCell (hkept.trans' (G := OnB op) ?_ ?_) (p := ⟨sb, 2, none⟩) (fun _ => rfl) _
    · exact (hwa.mono fun _ _ h => h.elim).trans (Kept.of_grownB hg6)
    · rintro i hi ⟨t, ht, rfl⟩
      have := hnew t ht; omega
theorem SlAt.drewN {w : World} {E size q : Nat} {a : Option Addr} {len cap : Nat} {xs : List Value} (h : SlAt w E size a len cap xs) : SlAt (w.drewN q) E size a len cap xs := h.kept fun _ _ => rfl
theorem cont_any {w : World} {a : Option Addr} {cap : Nat} {row : List Int} (v : Int) (hl : row.length ≤ 1000) (h : PsS w a row) : Calls Try.prog 57 #[.slice a row.length cap, .int .i64 v] w fun e w' => e = .returned (.bool (row.contains v)) ∧ w' = w := by
  rcases h with rfl | ⟨b, off, rfl, h⟩
  · exact Try.slices_Contains_int_empty a cap v w
  · have := Try.slices_Contains_int b off row.length cap row v w (Nat.le_refl _) (by omega) h
    rwa [List.take_length] at this
set_option maxRecDepth 100000 in
set_option maxHeartbeats 1000000 in
theorem last_any {W1 w : World} {sb lb lo lc rb ro rc n : Nat} {ls : List Lg} {rows : List (List Int)} {xs : List Int} (left : Int) (h1 : 1 ≤ n) (h4 : n ≤ 4) (hln : ls.length = n) (hrn : rows.length = n) (hgd : ∀ j, j < ls.length → goodL (lgAt ls j) = true)
    (hxs : xs.length ≤ 1000) (hrow : (rowAt rows (n - 1)).length ≤ 1000)
    (hL : ∀ w, Kept (fun b => b = sb) W1 w → LgAt w lb lo ls) (hR : ∀ w, Kept (fun b => b = sb) W1 w → RwAt w rb ro rows) (hS : Sst W1 sb lb lo lc rb ro rc n xs w) :
    Calls Try.prog 45 #[.pointer (some ⟨sb, 0, none⟩), .int .i64 left] w (LaPost W1 sb lb lo lc rb ro rc n xs (lastV ((lgAt ls (n - 1)).sgn * (lgAt ls (n - 1)).rat) (rowAt rows (n - 1)) left)) := by
  obtain ⟨i0, hi0, hz0, hz1, hz2⟩ := info_parts Try.info2'
  obtain ⟨⟨op, oc, hblk, hsl, hnew⟩, hkept, hold⟩ := hS
  obtain ⟨d0, d1, d2⟩ := hL w hkept (n - 1) (by omega)
  obtain ⟨ra, rcap, hrc, er, hrp⟩ := hR w hkept (n - 1) (by omega)
  have hg := hgd (n - 1) (by omega)
  obtain ⟨⟨ser, sgn, rat⟩, hy⟩ : ∃ y, lgAt ls (n - 1) = y := ⟨_, rfl⟩
  obtain ⟨row, hrw⟩ : ∃ row, rowAt rows (n - 1) = row := ⟨_, rfl⟩
  rw [hy] at d0 d1 d2 hg ⊢
  rw [hrw] at er hrp hrow hrc ⊢
  simp only at d0 d1 d2 ⊢
  obtain ⟨_, g2, g3, g4⟩ := goodL_is hg
  simp only at g2 g3 g4
  obtain ⟨c, hc⟩ : ∃ c, sgn * rat = c := ⟨_, rfl⟩
  have hcb : c ≠ 0 ∧ -4 ≤ c ∧ c ≤ 4 := by rw [← hc]; rcases g2 with e | e <;> rw [e] <;> omega
  have hw1 : wrap64 (sgn * rat) = c := by rw [← hc]; exact IntWalk.wrap64_in _ (by omega)
  have s0 : w.cell? ⟨sb, 0, none⟩ = some (.slice (some ⟨lb, lo, none⟩) n lc) := by rw [cell_of_block hblk]; rfl
  have s1 : w.cell? ⟨sb, 1, none⟩ = some (.slice (some ⟨rb, ro, none⟩) n rc) := by rw [cell_of_block hblk]; rfl
  have s2 : w.cell? ⟨sb, 2, none⟩ = some (.slice op xs.length oc) := by rw [cell_of_block hblk]; rfl
  have fz := free_of_block hblk
  have Hblk := Lib.hid hblk
  have Hsl := Lib.hid hsl
  have Hnew := Lib.hid hnew
  have Hkept := Lib.hid hkept
  have Hrp := Lib.hid hrp
  obtain ⟨m, hm⟩ : ∃ m, n = m + 1 := ⟨n - 1, by omega⟩
  subst hm
  have e1 : m + 1 - 1 = m := by omega
  rw [e1] at d0 d1 d2 er
  have e2 : wrap64 (((m + 1 : Nat) : Int) - 1) = (m : Int) := by rw [show ((m + 1 : Nat) : Int) - 1 = (m : Int) by omega]; exact IntWalk.wrap64_in _ (by omega)
  rw [hc]
  clear hblk hsl hnew hkept hrp hy hrw hg hgd hL hR hln hrn g2 g3 g4 hc d0 e1
  go_enter Try.func45, Try.ntmps45
  go_wp2_with fail
  go_quiet (fail)
  have hcz : c ≠ 0 := hcb.1
  have hb0 : (0 : Int) ≤ (m : Int) := by omega
  have hb1 : (m : Int) < (m : Int) + 1 := by omega
  have HS : Hid (Sst W1 sb lb lo lc rb ro rc (m + 1) xs w) := ⟨⟨op, oc, Hblk.out, Hsl.out, Hnew.out⟩, Hkept.out, hold⟩
  by_cases hq : left.tmod c = 0
  · have hq2 : (left.tmod c != 0) = false := by simp [hq]
    obtain ⟨v, hv⟩ : ∃ v, wrap64 (left.tdiv c) = v := ⟨_, rfl⟩
    have hv' : wrap64 (left.tdiv c) = v := hv
    have hcon : Hid (∀ x : KW (w.drewN nq), Calls Try.prog 57 #[.slice ra row.length rcap, .int .i64 v] x.w fun e w'' => e = .returned (.bool (row.contains v)) ∧ ∃ y : KW (w.drewN nq), w'' = y.w) := fun x =>
      Calls.kw_same ((cont_any v hrow (Hrp.out.kept (((Kept.refl _ w).drewN nq).trans x.kept))).mono fun _ _ h => ⟨h.2.symm, h.1⟩)
    obtain ⟨r, hr⟩ : ∃ r, row.contains v = r := ⟨_, rfl⟩
    rw [hr] at hcon
    have Hr := Lib.hid hr
    have Hq := Lib.hid hq
    have Hv' := Lib.hid hv
    go_upto_region 3 with fail
    have x0 := fun y : KW (w.drewN nq) => KW.cell (show (w.drewN nq).cell? ⟨sb, 0, none⟩ = _ from s0) y
    have x1 := fun y : KW (w.drewN nq) => KW.cell (show (w.drewN nq).cell? ⟨sb, 1, none⟩ = _ from s1) y
    have xe := fun y : KW (w.drewN nq) => KW.cell (show (w.drewN nq).cell? ⟨rb, ro + m, none⟩ = _ from er) y
    clear hr hq hrc hrow s0 s1 s2 er d1 d2 fz
    refine wp_region_kept (by kernel_rfl) (by kernel_rfl) ?_
    repeat (go_big_quiet_step (with_reducible exact hcon.out _))
    refine wpQuiet_nil ?_
    intro _ hw'
    obtain ⟨y, rfl⟩ := hw'
    have HS2 := Lib.hid ((HS.out.drewN nq).mono y.kept)
    generalize y.w = wy at HS2 ⊢
    clear x0 x1 xe hcon
    cases r with
    | false =>
      go_wp2
      go_ret
      have hE : lastV c row left = none := by unfold lastV; rw [if_neg (by rw [Hv'.out, Hr.out]; simp)]
      rw [hE]
      exact ⟨rfl, by simpa using HS2.out⟩
    | true =>
      go_upto_region 5 with fail
      obtain ⟨⟨op2, oc2, hblk, hsl, hnew⟩, hkept, _⟩ := HS2.out
      have hE : lastV c row left = some v := by unfold lastV; rw [if_pos ⟨Hq.out, by rw [Hv'.out]; exact Hr.out⟩, Hv'.out]
      have HE := Lib.hid hE
      have s2 : wy.cell? ⟨sb, 2, none⟩ = some (.slice op2 xs.length oc2) := by rw [cell_of_block hblk]; rfl
      have fz := free_of_block hblk
      have Hblk2 := Lib.hid hblk
      have Hsl2 := Lib.hid hsl
      have Hnew2 := Lib.hid hnew
      have Hkept2 := Lib.hid hkept
      clear hblk hsl hnew hkept HS HS2 Hblk Hsl Hnew Hkept Hrp e2 hq2 Hq Hv' Hr hE hcb
      have hne : op2.map (·.block) ≠ some sb := by
        intro e
        cases hop : op2 with
        | none => rw [hop] at e; cases e
        | some t => rw [hop] at e; have h2 := Hnew2.out t hop; have h3 : t.block = sb := by simpa using e
                    omega
      have Hne := Lib.hid hne
      have hv2 : IntKind.i64.wrap (left.tdiv c) = v := by rw [IntWalk.i64_left]; exact hv
      have s2a : (wy.alloc (.cells #[.int .i64 v] 2)).cell? ⟨sb, 2, none⟩ = some (.slice op2 xs.length oc2) := by rw [cell_of_block (block_alloc Hblk2.out)]; rfl
      clear hne
      go_region_law ((refine step_append_any rfl (.tmp 52) (.tmp 56) 30 rfl 2 i0 (.int .i64 0) 1 8 Try.underlying30 hi0 hz0 hz1 hz2 rfl (by decide) op2 xs.length oc2 (xs.map intC) (by simp [Act.eval, Act.put]) (by first | exact (Hsl2.out.alloc _).drew | exact Hsl2.out.drew.alloc _) (some ⟨wy.heap.size, 0, none⟩) 1 1 [intC v] (by simp [Act.eval, Act.put]) (SlAt.one (by first | (rw [hv2]; exact block_drew (block_new3 wy _)) | exact block_drew (block_new3 wy _) | exact block_new3 wy.drew _) rfl) (by intro u hu; simp at hu; subst hu; rfl) (by unfold maxLen; omega) (by omega) ?_; intro p6 c6 w6 hsl6 hg6 hb6; have hq6 := block_grown hg6 (by first | exact block_alloc (block_drew Hblk2.out) | exact block_drew (block_alloc Hblk2.out)) Hne.out; have s6 : w6.cell? ⟨sb, 2, none⟩ = some (.slice op2 xs.length oc2) := (by rw [cell_of_block hq6]; rfl); have f6 := free_of_block hq6))
      all_goals
        have hF : Sst W1 sb lb lo lc rb ro rc (m + 1) (xs ++ [v]) (w6.setCell ⟨sb, 2, none⟩ (.slice p6 (xs.length + 1) c6)) :=
          Sst.app Hblk2.out Hnew2.out Hkept2.out hold (by first | exact ((Kept.refl _ wy).alloc _).drew | exact ((Kept.refl _ wy).drew).alloc _) hsl6 hg6 hb6
        go_wp2
        go_ret
        rw [HE.out]
        exact ⟨rfl, hF⟩
  · have hq2 : (left.tmod c != 0) = true := by simp [hq]
    have hE : lastV c row left = none := by unfold lastV; rw [if_neg (fun h => hq h.1)]
    have HE := Lib.hid hE
    clear hE
    go_wp2_with fail
    go_quiet (fail)
    go_wp2
    go_ret
    rw [HE.out]
    exact ⟨rfl, by simpa using (HS.out.drewN _).drewN _⟩
end Go.Proofs.Ytgbdnodkbdkaeaa
