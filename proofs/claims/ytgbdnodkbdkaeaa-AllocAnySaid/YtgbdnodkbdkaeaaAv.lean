/- Alloc: prices of the legs from one on, for what is left: (*search).leg 23. -/
import Derived.Test.YtgbdnodkbdkaeaaAu
namespace Go.Proofs.Ytgbdnodkbdkaeaa
open Go Go.RowKit

/-- Rows of prices, in a slice; where each lies. -/
def RwA (A : Nat → Option Addr) (C : Nat → Nat) (w : World) (b off : Nat) (rows : List (List Int)) : Prop := ∀ j, j < rows.length → (rowAt rows j).length ≤ C j ∧ w.cell? ⟨b, off + j, none⟩ = some (.slice (A j) (rowAt rows j).length (C j)) ∧ PsS w (A j) (rowAt rows j)
theorem RwA.at {A : Nat → Option Addr} {C : Nat → Nat} {w : World} {b off : Nat} {rows : List (List Int)} (h : RwA A C w b off rows) : RwAt w b off rows := fun j hj => ⟨A j, C j, h j hj⟩
def legC (ls : List Lg) (i : Nat) : Int := (lgAt ls i).sgn * (lgAt ls i).rat
def pick (c : Int) (f : Int → Option (List Int)) (left p : Int) : Option (List Int) := if inRange (left - c * p) = true then (f (left - c * p)).map (p :: ·) else none
/-- The prices from the d-th leg before the last one on. -/
def srchF (ls : List Lg) (rows : List (List Int)) (n : Nat) : Nat → Int → Option (List Int)
  | 0, left => (lastV (legC ls (n - 1)) (rowAt rows (n - 1)) left).map fun v => [v]
  | d + 1, left => (rowAt rows (n - 1 - (d + 1))).findSome? (pick (legC ls (n - 1 - (d + 1))) (srchF ls rows n d) left)
def LePost (W1 : World) (sb lb lo lc rb ro rc n : Nat) (xs : List Int) (r : Option (List Int)) (e : Ending) (w' : World) : Prop :=
  e = .returned (.bool r.isSome) ∧ ∃ xs', Sst W1 sb lb lo lc rb ro rc n xs' w' ∧ xs'.length ≤ n ∧ xs.length ≤ xs'.length ∧ xs'.take xs.length = xs ∧ ∀ l, r = some l → xs' = xs ++ l
theorem SlAt.pre {w : World} {E : Nat} {a : Option Addr} {len cap i : Nat} {xs : List Value} (h : SlAt w E 1 a len cap xs) (hi : i ≤ len) : SlAt w E 1 a i cap (xs.take i) := by
  obtain ⟨h1, h2, h3⟩ := h
  refine ⟨by rw [List.length_take]; omega, by omega, ?_⟩
  rcases h3 with h3 | ⟨t, o, arr, ha, hb, hs, hx⟩
  · exact .inl h3
  · refine .inr ⟨t, o, arr, ha, hb, hs, fun j hj => ?_⟩
    rw [hx j (by omega), List.getElem?_take_of_lt (by omega)]
def LgRel (W1 : World) (sb lb lo lc rb ro rc n : Nat) (xs : List Int) (row : List Int) (f : Int → Option (List Int)) (R : Option (List Int)) (iv : Value) (wr : World) : Prop :=
  ∃ j : Nat, j ≤ row.length ∧ iv = .int .i64 j ∧ (row.drop j).findSome? f = R ∧ ∃ xs', Sst W1 sb lb lo lc rb ro rc n xs' wr ∧ xs'.length ≤ n ∧ xs.length ≤ xs'.length ∧ xs'.take xs.length = xs
set_option maxRecDepth 100000 in
set_option maxHeartbeats 2000000 in
theorem leg_any {W1 : World} {sb lb lo lc rb ro rc n : Nat} {ls : List Lg} {rows : List (List Int)} {A : Nat → Option Addr} {C : Nat → Nat} (h1 : 1 ≤ n) (h4 : n ≤ 4) (hln : ls.length = n) (hrn : rows.length = n) (hgd : ∀ j, j < ls.length → goodL (lgAt ls j) = true)
    (hrow : ∀ j, j < n → (rowAt rows j).length ≤ 1000) (hpr : ∀ j, j < n → GoodP (rowAt rows j))
    (hL : ∀ w, Kept (fun b => b = sb) W1 w → LgAt w lb lo ls) (hR : ∀ w, Kept (fun b => b = sb) W1 w → RwA A C w rb ro rows) :
    ∀ (d i : Nat) (xs : List Int) (left : Int) (w : World), i + d + 1 = n → xs.length = i → I64 left → Sst W1 sb lb lo lc rb ro rc n xs w →
      Calls Try.prog 23 #[.pointer (some ⟨sb, 0, none⟩), .int .i64 i, .int .i64 left] w (LePost W1 sb lb lo lc rb ro rc n xs (srchF ls rows n d left)) := by
  intro d
  induction d with
  | zero =>
    intro i xs left w hid hxl hle hS
    have hla := last_any left h1 h4 hln hrn hgd (by omega) (hrow (n - 1) (by omega)) hL (fun w k => (hR w k).at) hS
    obtain ⟨⟨op, oc, hblk, hsl, hnew⟩, hkept, hold⟩ := hS
    have s0 : w.cell? ⟨sb, 0, none⟩ = some (.slice (some ⟨lb, lo, none⟩) n lc) := by rw [cell_of_block hblk]; rfl
    have Hla := Lib.hid hla
    have hw : wrap64 ((n : Int) - 1) = (i : Int) := by rw [show (n : Int) - 1 = (i : Int) by omega]; exact IntWalk.wrap64_in _ (by omega)
    obtain ⟨v, hv⟩ : ∃ v, lastV (legC ls (n - 1)) (rowAt rows (n - 1)) left = v := ⟨_, rfl⟩
    have hE : Hid (srchF ls rows n 0 left = v.map fun v => [v]) := by show srchF ls rows n 0 left = _; unfold srchF; rw [hv]
    have Hv := Lib.hid hv
    have Hxl : Hid (xs.length = i) := hxl
    clear hla hblk hsl hnew hkept hgd hrow hpr hL hR hv hxl
    go_enter Try.func23, Try.ntmps23
    go_wp2_with fail
    refine Hla.out.mono ?_
    rintro e w1 ⟨rfl, hS1⟩
    have HS1 := Lib.hid hS1
    clear hS1
    go_wp2
    go_ret
    rw [hE.out]
    have h5 := HS1.out
    have h6 := Hxl.out
    refine ⟨by show Ending.returned (.bool (lastV (legC ls (n - 1)) (rowAt rows (n - 1)) left).isSome) = _; rw [Hv.out]; cases v <;> rfl, _, h5, ?_, ?_, ?_, ?_⟩
    · rw [List.length_append]
      have : (lastV ((lgAt ls (n - 1)).sgn * (lgAt ls (n - 1)).rat) (rowAt rows (n - 1)) left).toList.length ≤ 1 := by cases lastV ((lgAt ls (n - 1)).sgn * (lgAt ls (n - 1)).rat) (rowAt rows (n - 1)) left <;> simp
      omega
    · rw [List.length_append]; omega
    · simp
    · intro l hl
      show xs ++ (lastV (legC ls (n - 1)) (rowAt rows (n - 1)) left).toList = _
      rw [Hv.out]
      cases v with
      | none => cases hl
      | some v => obtain rfl : [v] = l := by simpa using hl
                  rfl
  | succ d ih =>
    intro i xs left w hid hxl hle hS
    obtain ⟨i0, hi0, hz0, hz1, hz2⟩ := info_parts Try.info2'
    have hi : n - 1 - (d + 1) = i := by omega
    have hkw := hS.kept
    have HS := Lib.hid hS
    obtain ⟨⟨op, oc, hblk, hsl, hnew⟩, hkept, hold⟩ := hS
    obtain ⟨hrc, er, hrp⟩ := hR w hkept i (by omega)
    obtain ⟨row, hrw⟩ : ∃ row, rowAt rows i = row := ⟨_, rfl⟩
    obtain ⟨ra, hra⟩ : ∃ ra, A i = ra := ⟨_, rfl⟩
    obtain ⟨rcap, hrcap⟩ : ∃ rcap, C i = rcap := ⟨_, rfl⟩
    have HPs : Hid (∀ w', Kept (fun b => b = sb) W1 w' → PsS w' ra row) := fun w' k => by
      have := (hR w' k i (by omega)).2.2; rw [hrw, hra] at this; exact this
    have HPr : Hid (GoodP row) := by have := hpr i (by omega); rw [hrw] at this; exact this
    have hrl : row.length ≤ 1000 := by have := hrow i (by omega); rw [hrw] at this; exact this
    rw [hrw, hra, hrcap] at er
    obtain ⟨R, hRe⟩ : ∃ R, srchF ls rows n (d + 1) left = R := ⟨_, rfl⟩
    have hR0 : row.findSome? (pick (legC ls i) (srchF ls rows n d) left) = R := by
      rw [← hRe, ← hrw]; unfold srchF; rw [hi]
    obtain ⟨g, hg⟩ : ∃ g, pick (legC ls i) (srchF ls rows n d) left = g := ⟨_, rfl⟩
    rw [hg] at hR0
    have Hg := Lib.hid hg
    have HR0 := Lib.hid hR0
    have HL := Lib.hid hL
    have Hgd := Lib.hid (hgd i (by omega))
    have HI := Lib.hid ih
    have s0 : w.cell? ⟨sb, 0, none⟩ = some (.slice (some ⟨lb, lo, none⟩) n lc) := by rw [cell_of_block hblk]; rfl
    have s1 : w.cell? ⟨sb, 1, none⟩ = some (.slice (some ⟨rb, ro, none⟩) n rc) := by rw [cell_of_block hblk]; rfl
    have hw : wrap64 ((n : Int) - 1) = (n : Int) - 1 := IntWalk.wrap64_in _ (by omega)
    have hneq : ((i : Int) == (n : Int) - 1) = false := by simp; omega
    have hb0 : (0 : Int) ≤ (i : Int) := by omega
    have hb1 : (i : Int) < (n : Int) := by omega
    have hin : i + 1 ≤ n := by omega
    have Hid' := Lib.hid hid
    have Hxl := Lib.hid hxl
    have Hle := Lib.hid hle
    rw [hRe]
    clear hblk hsl hnew hkept hgd hrow hpr hL hR hrp hrw hra hrcap hR0 hRe hg ih hkw hid hxl hle hi hrc
    go_enter Try.func23, Try.ntmps23
    go_wp2_with fail
    clear s0 s1 er hneq hw
    go_loopw [30] (fun iv wr => LgRel W1 sb lb lo lc rb ro rc n xs row g R iv wr) (fun iv _ => row.length - (intOf iv).toNat)
    case atStart => exact ⟨0, Nat.zero_le _, rfl, by rw [List.drop_zero]; exact HR0.out, xs, HS.out, by have := Hxl.out; omega, Nat.le_refl _, List.take_length⟩
    case round =>
      obtain ⟨j, hj, rfl, hfs, xs', hS', hx1, hx2, hx3⟩ := hrel
      have Hfs := Lib.hid hfs
      have Hx3 := Lib.hid hx3
      have hix : i ≤ xs'.length := by have := Hxl.out; omega
      clear HS hfs hx3 hx2
      by_cases hlt : j < row.length
      · have hkr := hS'.kept
        obtain ⟨⟨op2, oc2, hblk, hsl, hnew⟩, hkept, _⟩ := hS'
        rcases HPs.out wr hkept with h0 | ⟨pb, po, rfl, hps⟩
        · exact absurd hlt (by rw [h0]; simp)
        have cp := hps j hlt
        obtain ⟨p0, p1⟩ := HPr.out j hlt
        obtain ⟨p, hp⟩ : ∃ p, psAt row j = p := ⟨_, rfl⟩
        rw [hp] at cp p0 p1
        have hdrop : row.drop j = p :: row.drop (j + 1) := by
          rw [List.drop_eq_getElem_cons hlt]
          congr 1
          rw [← hp]; simp [psAt, List.getD_eq_getElem?_getD, List.getElem?_eq_getElem hlt]
        have hsome : ∀ x, g p = some x → R = some x := fun x hx => by
          have := Hfs.out
          rw [hdrop, List.findSome?_cons, hx] at this
          exact this.symm
        have hnone : g p = none → (row.drop (j + 1)).findSome? g = R := fun hx => by
          have := Hfs.out
          rw [hdrop, List.findSome?_cons, hx] at this
          exact this
        have Hsome := Lib.hid hsome
        have Hnone := Lib.hid hnone
        have hioc : i ≤ oc2 := Nat.le_trans hix hsl.2.1
        have hopp : op2 = none ∨ ∃ t o, op2 = some ⟨t, o, none⟩ := by
          rcases hsl.2.2 with ⟨h, _⟩ | ⟨t, o, _, h, _⟩
          · exact .inl h
          · exact .inr ⟨t, o, h⟩
        have hmap : ∀ k, Option.map (fun x => x.add (0 * k)) op2 = op2 := fun k => by
          rcases hopp with h | ⟨t, o, h⟩
          · rw [h]; rfl
          · rw [h, Nat.zero_mul]; simp [addr_add]
        have hmap0 : Option.map (fun x => x.add 0) op2 = op2 := by have := hmap 0; simpa using this
        have hpre := hsl.pre hix
        have s2 : wr.cell? ⟨sb, 2, none⟩ = some (.slice op2 xs'.length oc2) := by rw [cell_of_block hblk]; rfl
        have fz := free_of_block hblk
        have Hblk2 := Lib.hid hblk
        have Hpre := Lib.hid hpre
        have Hnew2 := Lib.hid hnew
        have Hkept2 := Lib.hid hkept
        have hb2 : (0 : Int) ≤ (j : Int) := by omega
        have hb3 : (j : Int) < (row.length : Int) := by omega
        have hb4 : (i : Int) ≤ (oc2 : Int) := by omega
        have hne : op2.map (·.block) ≠ some sb := by
          intro e
          cases hop : op2 with
          | none => rw [hop] at e; cases e
          | some t => rw [hop] at e; have h2 := hnew t hop; have h3 : t.block = sb := by simpa using e
                      omega
        have Hne := Lib.hid hne
        clear hsome hnone hdrop hps hp hsl hpre hopp hblk hnew hkept hmap hkr hne Hfs
        go_upto_region 6 with fail
        go_wp2_with (at_builtin; refine wpList_append_any rfl (.tmp 40) (.tmp 42) 30 rfl 2 i0 (.int .i64 0) 1 8 Try.underlying30 hi0 hz0 hz1 hz2 rfl (by decide) op2 i oc2 ((xs'.map intC).take i) rfl (Hpre.out.alloc _) (some ⟨wr.heap.size, 0, none⟩) 1 1 [intC p] rfl (SlAt.one (block_new3 _ _) rfl) (by intro u hu; simp at hu; subst hu; rfl) (by unfold maxLen; omega) (by omega) ?_; intro p6 c6 w6 hsl6 hg6 hb6; have hq6 := block_grown hg6 (block_alloc Hblk2.out) Hne.out; have s6 : w6.cell? ⟨sb, 2, none⟩ = some (.slice op2 xs'.length oc2) := (by rw [cell_of_block hq6]; rfl); have f6 := free_of_block hq6)
        have hti : (xs'.map intC).take i = xs.map intC := by
          rw [← List.map_take]
          have := Hx3.out
          rw [Hxl.out] at this; rw [this]
        have HSn : Sst W1 sb lb lo lc rb ro rc n (xs ++ [p]) (w6.setCell ⟨sb, 2, none⟩ (.slice p6 (i + 1) c6)) := by
          rw [hti] at hsl6
          have h := Sst.app (xs := xs) (v := p) Hblk2.out Hnew2.out Hkept2.out hold ((Kept.refl _ wr).alloc _) (by rw [Hxl.out]; exact hsl6) hg6 hb6
          rw [Hxl.out] at h; exact h
        have s0 : (w6.setCell ⟨sb, 2, none⟩ (.slice p6 (i + 1) c6)).cell? ⟨sb, 0, none⟩ = some (.slice (some ⟨lb, lo, none⟩) n lc) := by
          rw [cell_of_block (block_setCell hq6 _ _)]; rfl
        generalize w6.setCell ⟨sb, 2, none⟩ (.slice p6 (i + 1) c6) = wn at HSn s0 ⊢
        clear hsl6 hg6 hb6 hq6 s6 f6 cp s2 fz hmap0 Hblk2 Hpre Hnew2 Hkept2 Hne hti HPs
        obtain ⟨d0, d1, d2⟩ := HL.out wn HSn.kept i (by omega)
        have hgi := Hgd.out
        obtain ⟨⟨ser, sgn, rat⟩, hy⟩ : ∃ y, lgAt ls i = y := ⟨_, rfl⟩
        rw [hy] at d0 d1 d2 hgi
        have hcc : legC ls i = sgn * rat := by unfold legC; rw [hy]
        simp only at d1 d2
        obtain ⟨_, g2, g3, g4⟩ := goodL_is hgi
        simp only at g2 g3 g4
        have hsr : -4 ≤ sgn * rat ∧ sgn * rat ≤ 4 := by rcases g2 with e | e <;> rw [e] <;> omega
        have hcp := term_bd hgi p0 p1
        unfold termL at hcp
        simp only at hcp
        have hw1 : wrap64 (sgn * rat) = sgn * rat := IntWalk.wrap64_in _ (by omega)
        have hw2 : wrap64 (sgn * rat * p) = sgn * rat * p := IntWalk.wrap64_in _ (by omega)
        have hgp : g p = pick (sgn * rat) (srchF ls rows n d) left p := by rw [← Hg.out, hcc]
        have hsub : Hid (∀ y : KW wn, Calls Try.prog 46 #[.int .i64 left, .int .i64 (sgn * rat * p)] y.w fun e w'' => e = .returned (numRes (left - sgn * rat * p)) ∧ ∃ z : KW wn, w'' = z.w) := fun y =>
          Calls.kw_same ((sub_num left (sgn * rat * p) Hle.out (by unfold I64; omega) y.w).mono fun _ _ h => ⟨h.2.symm, h.1⟩)
        have Hgp := Lib.hid hgp
        have HSn' := Lib.hid HSn
        have xs0 := fun y : KW wn => KW.cell s0 y
        have xd1 := fun y : KW wn => KW.cell d1 y
        have xd2 := fun y : KW wn => KW.cell d2 y
        clear hy hcc g2 g3 g4 hcp hgp hgi d0 s0 d1 d2 HSn hsr
        cases hir : inRange (left - sgn * rat * p) with
        | false =>
          have hnr : numRes (left - sgn * rat * p) = .tuple #[.int .i64 0, .int .i64 9] := by unfold numRes; rw [hir]; rfl
          rw [hnr] at hsub
          have hgn : g p = none := by rw [Hgp.out]; unfold pick; rw [hir]; rfl
          have hnx := Lib.hid (Hnone.out hgn)
          clear hnr hgn hir Hsome Hnone Hgp
          go_upto_region 7 with fail
          refine wp_region_kept (by kernel_rfl) (by kernel_rfl) ?_
          repeat (go_big_quiet_step (with_reducible exact hsub.out _))
          refine wpQuiet_nil ?_
          intro _ hw'
          obtain ⟨y, rfl⟩ := hw'
          have HSy := Lib.hid (HSn'.out.mono y.kept)
          generalize y.w = wy at HSy ⊢
          clear xs0 xd1 xd2 hsub hw1 hw2 HSn'
          go_wp2
          refine ⟨⟨j + 1, hlt, by push_cast; rfl, hnx.out, xs ++ [p], HSy.out, ?_, ?_, ?_⟩, by simp [intOf]; omega⟩
          · rw [List.length_append]; have := Hxl.out; simp; omega
          · rw [List.length_append]; omega
          · exact List.take_left
        | true =>
          have hnr : numRes (left - sgn * rat * p) = .tuple #[.int .i64 (left - sgn * rat * p), .int .i64 0] := by unfold numRes; rw [hir]; rfl
          rw [hnr] at hsub
          have hgv : g p = (srchF ls rows n d (left - sgn * rat * p)).map (p :: ·) := by rw [Hgp.out]; unfold pick; rw [hir]; rfl
          have hz : I64 (left - sgn * rat * p) := by
            unfold inRange at hir
            simp only [Bool.and_eq_true, decide_eq_true_eq] at hir
            exact hir
          have Hz := Lib.hid hz
          have Hgv := Lib.hid hgv
          clear hnr hir hgv hz Hgp
          go_upto_region 7 with fail
          refine wp_region_kept (by kernel_rfl) (by kernel_rfl) ?_
          repeat (go_big_quiet_step (with_reducible exact hsub.out _))
          refine wpQuiet_nil ?_
          intro _ hw'
          obtain ⟨y, rfl⟩ := hw'
          have HSy := HSn'.out.mono y.kept
          generalize y.w = wy at HSy ⊢
          clear xs0 xd1 xd2 hsub hw1 hw2 HSn'
          generalize left - sgn * rat * p = z at Hz Hgv ⊢
          have hih := HI.out (i + 1) (xs ++ [p]) z wy (by have := Hid'.out; omega) (by have := Hxl.out; simp; omega) Hz.out HSy
          rw [show ((i + 1 : Nat) : Int) = (i : Int) + 1 from rfl] at hih
          have Hih := Lib.hid hih
          have hwi : wrap64 ((i : Int) + 1) = (i : Int) + 1 := IntWalk.wrap64_in _ (by omega)
          clear hih HSy
          obtain ⟨r, hr⟩ : ∃ r, srchF ls rows n d z = r := ⟨_, rfl⟩
          rw [hr] at Hih Hgv
          clear hr
          go_wp2_with fail
          refine Hih.out.mono ?_
          rintro e w9 ⟨rfl, ys, hSy, y1, y2, y3, y4⟩
          have HSy := Lib.hid hSy
          have Y3 := Lib.hid y3
          have Y4 := Lib.hid y4
          have y2' : xs.length + 1 ≤ ys.length := by simpa using y2
          have htk : ys.take xs.length = xs := by
            have h := Y3.out
            rw [List.length_append] at h
            have h2 := congrArg (List.take xs.length) h
            rw [List.take_take] at h2
            simpa using h2
          have Htk := Lib.hid htk
          clear hSy y3 y4 y2 htk Hih
          cases r with
          | some l =>
            have hR9 : Hid (R = some (p :: l)) := Hsome.out _ (by rw [Hgv.out]; rfl)
            clear Hsome Hnone Hgv
            simp only [Option.isSome_some]
            go_wp2
            go_ret
            refine ⟨by rw [hR9.out]; rfl, ys, HSy.out, y1, by omega, Htk.out, fun l' hl' => ?_⟩
            rw [hR9.out] at hl'
            obtain rfl : p :: l = l' := by simpa using hl'
            rw [Y4.out l rfl, List.append_assoc]; rfl
          | none =>
            have hnx := Lib.hid (Hnone.out (by rw [Hgv.out]; rfl))
            clear Hsome Hnone Hgv
            simp only [Option.isSome_none]
            go_wp2
            exact ⟨⟨j + 1, hlt, by push_cast; rfl, hnx.out, ys, HSy.out, y1, by omega, Htk.out⟩, by simp [intOf]; omega⟩
      · obtain rfl : j = row.length := by omega
        have hRn : Hid (R = none) := by
          have := Hfs.out
          rw [List.drop_length] at this
          exact this.symm
        have HSy := Lib.hid hS'
        have hx2' : xs.length ≤ xs'.length := by have := Hxl.out; omega
        clear hS' Hfs
        go_wp2
        go_ret
        exact ⟨by rw [hRn.out]; rfl, xs', HSy.out, hx1, hx2', Hx3.out, fun l hl => by rw [hRn.out] at hl; cases hl⟩
end Go.Proofs.Ytgbdnodkbdkaeaa
