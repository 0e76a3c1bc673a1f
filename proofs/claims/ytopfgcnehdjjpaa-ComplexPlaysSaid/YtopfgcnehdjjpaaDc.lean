/- The document's book of complex orders: Right1, Insert: the walks. -/
import Derived.Test.YtopfgcnehdjjpaaDb
import Derived.Test.YtopfgcnehdjjpaaCo
import Derived.Test.YtopfgcnehdjjpaaRv
namespace Go.Proofs.Ytopfgcnehdjjpaa
open Go.RowKit

def R1Post (v : Bool) (w : World) (e : Ending) (w' : World) : Prop := e = .returned (.bool v) ∧ Kept (fun _ => False) w w'
theorem right_yes (d : Od) (hr : Right d) (w : World) : Calls Try.prog 32 #[.agg #[.int .i64 d.id, .int .i64 d.owner, .int .i64 d.side, .int .i64 d.net, .int .i64 d.units]] w (R1Post true w) := by
  have h1 : decide (1 ≤ d.id) = true := decide_eq_true hr.id
  have h2 : (d.side == 1 || d.side == 2) = true := by rcases hr.side with h | h <;> simp [h]
  have h3 : decide (1 ≤ d.units) = true := decide_eq_true hr.u1
  have h4 : decide (d.units ≤ 1000000) = true := decide_eq_true hr.u2
  have h5 : decide (-16000000 ≤ d.net) = true := decide_eq_true hr.n1
  have h6 : decide (d.net ≤ 16000000) = true := decide_eq_true hr.n2
  have hs : (d.side == 1) = true ∨ ((d.side == 1) = false ∧ (d.side == 2) = true) := by rcases hr.side with h | h <;> simp [h]
  clear h2 hr
  rcases hs with hs | ⟨hs, hs2⟩
  all_goals
    go_enter Try.func32, Try.ntmps32
    go_wp2
    go_ret
    exact ⟨rfl, (Kept.refl _ _).alloc _⟩

theorem Try.info37' : (Try.prog.info? 37).map (fun i => (i.zero, i.size, i.bytes)) = some (some (.agg #[.int .i64 0, .int .i64 0, .int .i64 0, .int .i64 0, .int .i64 0]), 5, 40) := by kernel_rfl
/-- Rows' blocks: those that were, or new ones. -/
def Newer (p p' : Nat → Option Addr) (w : World) : Prop := ∀ j, j < 2 → ∀ t, p' j = some t → (∃ j', j' < 2 ∧ p j' = some t) ∨ w.heap.size ≤ t.block
theorem Newer.upd {p : Nat → Option Addr} {k : Nat} {q : Option Addr} {w : World} (hq : ∀ t, q = some t → w.heap.size ≤ t.block) : Newer p (Ytopfgcnehdjjpaa.upd p k q) w := by
  intro j hj t ht
  by_cases e : j = k
  · subst e; rw [upd_same] at ht; exact .inr (hq t ht)
  · rw [upd_other _ _ e] at ht; exact .inl ⟨j, hj, ht⟩
theorem Newer.le {p p' : Nat → Option Addr} {w w' : World} (h : Newer p p' w') (hs : w.heap.size ≤ w'.heap.size) : Newer p p' w := fun j hj t ht => (h j hj t ht).imp id fun h => Nat.le_trans hs h
def RInsPost (m : Nat) (R' : Nat → List Od) (p : Nat → Option Addr) (w : World) (e : Ending) (w' : World) : Prop := ∃ p' c', e = .returned (.int .i64 0) ∧ RbAt w' m R' p' c' ∧ Kept (fun b => b = m) w w' ∧ Newer p p' w
def RowCut (w : World) (xs : List Od) (v : Value) (wx : World) : Prop := ∃ p2 c2, v = .slice p2 xs.length c2 ∧ Fr 37 5 (xs.flatMap odC) w p2 xs.length c2 wx
def RkRel (pos n : Nat) (w0 : World) (kv : Value) (wr : World) : Prop := ∃ j : Nat, pos ≤ j ∧ j ≤ n ∧ kv = .int .i64 j ∧ Kept (fun _ => False) w0 wr

def kill12 (k j : Nat) : Bool := (k == 4 && j == 0) || (k == 7 && (j == 0 || j == 4 || j == 6))
def kill13 (k j : Nat) : Bool := k == 8 && j == 7
theorem fewR_of {R : Nat → List Od} {k n e : Nat} (hk : k < 2) (hn : (R k).length = n) (hlen : (R 0).length + (R 1).length < 256) (he : e ≤ n + 1) : ∀ j, j < 2 → j ≠ k → (R j).length + e ≤ 256 := by
  intro j hj hne
  have h3 : (k = 0 ∧ j = 1) ∨ (k = 1 ∧ j = 0) := by omega
  rcases h3 with ⟨e1, e2⟩ | ⟨e1, e2⟩
  · subst e1; subst e2; omega
  · subst e1; subst e2; omega
theorem od_box_len (d : Od) : (odC d).length = 1 * 5 := rfl

set_option maxHeartbeats 8000000 in
set_option maxRecDepth 100000 in
theorem rinsert_ok {w : World} {m : Nat} {R : Nat → List Od} {p : Nat → Option Addr} {c : Nat → Nat} (h : RbAt w m R p c) (d : Od) (hr : Right d) (hf : findR R d.id = none) (hlen : (R 0).length + (R 1).length < 256)
    {pos : Nat} (hpos : pos ≤ (R (sideN d)).length) (hlo : ∀ x, 0 < pos → (R (sideN d))[pos - 1]? = some x → rahB d x = false) (hhi : ∀ i x, pos ≤ i → (R (sideN d))[i]? = some x → rahB d x = true) :
    Calls Try.prog 10 #[.pointer (some ⟨m, 0, none⟩), .agg #[.int .i64 d.id, .int .i64 d.owner, .int .i64 d.side, .int .i64 d.net, .int .i64 d.units]] w (RInsPost m (upd R (sideN d) (insAt (R (sideN d)) pos d)) p w) := by
  obtain ⟨i0, hi0, hz0, hz1, hz2⟩ := info_parts Try.info37'
  have hk := sideN_lt d
  have hsd : d.side = (sideN d : Int) + 1 := by rcases hr.side with e | e <;> simp [sideN, e]
  have hrl : (R (sideN d)).length < 256 := by have h2 : sideN d = 0 ∨ sideN d = 1 := by omega
                                              rcases h2 with e | e <;> rw [e] <;> omega
  generalize sideN d = k at hk hsd hpos hlo hhi hrl ⊢
  have Hsd := Lib.hid hsd
  have Hlo := Lib.hid hlo
  have Hhi := Lib.hid hhi
  have Hr := Lib.hid hr
  have Hf := Lib.hid hf
  clear hsd hlo hhi hr hf
  have h0 := h.keptF ((Kept.refl _ w).alloc (.cells #[.int .i64 d.id, .int .i64 d.owner, .int .i64 d.side, .int .i64 d.net, .int .i64 d.units] 37))
  have hk0 : Kept (fun _ => False) w (w.alloc (.cells #[.int .i64 d.id, .int .i64 d.owner, .int .i64 d.side, .int .i64 d.net, .int .i64 d.units] 37)) := (Kept.refl _ w).alloc _
  have hq : (w.alloc (.cells #[.int .i64 d.id, .int .i64 d.owner, .int .i64 d.side, .int .i64 d.net, .int .i64 d.units] 37)).heap[w.heap.size]? = some (.cells #[.int .i64 d.id, .int .i64 d.owner, .int .i64 d.side, .int .i64 d.net, .int .i64 d.units] 37 (0, 0)) := block_alloc_new _ _
  go_enter Try.func10, Try.ntmps10
  go_wp2_with fail
  generalize w.heap.size = q at hq ⊢
  generalize w.alloc (.cells #[.int .i64 d.id, .int .i64 d.owner, .int .i64 d.side, .int .i64 d.net, .int .i64 d.units] 37) = w0 at h0 hk0 hq ⊢
  refine (rget_any h0 d.id).mono ?_
  rintro e w1 hp
  obtain ⟨rfl, hk1⟩ := hp.2 Hf.out
  clear hp
  have h1 := h0.keptF hk1
  have hq1 := (hk1.block q (lt_of_block hq) (fun h => h)).trans hq
  have hk01 := hk0.trans hk1
  go_upto_region 2 with fail
  have hk2 : Kept (fun _ => False) w (w1.alloc (.cells #[.int .i64 0, .int .i64 0, .int .i64 0, .int .i64 0, .int .i64 0] 37)) := hk01.alloc _
  have h2 := h1.keptF ((Kept.refl _ w1).alloc (.cells #[.int .i64 0, .int .i64 0, .int .i64 0, .int .i64 0, .int .i64 0] 37))
  have hq2 : (w1.alloc (.cells #[.int .i64 0, .int .i64 0, .int .i64 0, .int .i64 0, .int .i64 0] 37)).heap[q]? = some (.cells #[.int .i64 d.id, .int .i64 d.owner, .int .i64 d.side, .int .i64 d.net, .int .i64 d.units] 37 (0, 0)) := block_alloc hq1
  generalize w1.alloc (.cells #[.int .i64 0, .int .i64 0, .int .i64 0, .int .i64 0, .int .i64 0] 37) = w2 at h2 hk2 hq2 ⊢
  clear h0 hk0 hq hk1 h1 hq1 hk01
  have q0 : w2.cell? ⟨q, 0, none⟩ = some (.int .i64 d.id) := by rw [cell_of_block hq2]; rfl
  have q1 : w2.cell? ⟨q, 1, none⟩ = some (.int .i64 d.owner) := by rw [cell_of_block hq2]; rfl
  have q2 : w2.cell? ⟨q, 2, none⟩ = some (.int .i64 d.side) := by rw [cell_of_block hq2]; rfl
  have q3 : w2.cell? ⟨q, 3, none⟩ = some (.int .i64 d.net) := by rw [cell_of_block hq2]; rfl
  have q4 : w2.cell? ⟨q, 4, none⟩ = some (.int .i64 d.units) := by rw [cell_of_block hq2]; rfl
  go_wp2_with fail
  refine (right_yes d Hr.out _).mono ?_
  rintro e w3 ⟨rfl, k3⟩
  have h3 := h2.keptF k3
  have hk3 := hk2.trans k3
  have hq3 := (k3.block q (lt_of_block hq2) (fun h => h)).trans hq2
  clear h2 hk2 hq2 k3 q0 q1 q2 q3 q4
  have q0 : w3.cell? ⟨q, 0, none⟩ = some (.int .i64 d.id) := by rw [cell_of_block hq3]; rfl
  have q1 : w3.cell? ⟨q, 1, none⟩ = some (.int .i64 d.owner) := by rw [cell_of_block hq3]; rfl
  have q2 : w3.cell? ⟨q, 2, none⟩ = some (.int .i64 d.side) := by rw [cell_of_block hq3]; rfl
  have q3 : w3.cell? ⟨q, 3, none⟩ = some (.int .i64 d.net) := by rw [cell_of_block hq3]; rfl
  have q4 : w3.cell? ⟨q, 4, none⟩ = some (.int .i64 d.units) := by rw [cell_of_block hq3]; rfl
  have r0 := h3.row (k := 0) (by decide)
  have r1 := h3.row (k := 1) (by decide)
  have s1 : IntKind.i64.wrap (((R 0).length : Int) + (R 1).length) = (R 0).length + (R 1).length := IntWalk.i64_in _ (by omega)
  have hge : decide (256 ≤ ((R 0).length : Int) + (R 1).length) = false := decide_eq_false (by omega)
  go_wp2_with fail
  go_quiet (fail)
  clear s1 hge r0 r1
  go_wp2_with fail
  have h4 := h3.keptF ((Kept.refl _ _).drewN nq)
  have hk4 := hk3.drewN nq
  have hq4 : (w3.drewN nq).heap[q]? = some (.cells #[.int .i64 d.id, .int .i64 d.owner, .int .i64 d.side, .int .i64 d.net, .int .i64 d.units] 37 (0, 0)) := hq3
  generalize w3.drewN nq = w4 at h4 hk4 hq4 ⊢
  clear h3 hk3 hq3 q0 q1 q2 q3 q4
  refine (side_any h4 _ k hk Hsd.out).mono ?_
  rintro e w' ⟨rfl, rfl⟩
  generalize hn : (R k).length = n at hpos hrl ⊢
  have Hn := Lib.hid hn
  clear hn
  go_wp2_with fail
  have hstart : RkRel pos n w4 (.int .i64 n) w4 := ⟨n, hpos, Nat.le_refl _, rfl, Kept.refl _ _⟩
  go_loopw [8] (fun kv wr => RkRel pos n w4 kv wr) (fun kv _ => (intOf kv).toNat)
  case atStart => exact hstart
  case round =>
    obtain ⟨j, hj1, hj2, rfl, hkr⟩ := hrel
    clear hstart
    have hsl := (h4.keptF hkr).sl k hk
    rw [Hn.out] at hsl
    have hqr := (hkr.block q (lt_of_block hq4) (fun h => h)).trans hq4
    by_cases hj0 : 0 < j
    · obtain ⟨i, rfl⟩ : ∃ i, j = i + 1 := ⟨j - 1, by omega⟩
      obtain ⟨t, o, hpk⟩ := sl_some hsl (by omega)
      have hd : (R k)[i]? = some ((R k)[i]'(by rw [Hn.out]; omega)) := List.getElem?_eq_getElem (by rw [Hn.out]; omega)
      have hsl2 := hsl
      rw [hpk] at hsl2 ⊢
      have hsl3 := hsl2
      obtain ⟨x0, x1, x2, x3, x4⟩ := rd_cells hsl2 Hn.out.symm hd
      generalize (R k)[i]'(by rw [Hn.out]; omega) = x at hd x0 x1 x2 x3 x4
      have Hd := Lib.hid hd
      have hin : (i : Int) < (n : Int) := by omega
      have hjb : decide (0 < (i : Int) + 1) = true := decide_eq_true (by omega)
      have c0 := fun y : KW wr => KW.cell x0 y
      have c1 := fun y : KW wr => KW.cell x1 y
      have c2 := fun y : KW wr => KW.cell x2 y
      have c3 := fun y : KW wr => KW.cell x3 y
      have c4 := fun y : KW wr => KW.cell x4 y
      have q0 := fun y : KW wr => KW.cell (show wr.cell? ⟨q, 0, none⟩ = some (.int .i64 d.id) by rw [cell_of_block hqr]; rfl) y
      have q1 := fun y : KW wr => KW.cell (show wr.cell? ⟨q, 1, none⟩ = some (.int .i64 d.owner) by rw [cell_of_block hqr]; rfl) y
      have q2 := fun y : KW wr => KW.cell (show wr.cell? ⟨q, 2, none⟩ = some (.int .i64 d.side) by rw [cell_of_block hqr]; rfl) y
      have q3 := fun y : KW wr => KW.cell (show wr.cell? ⟨q, 3, none⟩ = some (.int .i64 d.net) by rw [cell_of_block hqr]; rfl) y
      have q4 := fun y : KW wr => KW.cell (show wr.cell? ⟨q, 4, none⟩ = some (.int .i64 d.units) by rw [cell_of_block hqr]; rfl) y
      clear hd x0 x1 x2 x3 x4 hsl hsl2 hpk
      by_cases hjp : i + 1 = pos
      · have hb : rahB d x = false := Hlo.out x (by omega) (by rw [← hjp]; exact Hd.out)
        have Hb := Lib.hid hb
        have Hjp := Lib.hid hjp
        clear hb hjp
        go_wp2_with fail
        refine wp_region_kept (by kernel_rfl) (by kernel_rfl) ?_
        repeat (go_big_quiet_step (first | with_reducible exact rahead_kw (a := d) (b := x) Hb.out _))
        refine wpQuiet_nil ?_
        intro _ hw'
        obtain ⟨y, rfl⟩ := hw'
        have hsy : SlAt y.w 37 5 (some ⟨t, o, none⟩) (i + 1) (c k) (((R k).take (i + 1)).flatMap odC) := by
          rw [← fm_take (s := 5) (fun _ => rfl)]
          exact (hsl3.kept fun t' ht' => y.kept.block _ (hsl3.lt t' ht') (fun h => h)).take (by omega)
        have hqy := (y.kept.block q (lt_of_block hqr) (fun h => h)).trans hqr
        have hyw := hkr.trans y.kept
        have hRy := h4.keptF hyw
        have hsly := hsl3.kept fun t' ht' => y.kept.block _ (hsl3.lt t' ht') (fun h => h)
        have holdy : ∀ j, j < 2 → ∀ t, p j = some t → t.block < y.w.heap.size := fun j hj t ht => (hRy.sl j hj).lt t ht
        have hqs0 := lt_of_block hqy
        have hms0 := lt_of_block hRy.st
        have hqm : q ≠ m := fun e => by rw [e, hRy.st] at hqy; cases hqy
        have hfew := fewR_of hk Hn.out hlen (e := i + 1 + 1 + (n - (i + 1))) (by omega)
        have Hyw := Lib.hid hyw
        have Hry := Lib.hid hRy
        have Hsly := Lib.hid hsly
        have Holdy := Lib.hid holdy
        have Hfew := Lib.hid hfew
        have Hq := Lib.hid hqy
        clear hyw hRy hsly holdy hfew
        have hle2 : ((R k).take (i + 1) ++ [d]).length = i + 1 + 1 := by rw [List.length_append, List.length_take, Hn.out]; simp; omega
        have Hlen := Lib.hid hle2
        clear hle2
        have hbd0 : (0 : Int) ≤ (i : Int) + 1 := by omega
        have hbd1 : (i : Int) + 1 ≤ ((c k : Nat) : Int) := by have := hsl3.2.1; omega
        have hbd2 : (i : Int) + 1 ≤ (n : Int) := by omega
        have s1 : IntKind.i64.wrap ((i : Int) + 1) = (i : Int) + 1 := IntWalk.i64_in _ (by omega)
        generalize y.w = wy at hsy hqy Hq Hyw Hry Hsly Holdy hqs0 hms0 ⊢
        clear c0 c1 c2 c3 c4 q0 q1 q2 q3 q4
        go_upto_region 12 with fail
        go_cut [9] (fun v wx => RowCut wy ((R k).take (i + 1) ++ [d]) v wx)
        case first =>
          have Hq := Lib.hid hqy
          have hqs := lt_of_block hqy
          clear hqy
          refine wp_region_vals (by kernel_rfl) (by kernel_rfl) (by kernel_rfl) (by kernel_rfl) (Kept (fun _ => False) wy) kill12
            (fun j => (([.emp 37, .val (.slice (some ⟨t, o, none⟩) n (c k)), .val (.int .i64 ((i : Int) + 1)), .old 37 5 (i + 1) (c k) (((R k).take (i + 1)).flatMap odC), .fr 37 5 (i + 1) (((R k).take (i + 1)).flatMap odC), .val (.agg #[.int .i64 d.id, .int .i64 d.owner, .int .i64 d.side, .int .i64 d.net, .int .i64 d.units]), .box 37 1 (odC d), .fr 37 5 (i + 1 + 1) ((((R k).take (i + 1)).flatMap odC) ++ odC d), .fr 37 5 (i + 1 + 1) ((((R k).take (i + 1)).flatMap odC) ++ odC d)] : List Kd).getD j .any).is wy)
            (fun _ _ => True) ((Kept.refl _ wy).drew) (fun _ => trivial) ?_ ?_
          · refine ⟨?_, ?_, ?_, ?_, ?_, ?_, ?_, ?_, ?_, trivial⟩
            all_goals (intro a w' hC hS hV hF)
            · refine ⟨rfl, fun K hK => ?_⟩
              clear hV hF hS
              go_simp
              exact hK _ _ ⟨_, rfl, block_alloc_new _ _, hC.size⟩ (hC.alloc _) (fun j u hj hk hr h => Kd.mono ((Kept.refl _ _).alloc _) (Kd.rest (kills := kill12) rfl (by kernel_rfl) hj hk hr) h) (fun _ _ _ h => h)
            · refine ⟨rfl, fun K hK => ?_⟩
              have e1 : _ = Value.slice (some ⟨t, o, none⟩) n (c k) := slotE (hF 7 (by kernel_rfl))
              clear hV hF hS
              go_simp
              exact hK _ _ rfl hC (fun _ _ _ _ _ h => h) (fun _ _ _ h => h)
            · refine ⟨rfl, fun K hK => ?_⟩
              have e1 : _ = Value.int .i64 ((i : Int) + 1) := slotE (hF 8 (by kernel_rfl))
              clear hV hF hS
              go_simp
              exact hK _ _ rfl hC (fun _ _ _ _ _ h => h) (fun _ _ _ h => h)
            · refine ⟨rfl, fun K hK => ?_⟩
              obtain ⟨_, rfl, e0⟩ := hV 1 (by kernel_rfl) (by kernel_rfl)
              obtain ⟨_, rfl, e1⟩ := hV 2 (by kernel_rfl) (by kernel_rfl)
              have e0 := slotE (e0 _ rfl)
              have e1 := slotE (e1 _ rfl)
              clear hV hF hS
              have Hsy := Lib.hid hsy
              clear hsy
              go_simp
              exact hK _ _ ⟨_, rfl, Hsy.out⟩ hC (fun _ _ _ _ _ h => h) (fun _ _ _ h => h)
            · refine ⟨rfl, fun K hK => ?_⟩
              obtain ⟨_, ⟨b0, rfl, hb0, hn0⟩, e0⟩ := hV 0 (by kernel_rfl) (by kernel_rfl)
              obtain ⟨_, ⟨p0, rfl, hs0⟩, e1⟩ := hV 3 (by kernel_rfl) (by kernel_rfl)
              refine wp_append_emp (.tmp 56) (.tmp 59) 27 rfl 37 i0 _ 5 40 Try.underlying27 hi0 hz0 hz1 hz2 rfl (by decide) hC b0 (e0 _ rfl) hb0 hn0 _ _ _ _ (e1 _ rfl) (hs0.kept fun t ht => hC.block _ (hs0.lt t ht) (fun h => h)) (od_one _) (by unfold maxLen; omega) (by omega) fun v w2 h1 h2 h3 => hK v w2 h1 h2 (fun j u hj hk hr h => Kd.grow h3 hb0 (Kd.rest (kills := kill12) rfl (by kernel_rfl) hj hk hr) h) (fun _ _ _ h => h)
            · refine ⟨rfl, fun K hK => ?_⟩
              have f0 : _ = Value.pointer (some ⟨q, 0, none⟩) := slotE (hF 3 (by kernel_rfl))
              have hb := (hC.block q hqs (fun h => h)).trans Hq.out
              have q0 : w'.cell? ⟨q, 0, none⟩ = some (.int .i64 d.id) := by rw [cell_of_block hb]; rfl
              have q1 : w'.cell? ⟨q, 1, none⟩ = some (.int .i64 d.owner) := by rw [cell_of_block hb]; rfl
              have q2 : w'.cell? ⟨q, 2, none⟩ = some (.int .i64 d.side) := by rw [cell_of_block hb]; rfl
              have q3 : w'.cell? ⟨q, 3, none⟩ = some (.int .i64 d.net) := by rw [cell_of_block hb]; rfl
              have q4 : w'.cell? ⟨q, 4, none⟩ = some (.int .i64 d.units) := by rw [cell_of_block hb]; rfl
              clear hb
              clear hV hF hS
              go_simp
              exact hK _ _ rfl hC (fun _ _ _ _ _ h => h) (fun _ _ _ h => h)
            · refine ⟨rfl, fun K hK => ?_⟩
              obtain ⟨_, rfl, e1⟩ := hV 5 (by kernel_rfl) (by kernel_rfl)
              have e1 := slotE (e1 _ rfl)
              clear hV hF hS
              go_simp
              exact hK _ _ ⟨_, rfl, block_alloc_new _ _, hC.size⟩ (hC.alloc _) (fun j u hj hk hr h => Kd.mono ((Kept.refl _ _).alloc _) (Kd.rest (kills := kill12) rfl (by kernel_rfl) hj hk hr) h) (fun _ _ _ h => h)
            · refine ⟨rfl, fun K hK => ?_⟩
              obtain ⟨u0, h0, e0⟩ := hV 4 (by kernel_rfl) (by kernel_rfl)
              obtain ⟨_, ⟨b1, rfl, hb1, hn1⟩, e1⟩ := hV 6 (by kernel_rfl) (by kernel_rfl)
              refine wp_append_fr (.tmp 60) (.tmp 62) 27 rfl 37 i0 _ 5 40 Try.underlying27 hi0 hz0 hz1 hz2 rfl (by decide) (i + 1) _ u0 (e0 _ rfl) h0 _ 1 1 _ (e1 _ rfl) (SlAt.of_box hb1 rfl) (odC_one d) (by unfold maxLen; omega) (by omega) fun v w2 h1 h2 => hK v w2 h1 h2 (fun j u hj hk hr h => Kd.stay (Kd.rest (kills := kill12) rfl (by kernel_rfl) hj hk hr) h) (fun _ _ _ h => h)
            · refine ⟨rfl, fun K hK => ?_⟩
              obtain ⟨u0, h0, e0⟩ := hV 7 (by kernel_rfl) (by kernel_rfl)
              have e0 := slotE (e0 _ rfl)
              clear hV hF hS
              go_simp
              exact hK _ _ h0 hC (fun _ _ _ _ _ h => h) (fun _ _ _ h => h)
          · intro vs wx hl hC hV
            replace hl : vs.length = 9 := hl
            obtain ⟨v0, vs, rfl, hl0⟩ := cons_of hl
            obtain ⟨v1, vs, rfl, hl1⟩ := cons_of hl0
            obtain ⟨v2, vs, rfl, hl2⟩ := cons_of hl1
            obtain ⟨v3, vs, rfl, hl3⟩ := cons_of hl2
            obtain ⟨v4, vs, rfl, hl4⟩ := cons_of hl3
            obtain ⟨v5, vs, rfl, hl5⟩ := cons_of hl4
            obtain ⟨v6, vs, rfl, hl6⟩ := cons_of hl5
            obtain ⟨v7, vs, rfl, hl7⟩ := cons_of hl6
            obtain ⟨v8, vs, rfl, hl8⟩ := cons_of hl7
            obtain rfl := nil_of hl8
            obtain ⟨p2, c2, rfl, F2⟩ := hV 8 (by decide) (by decide)
            clear hV
            simp only [dstsOf, List.map_cons, List.map_nil, puts, Act.put, List.setIfInBounds_toArray, List.set_cons_succ, List.set_cons_zero, Exit.then]
            refine ‹∀ (a' : Act) (w' : World), Met _ a' w' → _› _ _ ?_
            go_meet
            exact ⟨p2, c2, by rw [Hlen.out], by rw [List.flatMap_append, Hlen.out]; simpa using F2⟩
        case rest =>
          obtain ⟨p2, c2, rfl, F2⟩ := hcut
          rw [Hlen.out]
          rw [Hlen.out] at F2
          have hRc := Hry.out.keptF F2.k
          have hqc := (F2.k.block q hqs0 (fun h => h)).trans Hq.out
          have hslc : SlAt wc 37 5 (some ⟨t, o, none⟩) n (c k) ((R k).flatMap odC) := Hsly.out.kept fun t' ht' => F2.k.block _ (Hsly.out.lt t' ht') (fun h => h)
          have hdd : SlAt wc 37 5 (some ⟨t, o + (i + 1) * 5, none⟩) (n - (i + 1)) ((c k) - (i + 1)) (((R k).drop (i + 1)).flatMap odC) := by rw [← fm_drop odC_len]; exact hslc.drop (by omega)
          have hda : (c k) = i + 1 → SlAt wc 37 5 (some ⟨t, o, none⟩) (n - (i + 1)) ((c k) - (i + 1)) (((R k).drop (i + 1)).flatMap odC) := fun h => by have h1 := hslc.drop_all; have h2 := hslc.2.1; rw [show n - (i + 1) = 0 by omega, show (c k) - (i + 1) = 0 by omega, List.drop_of_length_le (by rw [Hn.out]; omega)]; exact h1
          have Hdd := Lib.hid hdd
          have Hda := Lib.hid hda
          clear hdd hda
          have Hslc := Lib.hid hslc
          have HRc := Lib.hid hRc
          have Hqc := Lib.hid hqc
          have hqs1 := lt_of_block hqc
          have hys : i + 1 + 1 + (n - (i + 1)) = (insAt (R k) (i + 1) d).length := by rw [insAt, List.length_append, List.length_cons, List.length_take, List.length_drop, Hn.out]; omega
          have hyf : ((R k).take (i + 1) ++ [d]).flatMap odC ++ ((R k).drop (i + 1)).flatMap odC = (insAt (R k) (i + 1) d).flatMap odC := by rw [insAt]; simp
          have hyl : (insAt (R k) (i + 1) d).length ≤ 256 := by rw [← hys]; omega
          have hfw : ∀ j, j < 2 → j ≠ k → (R j).length + (insAt (R k) (i + 1) d).length ≤ 256 := by rw [← hys]; exact Hfew.out
          have Hys := Lib.hid hys
          have Hyf := Lib.hid hyf
          have Hfw := Lib.hid hfw
          have HF2 := Lib.hid F2
          clear hys hyf hfw hslc hRc hqc F2
          go_upto_region 13 with fail
          refine wp_region_vals (by kernel_rfl) (by kernel_rfl) (by kernel_rfl) (by kernel_rfl) (Kept (fun b => b = m ∨ OnB p2 b) wc) kill13
            (fun j => ([fun v _ => v = .pointer (some ⟨m, 0, none⟩), fun v _ => v = .pointer (some ⟨q, 2, none⟩), fun v _ => v = .int .i64 d.side, fun v _ => v = .slice p2 (i + 1 + 1) c2, fun v _ => v = .slice (some ⟨t, o, none⟩) n (c k), fun v _ => v = .int .i64 ((i : Int) + 1),
              fun v _ => ∃ pd, v = .slice pd (n - (i + 1)) ((c k) - (i + 1)) ∧ SlAt wc 37 5 pd (n - (i + 1)) ((c k) - (i + 1)) (((R k).drop (i + 1)).flatMap odC), fun v w' => ∃ p4 c4, v = .slice p4 (insAt (R k) (i + 1) d).length c4 ∧ SlAt w' 37 5 p4 (insAt (R k) (i + 1) d).length c4 ((insAt (R k) (i + 1) d).flatMap odC) ∧ RbAt w' m R p c ∧ Kept (fun _ => False) wy w' ∧ ∀ t, p4 = some t → wy.heap.size ≤ t.block,
              fun _ w' => ∃ p' c', RbAt w' m (upd R k (insAt (R k) (i + 1) d)) p' c' ∧ Kept (fun b => b = m) wy w' ∧ Newer p p' wy] : List (Value → World → Prop)).getD j (fun _ _ => True))
            (fun j w' => j = 7 → Kept (fun _ => False) wc w') ((Kept.refl _ wc).drew) (fun _ _ => (Kept.refl _ wc).drew) ?_ ?_
          · refine ⟨?_, ?_, ?_, ?_, ?_, ?_, ?_, ?_, ?_, trivial⟩
            all_goals (intro a w' hC hS hV hF; refine ⟨rfl, fun K hK => ?_⟩)
            · have e1 : _ = Value.pointer (some ⟨m, 0, none⟩) := slotE (hF 0 (by kernel_rfl))
              clear hV hF hS
              go_simp
              exact hK _ _ rfl hC (fun _ _ _ _ _ h => h) (fun _ _ _ h => h)
            · have e1 : _ = Value.pointer (some ⟨q, 0, none⟩) := slotE (hF 3 (by kernel_rfl))
              clear hV hF hS
              go_simp
              exact hK _ _ rfl hC (fun _ _ _ _ _ h => h) (fun _ _ _ h => h)
            · skip
              obtain ⟨_, rfl, e0⟩ := hV 1 (by kernel_rfl) (by kernel_rfl)
              have e0 := slotE (e0 _ rfl)
              have hb := (hC.block q hqs1 (by rintro (h | ⟨t', ht', e'⟩); (exact hqm h); (have := HF2.out.nw t' ht'; omega))).trans Hqc.out
              have q2 : w'.cell? ⟨q, 2, none⟩ = some (.int .i64 d.side) := by rw [cell_of_block hb]; rfl
              clear hb hV hF hS
              go_simp
              exact hK _ _ rfl hC (fun _ _ _ _ _ h => h) (fun _ _ _ h => h)
            · have e1 : _ = Value.slice p2 (i + 1 + 1) c2 := slotE (hF 9 (by kernel_rfl))
              clear hV hF hS
              go_simp
              exact hK _ _ rfl hC (fun _ _ _ _ _ h => h) (fun _ _ _ h => h)
            · have e1 : _ = Value.slice (some ⟨t, o, none⟩) n (c k) := slotE (hF 7 (by kernel_rfl))
              clear hV hF hS
              go_simp
              exact hK _ _ rfl hC (fun _ _ _ _ _ h => h) (fun _ _ _ h => h)
            · have e1 : _ = Value.int .i64 ((i : Int) + 1) := slotE (hF 8 (by kernel_rfl))
              clear hV hF hS
              go_simp
              exact hK _ _ rfl hC (fun _ _ _ _ _ h => h) (fun _ _ _ h => h)
            · skip
              obtain ⟨_, rfl, e0⟩ := hV 4 (by kernel_rfl) (by kernel_rfl)
              have e0 := slotE (e0 _ rfl)
              obtain ⟨_, rfl, e1⟩ := hV 5 (by kernel_rfl) (by kernel_rfl)
              have e1 := slotE (e1 _ rfl)
              clear hV hF hS
              by_cases hcap : c k = i + 1
              · have b6 : ((c k : Nat) : Int) = (i : Int) + 1 := by omega
                have Hcap := Lib.hid hcap
                clear hcap
                go_simp
                rw [if_pos Hcap.out]
                exact hK _ _ ⟨_, rfl, Hda.out Hcap.out⟩ hC (fun _ _ _ _ _ h => h) (fun _ _ _ h => h)
              · have b6 : ¬ ((c k : Nat) : Int) = (i : Int) + 1 := by omega
                go_simp
                exact hK _ _ ⟨_, rfl, Hdd.out⟩ hC (fun _ _ _ _ _ h => h) (fun _ _ _ h => h)
            · obtain ⟨_, rfl, e0⟩ := hV 3 (by kernel_rfl) (by kernel_rfl)
              obtain ⟨_, ⟨pd, rfl, hpd⟩, e1⟩ := hV 6 (by kernel_rfl) (by kernel_rfl)
              have hS1 := hS 7 (by kernel_rfl) rfl
              have F3 := HF2.out.mono hS1
              refine wp_append_any (.tmp 67) (.tmp 70) 27 rfl 37 i0 _ 5 40 Try.underlying27 hi0 hz0 hz1 hz2 rfl (by decide) p2 _ c2 _ (e0 _ rfl) F3.sl pd _ _ _ (e1 _ rfl) (hpd.kept fun t ht => hS1.block _ (hpd.lt t ht) (fun h => h)) (od_one _) (by unfold maxLen; omega) (by omega) ?_
              intro p4 c4 w4 hs4 hg4 hb4
              have F4 := F3.app hs4 hg4 hb4
              rw [Hys.out, Hyf.out] at F4
              rw [Hys.out]
              have hkb := Kept.of_grownB hg4
              have hR4 : RbAt w4 m R p c := (HRc.out.keptF hS1).kept hkb (by rintro ⟨t', ht', e'⟩; have := HF2.out.nw t' ht'; omega) (fun j hj t'' ht'' => by rintro ⟨t', ht', e'⟩; have := HF2.out.nw t' ht'; have := Holdy.out j hj t'' ht''; omega)
              refine hK _ _ ⟨p4, c4, rfl, F4.sl, hR4, F4.k, F4.nw⟩ (hC.trans (hkb.mono fun _ _ h => .inr h)) (fun j u hj hk hr h => ?_) (fun j hj _ _ h => absurd h hj)
              match j, hj, hr, h with
              | 0, _, _, h => exact h
              | 1, _, _, h => exact h
              | 2, _, _, h => exact h
              | 3, _, _, h => exact h
              | 4, _, _, h => exact h
              | 5, _, _, h => exact h
              | 6, _, _, h => exact h
              | 7, hj, _, _ => exact absurd rfl hj
              | 8, _, hr, _ => exact tf_absurd hr (by kernel_rfl)
              | j + 9, _, _, _ => trivial
            · obtain ⟨_, rfl, e0⟩ := hV 0 (by kernel_rfl) (by kernel_rfl)
              obtain ⟨_, rfl, e2⟩ := hV 2 (by kernel_rfl) (by kernel_rfl)
              obtain ⟨_, ⟨p4, c4, rfl, hs4, hR4, hk4', hnw4⟩, e7⟩ := hV 7 (by kernel_rfl) (by kernel_rfl)
              have e0 := slotE (e0 _ rfl)
              have e2 := slotE (e2 _ rfl)
              have e7 := slotE (e7 _ rfl)
              clear hV hF hS
              have Hs4 := Lib.hid hs4
              have HR4 := Lib.hid hR4
              have Hk4' := Lib.hid hk4'
              have Hnw4 := Lib.hid hnw4
              clear hs4 hR4 hk4' hnw4
              go_simp
              refine (put_any HR4.out _ k hk Hsd.out Hs4.out Hfw.out).mono ?_
              rintro e w5 ⟨rfl, hR5, hk5⟩
              refine hK _ _ ⟨_, _, hR5, (Hk4'.out.mono (fun _ _ h => h.elim)).trans hk5, Newer.upd Hnw4.out⟩ (hC.trans (hk5.mono fun _ _ h => .inl h)) (fun j u hj hk hr h => ?_) (fun j _ hr _ h => tf_absurd hr (by rw [h]; kernel_rfl))
              match j, hj, hk, h with
              | 0, _, _, h => exact h
              | 1, _, _, h => exact h
              | 2, _, _, h => exact h
              | 3, _, _, h => exact h
              | 4, _, _, h => exact h
              | 5, _, _, h => exact h
              | 6, _, _, h => exact h
              | 7, _, hk, _ => exact tf_absurd hk (by kernel_rfl)
              | 8, hj, _, _ => exact absurd rfl hj
              | j + 9, _, _, _ => trivial
          · intro vs wx hl hC hV
            replace hl : vs.length = 9 := hl
            obtain ⟨v0, vs, rfl, hl0⟩ := cons_of hl
            obtain ⟨v1, vs, rfl, hl1⟩ := cons_of hl0
            obtain ⟨v2, vs, rfl, hl2⟩ := cons_of hl1
            obtain ⟨v3, vs, rfl, hl3⟩ := cons_of hl2
            obtain ⟨v4, vs, rfl, hl4⟩ := cons_of hl3
            obtain ⟨v5, vs, rfl, hl5⟩ := cons_of hl4
            obtain ⟨v6, vs, rfl, hl6⟩ := cons_of hl5
            obtain ⟨v7, vs, rfl, hl7⟩ := cons_of hl6
            obtain ⟨v8, vs, rfl, hl8⟩ := cons_of hl7
            obtain rfl := nil_of hl8
            obtain ⟨p', c', hR5, hk5, hnw5⟩ := hV 8 (by decide) (by decide)
            clear hV
            simp only [dstsOf, List.map_cons, List.map_nil, puts, Act.put, List.setIfInBounds_toArray, List.set_cons_succ, List.set_cons_zero, Exit.then]
            go_wp2
            go_ret
            exact ⟨p', c', rfl, by rw [← Hjp.out]; exact hR5, ((hk4.trans Hyw.out).mono (fun _ _ h => h.elim)).trans hk5, hnw5.le (hk4.trans Hyw.out).size⟩
      · have hb : rahB d x = true := Hhi.out i x (by omega) Hd.out
        have Hb := Lib.hid hb
        clear hb
        go_wp2_with fail
        refine wp_region_kept (by kernel_rfl) (by kernel_rfl) ?_
        repeat (go_big_quiet_step (first | with_reducible exact rahead_kw (a := d) (b := x) Hb.out _))
        refine wpQuiet_nil ?_
        intro _ hw'
        obtain ⟨y, rfl⟩ := hw'
        have hky := hkr.trans y.kept
        go_wp2
        exact ⟨⟨i, by omega, by omega, rfl, hky⟩, by simp [intOf]⟩
    · obtain rfl : j = 0 := by omega
      obtain rfl : pos = 0 := by omega
      have hyw := hkr
      have hRy := h4.keptF hkr
      have hqy := hqr
      have hsly := hsl
      generalize wr = wy at hyw hRy hqy hsly hkr hqr hsl ⊢
      clear hkr hqr
      rcases hsl.2.2 with ⟨hpk, hck⟩ | ⟨t, o, arr, hpk, _⟩
      · have hn0 : n = 0 := by have := hsl.2.1; omega
        subst hn0
        have hnil : R k = [] := List.eq_nil_of_length_eq_zero Hn.out
        have Hnil := Lib.hid hnil
        rw [hpk, hck] at hsly ⊢
        have Hck := Lib.hid hck
        have Hpk := Lib.hid hpk
        clear hnil hsl hpk hck
        have hsy : SlAt wy 37 5 none 0 0 (((R k).take 0).flatMap odC) := by simpa using SlAt.nil wy 37 5
        go_wp2_with fail
        refine wp_region_kept (by kernel_rfl) (by kernel_rfl) ?_
        repeat (go_big_quiet_step (fail))
        refine wpQuiet_nil ?_
        intro _ hw'
        obtain ⟨y, rfl⟩ := hw'
        replace hyw := hyw.trans y.kept
        replace hRy := hRy.keptF y.kept
        replace hqy := (y.kept.block q (lt_of_block hqy) (fun h => h)).trans hqy
        replace hsly := hsly.kept fun t' ht' => y.kept.block _ (hsly.lt t' ht') (fun h => h)
        replace hsy := hsy.kept fun t' ht' => y.kept.block _ (hsy.lt t' ht') (fun h => h)
        generalize y.w = wy at hyw hRy hqy hsly hsy ⊢
        have hle2 : ((R k).take 0 ++ [d]).length = 0 + 1 := by simp
        have Hlen := Lib.hid hle2
        clear hle2
        have hbd0 : (0 : Int) ≤ ((c k : Nat) : Int) := by omega
        have hqm : q ≠ m := fun e => by rw [e, hRy.st] at hqy; cases hqy
        have holdy : ∀ j, j < 2 → ∀ t, p j = some t → t.block < wy.heap.size := fun j hj t ht => (hRy.sl j hj).lt t ht
        have hqs0 := lt_of_block hqy
        have hms0 := lt_of_block hRy.st
        have hfew := fewR_of hk Hn.out hlen (e := 0 + 1 + (0 - 0)) (by omega)
        have Hyw := Lib.hid hyw
        have Hry := Lib.hid hRy
        have Hsly := Lib.hid hsly
        have Holdy := Lib.hid holdy
        have Hfew := Lib.hid hfew
        have Hq := Lib.hid hqy
        clear hyw hRy hsly holdy hfew
        go_upto_region 12 with fail
        go_cut [9] (fun v wx => RowCut wy ((R k).take (0) ++ [d]) v wx)
        case first =>
          have Hq := Lib.hid hqy
          have hqs := lt_of_block hqy
          clear hqy
          refine wp_region_vals (by kernel_rfl) (by kernel_rfl) (by kernel_rfl) (by kernel_rfl) (Kept (fun _ => False) wy) kill12
            (fun j => (([.emp 37, .val (.slice none 0 0), .val (.int .i64 0), .old 37 5 (0) 0 (((R k).take (0)).flatMap odC), .fr 37 5 (0) (((R k).take (0)).flatMap odC), .val (.agg #[.int .i64 d.id, .int .i64 d.owner, .int .i64 d.side, .int .i64 d.net, .int .i64 d.units]), .box 37 1 (odC d), .fr 37 5 (0 + 1) ((((R k).take (0)).flatMap odC) ++ odC d), .fr 37 5 (0 + 1) ((((R k).take (0)).flatMap odC) ++ odC d)] : List Kd).getD j .any).is wy)
            (fun _ _ => True) ((Kept.refl _ wy).drew) (fun _ => trivial) ?_ ?_
          · refine ⟨?_, ?_, ?_, ?_, ?_, ?_, ?_, ?_, ?_, trivial⟩
            all_goals (intro a w' hC hS hV hF)
            · refine ⟨rfl, fun K hK => ?_⟩
              clear hV hF hS
              go_simp
              exact hK _ _ ⟨_, rfl, block_alloc_new _ _, hC.size⟩ (hC.alloc _) (fun j u hj hk hr h => Kd.mono ((Kept.refl _ _).alloc _) (Kd.rest (kills := kill12) rfl (by kernel_rfl) hj hk hr) h) (fun _ _ _ h => h)
            · refine ⟨rfl, fun K hK => ?_⟩
              have e1 : _ = Value.slice none 0 0 := slotE (hF 7 (by kernel_rfl))
              clear hV hF hS
              go_simp
              exact hK _ _ rfl hC (fun _ _ _ _ _ h => h) (fun _ _ _ h => h)
            · refine ⟨rfl, fun K hK => ?_⟩
              have e1 : _ = Value.int .i64 0 := slotE (hF 8 (by kernel_rfl))
              clear hV hF hS
              go_simp
              exact hK _ _ rfl hC (fun _ _ _ _ _ h => h) (fun _ _ _ h => h)
            · refine ⟨rfl, fun K hK => ?_⟩
              obtain ⟨_, rfl, e0⟩ := hV 1 (by kernel_rfl) (by kernel_rfl)
              obtain ⟨_, rfl, e1⟩ := hV 2 (by kernel_rfl) (by kernel_rfl)
              have e0 := slotE (e0 _ rfl)
              have e1 := slotE (e1 _ rfl)
              clear hV hF hS
              have Hsy := Lib.hid hsy
              clear hsy
              go_simp
              exact hK _ _ ⟨_, rfl, Hsy.out⟩ hC (fun _ _ _ _ _ h => h) (fun _ _ _ h => h)
            · refine ⟨rfl, fun K hK => ?_⟩
              obtain ⟨_, ⟨b0, rfl, hb0, hn0⟩, e0⟩ := hV 0 (by kernel_rfl) (by kernel_rfl)
              obtain ⟨_, ⟨p0, rfl, hs0⟩, e1⟩ := hV 3 (by kernel_rfl) (by kernel_rfl)
              refine wp_append_emp (.tmp 56) (.tmp 59) 27 rfl 37 i0 _ 5 40 Try.underlying27 hi0 hz0 hz1 hz2 rfl (by decide) hC b0 (e0 _ rfl) hb0 hn0 _ _ _ _ (e1 _ rfl) (hs0.kept fun t ht => hC.block _ (hs0.lt t ht) (fun h => h)) (od_one _) (by unfold maxLen; omega) (by omega) fun v w2 h1 h2 h3 => hK v w2 h1 h2 (fun j u hj hk hr h => Kd.grow h3 hb0 (Kd.rest (kills := kill12) rfl (by kernel_rfl) hj hk hr) h) (fun _ _ _ h => h)
            · refine ⟨rfl, fun K hK => ?_⟩
              have f0 : _ = Value.pointer (some ⟨q, 0, none⟩) := slotE (hF 3 (by kernel_rfl))
              have hb := (hC.block q hqs (fun h => h)).trans Hq.out
              have q0 : w'.cell? ⟨q, 0, none⟩ = some (.int .i64 d.id) := by rw [cell_of_block hb]; rfl
              have q1 : w'.cell? ⟨q, 1, none⟩ = some (.int .i64 d.owner) := by rw [cell_of_block hb]; rfl
              have q2 : w'.cell? ⟨q, 2, none⟩ = some (.int .i64 d.side) := by rw [cell_of_block hb]; rfl
              have q3 : w'.cell? ⟨q, 3, none⟩ = some (.int .i64 d.net) := by rw [cell_of_block hb]; rfl
              have q4 : w'.cell? ⟨q, 4, none⟩ = some (.int .i64 d.units) := by rw [cell_of_block hb]; rfl
              clear hb
              clear hV hF hS
              go_simp
              exact hK _ _ rfl hC (fun _ _ _ _ _ h => h) (fun _ _ _ h => h)
            · refine ⟨rfl, fun K hK => ?_⟩
              obtain ⟨_, rfl, e1⟩ := hV 5 (by kernel_rfl) (by kernel_rfl)
              have e1 := slotE (e1 _ rfl)
              clear hV hF hS
              go_simp
              exact hK _ _ ⟨_, rfl, block_alloc_new _ _, hC.size⟩ (hC.alloc _) (fun j u hj hk hr h => Kd.mono ((Kept.refl _ _).alloc _) (Kd.rest (kills := kill12) rfl (by kernel_rfl) hj hk hr) h) (fun _ _ _ h => h)
            · refine ⟨rfl, fun K hK => ?_⟩
              obtain ⟨u0, h0, e0⟩ := hV 4 (by kernel_rfl) (by kernel_rfl)
              obtain ⟨_, ⟨b1, rfl, hb1, hn1⟩, e1⟩ := hV 6 (by kernel_rfl) (by kernel_rfl)
              refine wp_append_fr (.tmp 60) (.tmp 62) 27 rfl 37 i0 _ 5 40 Try.underlying27 hi0 hz0 hz1 hz2 rfl (by decide) (0) _ u0 (e0 _ rfl) h0 _ 1 1 _ (e1 _ rfl) (SlAt.of_box hb1 rfl) (odC_one d) (by unfold maxLen; omega) (by omega) fun v w2 h1 h2 => hK v w2 h1 h2 (fun j u hj hk hr h => Kd.stay (Kd.rest (kills := kill12) rfl (by kernel_rfl) hj hk hr) h) (fun _ _ _ h => h)
            · refine ⟨rfl, fun K hK => ?_⟩
              obtain ⟨u0, h0, e0⟩ := hV 7 (by kernel_rfl) (by kernel_rfl)
              have e0 := slotE (e0 _ rfl)
              clear hV hF hS
              go_simp
              exact hK _ _ h0 hC (fun _ _ _ _ _ h => h) (fun _ _ _ h => h)
          · intro vs wx hl hC hV
            replace hl : vs.length = 9 := hl
            obtain ⟨v0, vs, rfl, hl0⟩ := cons_of hl
            obtain ⟨v1, vs, rfl, hl1⟩ := cons_of hl0
            obtain ⟨v2, vs, rfl, hl2⟩ := cons_of hl1
            obtain ⟨v3, vs, rfl, hl3⟩ := cons_of hl2
            obtain ⟨v4, vs, rfl, hl4⟩ := cons_of hl3
            obtain ⟨v5, vs, rfl, hl5⟩ := cons_of hl4
            obtain ⟨v6, vs, rfl, hl6⟩ := cons_of hl5
            obtain ⟨v7, vs, rfl, hl7⟩ := cons_of hl6
            obtain ⟨v8, vs, rfl, hl8⟩ := cons_of hl7
            obtain rfl := nil_of hl8
            obtain ⟨p2, c2, rfl, F2⟩ := hV 8 (by decide) (by decide)
            clear hV
            simp only [dstsOf, List.map_cons, List.map_nil, puts, Act.put, List.setIfInBounds_toArray, List.set_cons_succ, List.set_cons_zero, Exit.then]
            refine ‹∀ (a' : Act) (w' : World), Met _ a' w' → _› _ _ ?_
            go_meet
            exact ⟨p2, c2, by rw [Hlen.out], by rw [List.flatMap_append, Hlen.out]; simpa using F2⟩
        case rest =>
          obtain ⟨p2, c2, rfl, F2⟩ := hcut
          rw [Hlen.out]
          rw [Hlen.out] at F2
          have hRc := Hry.out.keptF F2.k
          have hqc := (F2.k.block q hqs0 (fun h => h)).trans Hq.out
          have hslc : SlAt wc 37 5 none 0 0 ((R k).flatMap odC) := Hsly.out.kept fun t' ht' => F2.k.block _ (Hsly.out.lt t' ht') (fun h => h)
          have Hdd : Hid (SlAt wc 37 5 none 0 0 (((R k).drop 0).flatMap odC)) := by rw [Hnil.out]; exact SlAt.nil _ _ _
          have Hslc := Lib.hid hslc
          have HRc := Lib.hid hRc
          have Hqc := Lib.hid hqc
          have hqs1 := lt_of_block hqc
          have hys : 0 + 1 + (0 - (0)) = (insAt (R k) (0) d).length := by rw [insAt, List.length_append, List.length_cons, List.length_take, List.length_drop, Hn.out]; omega
          have hyf : ((R k).take (0) ++ [d]).flatMap odC ++ ((R k).drop (0)).flatMap odC = (insAt (R k) (0) d).flatMap odC := by rw [insAt]; simp
          have hyl : (insAt (R k) (0) d).length ≤ 256 := by rw [← hys]; omega
          have hfw : ∀ j, j < 2 → j ≠ k → (R j).length + (insAt (R k) (0) d).length ≤ 256 := by rw [← hys]; exact Hfew.out
          have Hys := Lib.hid hys
          have Hyf := Lib.hid hyf
          have Hfw := Lib.hid hfw
          have HF2 := Lib.hid F2
          clear hys hyf hfw hslc hRc hqc F2
          go_upto_region 13 with fail
          refine wp_region_vals (by kernel_rfl) (by kernel_rfl) (by kernel_rfl) (by kernel_rfl) (Kept (fun b => b = m ∨ OnB p2 b) wc) kill13
            (fun j => ([fun v _ => v = .pointer (some ⟨m, 0, none⟩), fun v _ => v = .pointer (some ⟨q, 2, none⟩), fun v _ => v = .int .i64 d.side, fun v _ => v = .slice p2 (0 + 1) c2, fun v _ => v = .slice none 0 0, fun v _ => v = .int .i64 0,
              fun v _ => ∃ pd, v = .slice pd (0 - (0)) (0 - (0)) ∧ SlAt wc 37 5 pd (0 - (0)) (0 - (0)) (((R k).drop (0)).flatMap odC), fun v w' => ∃ p4 c4, v = .slice p4 (insAt (R k) (0) d).length c4 ∧ SlAt w' 37 5 p4 (insAt (R k) (0) d).length c4 ((insAt (R k) (0) d).flatMap odC) ∧ RbAt w' m R p c ∧ Kept (fun _ => False) wy w' ∧ ∀ t, p4 = some t → wy.heap.size ≤ t.block,
              fun _ w' => ∃ p' c', RbAt w' m (upd R k (insAt (R k) (0) d)) p' c' ∧ Kept (fun b => b = m) wy w' ∧ Newer p p' wy] : List (Value → World → Prop)).getD j (fun _ _ => True))
            (fun j w' => j = 7 → Kept (fun _ => False) wc w') ((Kept.refl _ wc).drew) (fun _ _ => (Kept.refl _ wc).drew) ?_ ?_
          · refine ⟨?_, ?_, ?_, ?_, ?_, ?_, ?_, ?_, ?_, trivial⟩
            all_goals (intro a w' hC hS hV hF; refine ⟨rfl, fun K hK => ?_⟩)
            · have e1 : _ = Value.pointer (some ⟨m, 0, none⟩) := slotE (hF 0 (by kernel_rfl))
              clear hV hF hS
              go_simp
              exact hK _ _ rfl hC (fun _ _ _ _ _ h => h) (fun _ _ _ h => h)
            · have e1 : _ = Value.pointer (some ⟨q, 0, none⟩) := slotE (hF 3 (by kernel_rfl))
              clear hV hF hS
              go_simp
              exact hK _ _ rfl hC (fun _ _ _ _ _ h => h) (fun _ _ _ h => h)
            · skip
              obtain ⟨_, rfl, e0⟩ := hV 1 (by kernel_rfl) (by kernel_rfl)
              have e0 := slotE (e0 _ rfl)
              have hb := (hC.block q hqs1 (by rintro (h | ⟨t', ht', e'⟩); (exact hqm h); (have := HF2.out.nw t' ht'; omega))).trans Hqc.out
              have q2 : w'.cell? ⟨q, 2, none⟩ = some (.int .i64 d.side) := by rw [cell_of_block hb]; rfl
              clear hb hV hF hS
              go_simp
              exact hK _ _ rfl hC (fun _ _ _ _ _ h => h) (fun _ _ _ h => h)
            · have e1 : _ = Value.slice p2 (0 + 1) c2 := slotE (hF 9 (by kernel_rfl))
              clear hV hF hS
              go_simp
              exact hK _ _ rfl hC (fun _ _ _ _ _ h => h) (fun _ _ _ h => h)
            · have e1 : _ = Value.slice none 0 0 := slotE (hF 7 (by kernel_rfl))
              clear hV hF hS
              go_simp
              exact hK _ _ rfl hC (fun _ _ _ _ _ h => h) (fun _ _ _ h => h)
            · have e1 : _ = Value.int .i64 0 := slotE (hF 8 (by kernel_rfl))
              clear hV hF hS
              go_simp
              exact hK _ _ rfl hC (fun _ _ _ _ _ h => h) (fun _ _ _ h => h)
            · skip
              obtain ⟨_, rfl, e0⟩ := hV 4 (by kernel_rfl) (by kernel_rfl)
              have e0 := slotE (e0 _ rfl)
              obtain ⟨_, rfl, e1⟩ := hV 5 (by kernel_rfl) (by kernel_rfl)
              have e1 := slotE (e1 _ rfl)
              clear hV hF hS
              go_simp
              exact hK _ _ ⟨_, rfl, Hdd.out⟩ hC (fun _ _ _ _ _ h => h) (fun _ _ _ h => h)
            · obtain ⟨_, rfl, e0⟩ := hV 3 (by kernel_rfl) (by kernel_rfl)
              obtain ⟨_, ⟨pd, rfl, hpd⟩, e1⟩ := hV 6 (by kernel_rfl) (by kernel_rfl)
              have hS1 := hS 7 (by kernel_rfl) rfl
              have F3 := HF2.out.mono hS1
              refine wp_append_any (.tmp 67) (.tmp 70) 27 rfl 37 i0 _ 5 40 Try.underlying27 hi0 hz0 hz1 hz2 rfl (by decide) p2 _ c2 _ (e0 _ rfl) F3.sl pd _ _ _ (e1 _ rfl) (hpd.kept fun t ht => hS1.block _ (hpd.lt t ht) (fun h => h)) (od_one _) (by unfold maxLen; omega) (by omega) ?_
              intro p4 c4 w4 hs4 hg4 hb4
              have F4 := F3.app hs4 hg4 hb4
              rw [Hys.out, Hyf.out] at F4
              rw [Hys.out]
              have hkb := Kept.of_grownB hg4
              have hR4 : RbAt w4 m R p c := (HRc.out.keptF hS1).kept hkb (by rintro ⟨t', ht', e'⟩; have := HF2.out.nw t' ht'; omega) (fun j hj t'' ht'' => by rintro ⟨t', ht', e'⟩; have := HF2.out.nw t' ht'; have := Holdy.out j hj t'' ht''; omega)
              refine hK _ _ ⟨p4, c4, rfl, F4.sl, hR4, F4.k, F4.nw⟩ (hC.trans (hkb.mono fun _ _ h => .inr h)) (fun j u hj hk hr h => ?_) (fun j hj _ _ h => absurd h hj)
              match j, hj, hr, h with
              | 0, _, _, h => exact h
              | 1, _, _, h => exact h
              | 2, _, _, h => exact h
              | 3, _, _, h => exact h
              | 4, _, _, h => exact h
              | 5, _, _, h => exact h
              | 6, _, _, h => exact h
              | 7, hj, _, _ => exact absurd rfl hj
              | 8, _, hr, _ => exact tf_absurd hr (by kernel_rfl)
              | j + 9, _, _, _ => trivial
            · obtain ⟨_, rfl, e0⟩ := hV 0 (by kernel_rfl) (by kernel_rfl)
              obtain ⟨_, rfl, e2⟩ := hV 2 (by kernel_rfl) (by kernel_rfl)
              obtain ⟨_, ⟨p4, c4, rfl, hs4, hR4, hk4', hnw4⟩, e7⟩ := hV 7 (by kernel_rfl) (by kernel_rfl)
              have e0 := slotE (e0 _ rfl)
              have e2 := slotE (e2 _ rfl)
              have e7 := slotE (e7 _ rfl)
              clear hV hF hS
              have Hs4 := Lib.hid hs4
              have HR4 := Lib.hid hR4
              have Hk4' := Lib.hid hk4'
              have Hnw4 := Lib.hid hnw4
              clear hs4 hR4 hk4' hnw4
              go_simp
              refine (put_any HR4.out _ k hk Hsd.out Hs4.out Hfw.out).mono ?_
              rintro e w5 ⟨rfl, hR5, hk5⟩
              refine hK _ _ ⟨_, _, hR5, (Hk4'.out.mono (fun _ _ h => h.elim)).trans hk5, Newer.upd Hnw4.out⟩ (hC.trans (hk5.mono fun _ _ h => .inl h)) (fun j u hj hk hr h => ?_) (fun j _ hr _ h => tf_absurd hr (by rw [h]; kernel_rfl))
              match j, hj, hk, h with
              | 0, _, _, h => exact h
              | 1, _, _, h => exact h
              | 2, _, _, h => exact h
              | 3, _, _, h => exact h
              | 4, _, _, h => exact h
              | 5, _, _, h => exact h
              | 6, _, _, h => exact h
              | 7, _, hk, _ => exact tf_absurd hk (by kernel_rfl)
              | 8, hj, _, _ => exact absurd rfl hj
              | j + 9, _, _, _ => trivial
          · intro vs wx hl hC hV
            replace hl : vs.length = 9 := hl
            obtain ⟨v0, vs, rfl, hl0⟩ := cons_of hl
            obtain ⟨v1, vs, rfl, hl1⟩ := cons_of hl0
            obtain ⟨v2, vs, rfl, hl2⟩ := cons_of hl1
            obtain ⟨v3, vs, rfl, hl3⟩ := cons_of hl2
            obtain ⟨v4, vs, rfl, hl4⟩ := cons_of hl3
            obtain ⟨v5, vs, rfl, hl5⟩ := cons_of hl4
            obtain ⟨v6, vs, rfl, hl6⟩ := cons_of hl5
            obtain ⟨v7, vs, rfl, hl7⟩ := cons_of hl6
            obtain ⟨v8, vs, rfl, hl8⟩ := cons_of hl7
            obtain rfl := nil_of hl8
            obtain ⟨p', c', hR5, hk5, hnw5⟩ := hV 8 (by decide) (by decide)
            clear hV
            simp only [dstsOf, List.map_cons, List.map_nil, puts, Act.put, List.setIfInBounds_toArray, List.set_cons_succ, List.set_cons_zero, Exit.then]
            go_wp2
            go_ret
            exact ⟨p', c', rfl, hR5, ((hk4.trans Hyw.out).mono (fun _ _ h => h.elim)).trans hk5, hnw5.le (hk4.trans Hyw.out).size⟩
      · rw [hpk] at hsly ⊢
        have Hpk := Lib.hid hpk
        clear hsl hpk
        have hsl3 := hsly
        have hsy : SlAt wy 37 5 (some ⟨t, o, none⟩) 0 (c k) (((R k).take 0).flatMap odC) := by
          rw [← fm_take (s := 5) (fun _ => rfl)]
          exact hsl3.take (by omega)
        go_wp2_with fail
        refine wp_region_kept (by kernel_rfl) (by kernel_rfl) ?_
        repeat (go_big_quiet_step (fail))
        refine wpQuiet_nil ?_
        intro _ hw'
        obtain ⟨y, rfl⟩ := hw'
        replace hyw := hyw.trans y.kept
        replace hRy := hRy.keptF y.kept
        replace hqy := (y.kept.block q (lt_of_block hqy) (fun h => h)).trans hqy
        replace hsly := hsly.kept fun t' ht' => y.kept.block _ (hsly.lt t' ht') (fun h => h)
        replace hsy := hsy.kept fun t' ht' => y.kept.block _ (hsy.lt t' ht') (fun h => h)
        generalize y.w = wy at hyw hRy hqy hsly hsy ⊢
        have hle2 : ((R k).take 0 ++ [d]).length = 0 + 1 := by simp
        have Hlen := Lib.hid hle2
        clear hle2
        have hbd0 : (0 : Int) ≤ ((c k : Nat) : Int) := by omega
        have hqm : q ≠ m := fun e => by rw [e, hRy.st] at hqy; cases hqy
        have holdy : ∀ j, j < 2 → ∀ t, p j = some t → t.block < wy.heap.size := fun j hj t ht => (hRy.sl j hj).lt t ht
        have hqs0 := lt_of_block hqy
        have hms0 := lt_of_block hRy.st
        have hfew := fewR_of hk Hn.out hlen (e := 0 + 1 + (n - 0)) (by omega)
        have Hyw := Lib.hid hyw
        have Hry := Lib.hid hRy
        have Hsly := Lib.hid hsly
        have Holdy := Lib.hid holdy
        have Hfew := Lib.hid hfew
        have Hq := Lib.hid hqy
        clear hyw hRy hsly holdy hfew
        go_upto_region 12 with fail
        go_cut [9] (fun v wx => RowCut wy ((R k).take (0) ++ [d]) v wx)
        case first =>
          have Hq := Lib.hid hqy
          have hqs := lt_of_block hqy
          clear hqy
          refine wp_region_vals (by kernel_rfl) (by kernel_rfl) (by kernel_rfl) (by kernel_rfl) (Kept (fun _ => False) wy) kill12
            (fun j => (([.emp 37, .val (.slice (some ⟨t, o, none⟩) n (c k)), .val (.int .i64 0), .old 37 5 (0) (c k) (((R k).take (0)).flatMap odC), .fr 37 5 (0) (((R k).take (0)).flatMap odC), .val (.agg #[.int .i64 d.id, .int .i64 d.owner, .int .i64 d.side, .int .i64 d.net, .int .i64 d.units]), .box 37 1 (odC d), .fr 37 5 (0 + 1) ((((R k).take (0)).flatMap odC) ++ odC d), .fr 37 5 (0 + 1) ((((R k).take (0)).flatMap odC) ++ odC d)] : List Kd).getD j .any).is wy)
            (fun _ _ => True) ((Kept.refl _ wy).drew) (fun _ => trivial) ?_ ?_
          · refine ⟨?_, ?_, ?_, ?_, ?_, ?_, ?_, ?_, ?_, trivial⟩
            all_goals (intro a w' hC hS hV hF)
            · refine ⟨rfl, fun K hK => ?_⟩
              clear hV hF hS
              go_simp
              exact hK _ _ ⟨_, rfl, block_alloc_new _ _, hC.size⟩ (hC.alloc _) (fun j u hj hk hr h => Kd.mono ((Kept.refl _ _).alloc _) (Kd.rest (kills := kill12) rfl (by kernel_rfl) hj hk hr) h) (fun _ _ _ h => h)
            · refine ⟨rfl, fun K hK => ?_⟩
              have e1 : _ = Value.slice (some ⟨t, o, none⟩) n (c k) := slotE (hF 7 (by kernel_rfl))
              clear hV hF hS
              go_simp
              exact hK _ _ rfl hC (fun _ _ _ _ _ h => h) (fun _ _ _ h => h)
            · refine ⟨rfl, fun K hK => ?_⟩
              have e1 : _ = Value.int .i64 0 := slotE (hF 8 (by kernel_rfl))
              clear hV hF hS
              go_simp
              exact hK _ _ rfl hC (fun _ _ _ _ _ h => h) (fun _ _ _ h => h)
            · refine ⟨rfl, fun K hK => ?_⟩
              obtain ⟨_, rfl, e0⟩ := hV 1 (by kernel_rfl) (by kernel_rfl)
              obtain ⟨_, rfl, e1⟩ := hV 2 (by kernel_rfl) (by kernel_rfl)
              have e0 := slotE (e0 _ rfl)
              have e1 := slotE (e1 _ rfl)
              clear hV hF hS
              have Hsy := Lib.hid hsy
              clear hsy
              go_simp
              exact hK _ _ ⟨_, rfl, Hsy.out⟩ hC (fun _ _ _ _ _ h => h) (fun _ _ _ h => h)
            · refine ⟨rfl, fun K hK => ?_⟩
              obtain ⟨_, ⟨b0, rfl, hb0, hn0⟩, e0⟩ := hV 0 (by kernel_rfl) (by kernel_rfl)
              obtain ⟨_, ⟨p0, rfl, hs0⟩, e1⟩ := hV 3 (by kernel_rfl) (by kernel_rfl)
              refine wp_append_emp (.tmp 56) (.tmp 59) 27 rfl 37 i0 _ 5 40 Try.underlying27 hi0 hz0 hz1 hz2 rfl (by decide) hC b0 (e0 _ rfl) hb0 hn0 _ _ _ _ (e1 _ rfl) (hs0.kept fun t ht => hC.block _ (hs0.lt t ht) (fun h => h)) (od_one _) (by unfold maxLen; omega) (by omega) fun v w2 h1 h2 h3 => hK v w2 h1 h2 (fun j u hj hk hr h => Kd.grow h3 hb0 (Kd.rest (kills := kill12) rfl (by kernel_rfl) hj hk hr) h) (fun _ _ _ h => h)
            · refine ⟨rfl, fun K hK => ?_⟩
              have f0 : _ = Value.pointer (some ⟨q, 0, none⟩) := slotE (hF 3 (by kernel_rfl))
              have hb := (hC.block q hqs (fun h => h)).trans Hq.out
              have q0 : w'.cell? ⟨q, 0, none⟩ = some (.int .i64 d.id) := by rw [cell_of_block hb]; rfl
              have q1 : w'.cell? ⟨q, 1, none⟩ = some (.int .i64 d.owner) := by rw [cell_of_block hb]; rfl
              have q2 : w'.cell? ⟨q, 2, none⟩ = some (.int .i64 d.side) := by rw [cell_of_block hb]; rfl
              have q3 : w'.cell? ⟨q, 3, none⟩ = some (.int .i64 d.net) := by rw [cell_of_block hb]; rfl
              have q4 : w'.cell? ⟨q, 4, none⟩ = some (.int .i64 d.units) := by rw [cell_of_block hb]; rfl
              clear hb
              clear hV hF hS
              go_simp
              exact hK _ _ rfl hC (fun _ _ _ _ _ h => h) (fun _ _ _ h => h)
            · refine ⟨rfl, fun K hK => ?_⟩
              obtain ⟨_, rfl, e1⟩ := hV 5 (by kernel_rfl) (by kernel_rfl)
              have e1 := slotE (e1 _ rfl)
              clear hV hF hS
              go_simp
              exact hK _ _ ⟨_, rfl, block_alloc_new _ _, hC.size⟩ (hC.alloc _) (fun j u hj hk hr h => Kd.mono ((Kept.refl _ _).alloc _) (Kd.rest (kills := kill12) rfl (by kernel_rfl) hj hk hr) h) (fun _ _ _ h => h)
            · refine ⟨rfl, fun K hK => ?_⟩
              obtain ⟨u0, h0, e0⟩ := hV 4 (by kernel_rfl) (by kernel_rfl)
              obtain ⟨_, ⟨b1, rfl, hb1, hn1⟩, e1⟩ := hV 6 (by kernel_rfl) (by kernel_rfl)
              refine wp_append_fr (.tmp 60) (.tmp 62) 27 rfl 37 i0 _ 5 40 Try.underlying27 hi0 hz0 hz1 hz2 rfl (by decide) (0) _ u0 (e0 _ rfl) h0 _ 1 1 _ (e1 _ rfl) (SlAt.of_box hb1 rfl) (odC_one d) (by unfold maxLen; omega) (by omega) fun v w2 h1 h2 => hK v w2 h1 h2 (fun j u hj hk hr h => Kd.stay (Kd.rest (kills := kill12) rfl (by kernel_rfl) hj hk hr) h) (fun _ _ _ h => h)
            · refine ⟨rfl, fun K hK => ?_⟩
              obtain ⟨u0, h0, e0⟩ := hV 7 (by kernel_rfl) (by kernel_rfl)
              have e0 := slotE (e0 _ rfl)
              clear hV hF hS
              go_simp
              exact hK _ _ h0 hC (fun _ _ _ _ _ h => h) (fun _ _ _ h => h)
          · intro vs wx hl hC hV
            replace hl : vs.length = 9 := hl
            obtain ⟨v0, vs, rfl, hl0⟩ := cons_of hl
            obtain ⟨v1, vs, rfl, hl1⟩ := cons_of hl0
            obtain ⟨v2, vs, rfl, hl2⟩ := cons_of hl1
            obtain ⟨v3, vs, rfl, hl3⟩ := cons_of hl2
            obtain ⟨v4, vs, rfl, hl4⟩ := cons_of hl3
            obtain ⟨v5, vs, rfl, hl5⟩ := cons_of hl4
            obtain ⟨v6, vs, rfl, hl6⟩ := cons_of hl5
            obtain ⟨v7, vs, rfl, hl7⟩ := cons_of hl6
            obtain ⟨v8, vs, rfl, hl8⟩ := cons_of hl7
            obtain rfl := nil_of hl8
            obtain ⟨p2, c2, rfl, F2⟩ := hV 8 (by decide) (by decide)
            clear hV
            simp only [dstsOf, List.map_cons, List.map_nil, puts, Act.put, List.setIfInBounds_toArray, List.set_cons_succ, List.set_cons_zero, Exit.then]
            refine ‹∀ (a' : Act) (w' : World), Met _ a' w' → _› _ _ ?_
            go_meet
            exact ⟨p2, c2, by rw [Hlen.out], by rw [List.flatMap_append, Hlen.out]; simpa using F2⟩
        case rest =>
          obtain ⟨p2, c2, rfl, F2⟩ := hcut
          rw [Hlen.out]
          rw [Hlen.out] at F2
          have hRc := Hry.out.keptF F2.k
          have hqc := (F2.k.block q hqs0 (fun h => h)).trans Hq.out
          have hslc : SlAt wc 37 5 (some ⟨t, o, none⟩) n (c k) ((R k).flatMap odC) := Hsly.out.kept fun t' ht' => F2.k.block _ (Hsly.out.lt t' ht') (fun h => h)
          have hdd : SlAt wc 37 5 (some ⟨t, o + (0) * 5, none⟩) (n - (0)) ((c k) - (0)) (((R k).drop (0)).flatMap odC) := by rw [← fm_drop odC_len]; exact hslc.drop (by omega)
          have hda : (c k) = 0 → SlAt wc 37 5 (some ⟨t, o, none⟩) (n - (0)) ((c k) - (0)) (((R k).drop (0)).flatMap odC) := fun h => by have h1 := hslc.drop_all; have h2 := hslc.2.1; rw [show n - (0) = 0 by omega, show (c k) - (0) = 0 by omega, List.drop_of_length_le (by rw [Hn.out]; omega)]; exact h1
          have Hdd := Lib.hid hdd
          have Hda := Lib.hid hda
          clear hdd hda
          have Hslc := Lib.hid hslc
          have HRc := Lib.hid hRc
          have Hqc := Lib.hid hqc
          have hqs1 := lt_of_block hqc
          have hys : 0 + 1 + (n - (0)) = (insAt (R k) (0) d).length := by rw [insAt, List.length_append, List.length_cons, List.length_take, List.length_drop, Hn.out]; omega
          have hyf : ((R k).take (0) ++ [d]).flatMap odC ++ ((R k).drop (0)).flatMap odC = (insAt (R k) (0) d).flatMap odC := by rw [insAt]; simp
          have hyl : (insAt (R k) (0) d).length ≤ 256 := by rw [← hys]; omega
          have hfw : ∀ j, j < 2 → j ≠ k → (R j).length + (insAt (R k) (0) d).length ≤ 256 := by rw [← hys]; exact Hfew.out
          have Hys := Lib.hid hys
          have Hyf := Lib.hid hyf
          have Hfw := Lib.hid hfw
          have HF2 := Lib.hid F2
          clear hys hyf hfw hslc hRc hqc F2
          go_upto_region 13 with fail
          refine wp_region_vals (by kernel_rfl) (by kernel_rfl) (by kernel_rfl) (by kernel_rfl) (Kept (fun b => b = m ∨ OnB p2 b) wc) kill13
            (fun j => ([fun v _ => v = .pointer (some ⟨m, 0, none⟩), fun v _ => v = .pointer (some ⟨q, 2, none⟩), fun v _ => v = .int .i64 d.side, fun v _ => v = .slice p2 (0 + 1) c2, fun v _ => v = .slice (some ⟨t, o, none⟩) n (c k), fun v _ => v = .int .i64 0,
              fun v _ => ∃ pd, v = .slice pd (n - (0)) ((c k) - (0)) ∧ SlAt wc 37 5 pd (n - (0)) ((c k) - (0)) (((R k).drop (0)).flatMap odC), fun v w' => ∃ p4 c4, v = .slice p4 (insAt (R k) (0) d).length c4 ∧ SlAt w' 37 5 p4 (insAt (R k) (0) d).length c4 ((insAt (R k) (0) d).flatMap odC) ∧ RbAt w' m R p c ∧ Kept (fun _ => False) wy w' ∧ ∀ t, p4 = some t → wy.heap.size ≤ t.block,
              fun _ w' => ∃ p' c', RbAt w' m (upd R k (insAt (R k) (0) d)) p' c' ∧ Kept (fun b => b = m) wy w' ∧ Newer p p' wy] : List (Value → World → Prop)).getD j (fun _ _ => True))
            (fun j w' => j = 7 → Kept (fun _ => False) wc w') ((Kept.refl _ wc).drew) (fun _ _ => (Kept.refl _ wc).drew) ?_ ?_
          · refine ⟨?_, ?_, ?_, ?_, ?_, ?_, ?_, ?_, ?_, trivial⟩
            all_goals (intro a w' hC hS hV hF; refine ⟨rfl, fun K hK => ?_⟩)
            · have e1 : _ = Value.pointer (some ⟨m, 0, none⟩) := slotE (hF 0 (by kernel_rfl))
              clear hV hF hS
              go_simp
              exact hK _ _ rfl hC (fun _ _ _ _ _ h => h) (fun _ _ _ h => h)
            · have e1 : _ = Value.pointer (some ⟨q, 0, none⟩) := slotE (hF 3 (by kernel_rfl))
              clear hV hF hS
              go_simp
              exact hK _ _ rfl hC (fun _ _ _ _ _ h => h) (fun _ _ _ h => h)
            · skip
              obtain ⟨_, rfl, e0⟩ := hV 1 (by kernel_rfl) (by kernel_rfl)
              have e0 := slotE (e0 _ rfl)
              have hb := (hC.block q hqs1 (by rintro (h | ⟨t', ht', e'⟩); (exact hqm h); (have := HF2.out.nw t' ht'; omega))).trans Hqc.out
              have q2 : w'.cell? ⟨q, 2, none⟩ = some (.int .i64 d.side) := by rw [cell_of_block hb]; rfl
              clear hb hV hF hS
              go_simp
              exact hK _ _ rfl hC (fun _ _ _ _ _ h => h) (fun _ _ _ h => h)
            · have e1 : _ = Value.slice p2 (0 + 1) c2 := slotE (hF 9 (by kernel_rfl))
              clear hV hF hS
              go_simp
              exact hK _ _ rfl hC (fun _ _ _ _ _ h => h) (fun _ _ _ h => h)
            · have e1 : _ = Value.slice (some ⟨t, o, none⟩) n (c k) := slotE (hF 7 (by kernel_rfl))
              clear hV hF hS
              go_simp
              exact hK _ _ rfl hC (fun _ _ _ _ _ h => h) (fun _ _ _ h => h)
            · have e1 : _ = Value.int .i64 0 := slotE (hF 8 (by kernel_rfl))
              clear hV hF hS
              go_simp
              exact hK _ _ rfl hC (fun _ _ _ _ _ h => h) (fun _ _ _ h => h)
            · skip
              obtain ⟨_, rfl, e0⟩ := hV 4 (by kernel_rfl) (by kernel_rfl)
              have e0 := slotE (e0 _ rfl)
              obtain ⟨_, rfl, e1⟩ := hV 5 (by kernel_rfl) (by kernel_rfl)
              have e1 := slotE (e1 _ rfl)
              clear hV hF hS
              by_cases hcap : c k = 0
              · have b6 : ((c k : Nat) : Int) = 0 := by omega
                have Hcap := Lib.hid hcap
                clear hcap
                go_simp
                first | rw [if_pos Hcap.out] | skip
                exact hK _ _ ⟨_, rfl, Hda.out Hcap.out⟩ hC (fun _ _ _ _ _ h => h) (fun _ _ _ h => h)
              · have b6 : ¬ ((c k : Nat) : Int) = 0 := by omega
                go_simp
                exact hK _ _ ⟨_, rfl, Hdd.out⟩ hC (fun _ _ _ _ _ h => h) (fun _ _ _ h => h)
            · obtain ⟨_, rfl, e0⟩ := hV 3 (by kernel_rfl) (by kernel_rfl)
              obtain ⟨_, ⟨pd, rfl, hpd⟩, e1⟩ := hV 6 (by kernel_rfl) (by kernel_rfl)
              have hS1 := hS 7 (by kernel_rfl) rfl
              have F3 := HF2.out.mono hS1
              refine wp_append_any (.tmp 67) (.tmp 70) 27 rfl 37 i0 _ 5 40 Try.underlying27 hi0 hz0 hz1 hz2 rfl (by decide) p2 _ c2 _ (e0 _ rfl) F3.sl pd _ _ _ (e1 _ rfl) (hpd.kept fun t ht => hS1.block _ (hpd.lt t ht) (fun h => h)) (od_one _) (by unfold maxLen; omega) (by omega) ?_
              intro p4 c4 w4 hs4 hg4 hb4
              have F4 := F3.app hs4 hg4 hb4
              rw [Hys.out, Hyf.out] at F4
              rw [Hys.out]
              have hkb := Kept.of_grownB hg4
              have hR4 : RbAt w4 m R p c := (HRc.out.keptF hS1).kept hkb (by rintro ⟨t', ht', e'⟩; have := HF2.out.nw t' ht'; omega) (fun j hj t'' ht'' => by rintro ⟨t', ht', e'⟩; have := HF2.out.nw t' ht'; have := Holdy.out j hj t'' ht''; omega)
              refine hK _ _ ⟨p4, c4, rfl, F4.sl, hR4, F4.k, F4.nw⟩ (hC.trans (hkb.mono fun _ _ h => .inr h)) (fun j u hj hk hr h => ?_) (fun j hj _ _ h => absurd h hj)
              match j, hj, hr, h with
              | 0, _, _, h => exact h
              | 1, _, _, h => exact h
              | 2, _, _, h => exact h
              | 3, _, _, h => exact h
              | 4, _, _, h => exact h
              | 5, _, _, h => exact h
              | 6, _, _, h => exact h
              | 7, hj, _, _ => exact absurd rfl hj
              | 8, _, hr, _ => exact tf_absurd hr (by kernel_rfl)
              | j + 9, _, _, _ => trivial
            · obtain ⟨_, rfl, e0⟩ := hV 0 (by kernel_rfl) (by kernel_rfl)
              obtain ⟨_, rfl, e2⟩ := hV 2 (by kernel_rfl) (by kernel_rfl)
              obtain ⟨_, ⟨p4, c4, rfl, hs4, hR4, hk4', hnw4⟩, e7⟩ := hV 7 (by kernel_rfl) (by kernel_rfl)
              have e0 := slotE (e0 _ rfl)
              have e2 := slotE (e2 _ rfl)
              have e7 := slotE (e7 _ rfl)
              clear hV hF hS
              have Hs4 := Lib.hid hs4
              have HR4 := Lib.hid hR4
              have Hk4' := Lib.hid hk4'
              have Hnw4 := Lib.hid hnw4
              clear hs4 hR4 hk4' hnw4
              go_simp
              refine (put_any HR4.out _ k hk Hsd.out Hs4.out Hfw.out).mono ?_
              rintro e w5 ⟨rfl, hR5, hk5⟩
              refine hK _ _ ⟨_, _, hR5, (Hk4'.out.mono (fun _ _ h => h.elim)).trans hk5, Newer.upd Hnw4.out⟩ (hC.trans (hk5.mono fun _ _ h => .inl h)) (fun j u hj hk hr h => ?_) (fun j _ hr _ h => tf_absurd hr (by rw [h]; kernel_rfl))
              match j, hj, hk, h with
              | 0, _, _, h => exact h
              | 1, _, _, h => exact h
              | 2, _, _, h => exact h
              | 3, _, _, h => exact h
              | 4, _, _, h => exact h
              | 5, _, _, h => exact h
              | 6, _, _, h => exact h
              | 7, _, hk, _ => exact tf_absurd hk (by kernel_rfl)
              | 8, hj, _, _ => exact absurd rfl hj
              | j + 9, _, _, _ => trivial
          · intro vs wx hl hC hV
            replace hl : vs.length = 9 := hl
            obtain ⟨v0, vs, rfl, hl0⟩ := cons_of hl
            obtain ⟨v1, vs, rfl, hl1⟩ := cons_of hl0
            obtain ⟨v2, vs, rfl, hl2⟩ := cons_of hl1
            obtain ⟨v3, vs, rfl, hl3⟩ := cons_of hl2
            obtain ⟨v4, vs, rfl, hl4⟩ := cons_of hl3
            obtain ⟨v5, vs, rfl, hl5⟩ := cons_of hl4
            obtain ⟨v6, vs, rfl, hl6⟩ := cons_of hl5
            obtain ⟨v7, vs, rfl, hl7⟩ := cons_of hl6
            obtain ⟨v8, vs, rfl, hl8⟩ := cons_of hl7
            obtain rfl := nil_of hl8
            obtain ⟨p', c', hR5, hk5, hnw5⟩ := hV 8 (by decide) (by decide)
            clear hV
            simp only [dstsOf, List.map_cons, List.map_nil, puts, Act.put, List.setIfInBounds_toArray, List.set_cons_succ, List.set_cons_zero, Exit.then]
            go_wp2
            go_ret
            exact ⟨p', c', rfl, hR5, ((hk4.trans Hyw.out).mono (fun _ _ h => h.elim)).trans hk5, hnw5.le (hk4.trans Hyw.out).size⟩
end Go.Proofs.Ytopfgcnehdjjpaa
