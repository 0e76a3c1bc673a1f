/- The walk of 'ComplexPlays'. -/
import Derived.Test.YtopfgcnehdjjpaaDi
import Derived.Deep.CutBlock
namespace Go.Proofs.Ytopfgcnehdjjpaa
open Go.RowKit

structure Ac where
  op : Int
  o : Od
  id : Int
  n : Int
def boxA (x : Ac) : Obj := .cells #[.int .i64 x.op, .int .i64 x.o.id, .int .i64 x.o.owner, .int .i64 x.o.side, .int .i64 x.o.net, .int .i64 x.o.units, .int .i64 x.id, .int .i64 x.n] 33 (0, 0)
def acC (x : Ac) : List Value := [.int .i64 x.op, .int .i64 x.o.id, .int .i64 x.o.owner, .int .i64 x.o.side, .int .i64 x.o.net, .int .i64 x.o.units, .int .i64 x.id, .int .i64 x.n]
def ActsAt (w : World) (a0 : Option Addr) (b off len : Nat) (g : Nat → Ac) : Prop :=
  (0 < len → a0 = some ⟨b, off, none⟩ ∧ b < w.heap.size) ∧ ∀ i, i < len → ∀ j, j < 8 → w.cell? ⟨b, off + i * 8 + j, none⟩ = (acC (g i))[j]?
def PlRel (w : World) (bk m len : Nat) (iv : Value) (wr : World) : Prop := ∃ (k : Nat) (R : Nat → List Od), k ≤ len ∧ iv = .int .i64 k ∧ GI R ∧ SB w bk R wr ∧ SR w m R wr ∧ Kept (fun _ => False) w wr
def PlMid (w : World) (bk m : Nat) (wr : World) : Prop := ∃ (R : Nat → List Od), GI R ∧ SB w bk R wr ∧ SR w m R wr ∧ Kept (fun _ => False) w wr
theorem gi_nil : GI (fun _ => []) := ⟨⟨Srt.nil _, Srt.nil _⟩, (fun k _ x hx => by cases hx), by simp⟩
def PlSide (w : World) (bk m : Nat) (R : Nat → List Od) (sv : Value) (wr : World) : Prop := ∃ s : Nat, s ≤ 2 ∧ sv = .int .i64 ((s : Int) + 1) ∧ SB w bk R wr ∧ SR w m R wr ∧ Kept (fun _ => False) w wr
def killPl (_ _ : Nat) : Bool := false

set_option maxHeartbeats 20000000 in
set_option maxRecDepth 100000 in
theorem plays_any (a0 : Option Addr) (b off len cap : Nat) (g : Nat → Ac) (id : Int) (w : World) (ha : ActsAt w a0 b off len g) (hlen : len ≤ 100) :
    Calls Try.prog 3 #[.slice a0 len cap, .int .i64 id] w (FinPost w) := by
  have Ha := Lib.hid ha
  clear ha
  go_enter Try.func3, Try.ntmps3
  go_wp2_with fail
  refine (known_any w).mono ?_
  rintro e w1 ⟨rfl, k1⟩
  go_wp2_with fail
  refine (new_any w1).mono ?_
  rintro e w2 ⟨bk, O, rfl, h2, k2, lo⟩
  have hk2 := k1.trans k2
  have hbk : w.heap.size ≤ bk := by
    rcases Nat.lt_or_ge bk w.heap.size with h | h
    · have h1 := lo bk (Nat.lt_of_lt_of_le h k1.size)
      rw [h2.oa] at h1; cases h1
    · exact h
  have hsb : SB w bk (fun _ => []) w2 := ⟨hbk, _, _, O, h2, fun i hi => lo i (Nat.lt_of_lt_of_le hi k1.size)⟩
  clear h2 lo k1 k2 hbk
  go_upto_region 7 with fail
  have hr3 : SR w w2.heap.size (fun _ => []) (w2.alloc (.cells #[.slice none 0 0, .slice none 0 0] 29)) :=
    ⟨hk2.size, fun _ => none, fun _ => 0, ⟨block_alloc_new _ _, fun k _ => SlAt.nil _ _ _, by simp⟩, fun j _ t ht => by cases ht⟩
  have hb3 := hsb.keptF ((Kept.refl _ w2).alloc (.cells #[.slice none 0 0, .slice none 0 0] 29))
  have hk3 := hk2.alloc (.cells #[.slice none 0 0, .slice none 0 0] 29)
  generalize w2.heap.size = m at hr3 ⊢
  generalize w2.alloc (.cells #[.slice none 0 0, .slice none 0 0] 29) = w3 at hr3 hb3 hk3 ⊢
  have hst : PlRel w bk m len (.int .i64 0) w3 := ⟨0, _, Nat.zero_le _, rfl, gi_nil, hb3, hr3, hk3⟩
  clear hsb hk2 hr3 hb3 hk3
  go_wp2_with fail
  go_loopw [7] (fun iv wr => PlRel w bk m len iv wr) (fun iv _ => len - (intOf iv).toNat)
  case atStart => exact hst
  case round =>
    obtain ⟨k, R, hk, rfl, hG, hB, hR, hK⟩ := hrel
    clear hst
    by_cases hlt : k < len
    · obtain ⟨rfl, hb⟩ := Ha.out.1 (by omega)
      have hbw := hK.block b hb (fun h => h)
      have hx : ∀ j, j < 8 → wr.cell? ⟨b, off + k * 8 + j, none⟩ = (acC (g k))[j]? := fun j hj => by rw [World.cell?_of_block (a := ⟨b, off + k * 8 + j, none⟩) (w := w) hbw]; exact Ha.out.2 k hlt j hj
      have x0 : wr.cell? ⟨b, off + k * 8, none⟩ = some (.int .i64 (g k).op) := hx 0 (by decide)
      have x1 : wr.cell? ⟨b, off + k * 8 + 1, none⟩ = some (.int .i64 (g k).o.id) := hx 1 (by decide)
      have x2 : wr.cell? ⟨b, off + k * 8 + 2, none⟩ = some (.int .i64 (g k).o.owner) := hx 2 (by decide)
      have x3 : wr.cell? ⟨b, off + k * 8 + 3, none⟩ = some (.int .i64 (g k).o.side) := hx 3 (by decide)
      have x4 : wr.cell? ⟨b, off + k * 8 + 4, none⟩ = some (.int .i64 (g k).o.net) := hx 4 (by decide)
      have x5 : wr.cell? ⟨b, off + k * 8 + 5, none⟩ = some (.int .i64 (g k).o.units) := hx 5 (by decide)
      have x6 : wr.cell? ⟨b, off + k * 8 + 6, none⟩ = some (.int .i64 (g k).id) := hx 6 (by decide)
      have x7 : wr.cell? ⟨b, off + k * 8 + 7, none⟩ = some (.int .i64 (g k).n) := hx 7 (by decide)
      generalize g k = x at x0 x1 x2 x3 x4 x5 x6 x7
      clear hx hbw
      have hB1 := hB.keptF ((Kept.refl _ wr).alloc (.cells (acC x).toArray 33))
      have hR1 := hR.keptF ((Kept.refl _ wr).alloc (.cells (acC x).toArray 33))
      have hK1 := hK.alloc (.cells (acC x).toArray 33)
      have hx1 : (wr.alloc (.cells (acC x).toArray 33)).heap[wr.heap.size]? = some (boxA x) := block_alloc_new _ _
      have hxm : wr.heap.size ≠ m := by
        obtain ⟨_, p, c, h1, _⟩ := hR
        have := lt_of_block h1.st; omega
      clear hB hR hK
      go_upto_region 11 with fail
      clear x0 x1 x2 x3 x4 x5 x6 x7
      generalize wr.heap.size = xb at hx1 hxm ⊢
      change Code.wp _ _ _ _ (wr.alloc (.cells (acC x).toArray 33))
      generalize wr.alloc (.cells (acC x).toArray 33) = wx at hB1 hR1 hK1 hx1 ⊢
      have y0 : wx.cell? ⟨xb, 0, none⟩ = some (.int .i64 x.op) := by rw [cell_of_block hx1]; rfl
      have y1 : wx.cell? ⟨xb, 1, none⟩ = some (.int .i64 x.o.id) := by rw [cell_of_block hx1]; rfl
      have y2 : wx.cell? ⟨xb, 2, none⟩ = some (.int .i64 x.o.owner) := by rw [cell_of_block hx1]; rfl
      have y3 : wx.cell? ⟨xb, 3, none⟩ = some (.int .i64 x.o.side) := by rw [cell_of_block hx1]; rfl
      have y4 : wx.cell? ⟨xb, 4, none⟩ = some (.int .i64 x.o.net) := by rw [cell_of_block hx1]; rfl
      have y5 : wx.cell? ⟨xb, 5, none⟩ = some (.int .i64 x.o.units) := by rw [cell_of_block hx1]; rfl
      have y6 : wx.cell? ⟨xb, 6, none⟩ = some (.int .i64 x.id) := by rw [cell_of_block hx1]; rfl
      have y7 : wx.cell? ⟨xb, 7, none⟩ = some (.int .i64 x.n) := by rw [cell_of_block hx1]; rfl
      go_upto_block 2 with fail
      go_cut [] (fun wx => PlMid w bk m wx)
      case first =>
        as_aux_lemma =>
          by_cases h1 : x.op = 1
          · have hb1 : (x.op == 1) = true := by simpa using h1
            obtain ⟨v, R', hG', hP, hQ⟩ := insert_both hG x.o
            have HP := Lib.hid hP
            have HQ := Lib.hid hQ
            have HB := Lib.hid hB1
            have HR := Lib.hid hR1
            have hmw : w.heap.size ≤ m := hR1.1
            clear h1 hP hQ hB1 hR1
            go_upto_region 13 with fail
            refine wp_region_vals (by kernel_rfl) (by kernel_rfl) (by kernel_rfl) (by kernel_rfl) (fun w' => Kept (fun _ => False) w w' ∧ w'.heap[xb]? = some (boxA x)) killPl
              (fun j => ([fun v _ => v = .pointer (some ⟨bk, 0, none⟩), fun v _ => v = .pointer (some ⟨xb, 1, none⟩), fun v _ => v = .agg #[.int .i64 x.o.id, .int .i64 x.o.owner, .int .i64 x.o.side, .int .i64 x.o.net, .int .i64 x.o.units], fun v' w' => v' = .int .i64 v ∧ SB w bk R' w', fun v _ => v = .pointer (some ⟨m, 0, none⟩), fun v _ => v = .pointer (some ⟨xb, 1, none⟩), fun v _ => v = .agg #[.int .i64 x.o.id, .int .i64 x.o.owner, .int .i64 x.o.side, .int .i64 x.o.net, .int .i64 x.o.units], fun v _ => v = .agg #[.int .i64 x.o.id, .int .i64 x.o.owner, .int .i64 x.o.side, .int .i64 x.o.net, .int .i64 x.o.units], fun v' w' => v' = .int .i64 v ∧ SR w m R' w', fun v' _ => v' = .bool false] : List (Value → World → Prop)).getD j (fun _ _ => True))
              (fun j w' => (j = 3 → SB w bk R w') ∧ (j = 8 → SR w m R w')) ⟨hK1.drew, hx1⟩ (fun j => ⟨fun _ => HB.out.keptF (Kept.refl _ _).drew, fun _ => HR.out.keptF (Kept.refl _ _).drew⟩) ?_ ?_
            · clear y0 y1 y2 y3 y4 y5 y6 y7
              refine ⟨?_, ?_, ?_, ?_, ?_, ?_, ?_, ?_, ?_, ?_, trivial⟩
              all_goals (intro a w' hC hS hV hF; refine ⟨rfl, fun K hK => ?_⟩)
              · have e1 : _ = Value.pointer (some ⟨bk, 0, none⟩) := slotE (hF 5 (by kernel_rfl))
                clear hV hF hS
                go_simp
                exact hK _ _ rfl hC (fun _ _ _ _ _ h => h) (fun _ _ _ h => h)
              · have e1 : _ = Value.pointer (some ⟨xb, 0, none⟩) := slotE (hF 8 (by kernel_rfl))
                clear hV hF hS
                go_simp
                exact hK _ _ rfl hC (fun _ _ _ _ _ h => h) (fun _ _ _ h => h)
              · obtain ⟨_, rfl, e0⟩ := hV 1 (by kernel_rfl) (by kernel_rfl)
                have e0 := slotE (e0 _ rfl)
                have hbx := hC.2
                have q0 : w'.cell? ⟨xb, 1, none⟩ = some (.int .i64 x.o.id) := by rw [cell_of_block hbx]; rfl
                have q1 : w'.cell? ⟨xb, 2, none⟩ = some (.int .i64 x.o.owner) := by rw [cell_of_block hbx]; rfl
                have q2 : w'.cell? ⟨xb, 3, none⟩ = some (.int .i64 x.o.side) := by rw [cell_of_block hbx]; rfl
                have q3 : w'.cell? ⟨xb, 4, none⟩ = some (.int .i64 x.o.net) := by rw [cell_of_block hbx]; rfl
                have q4 : w'.cell? ⟨xb, 5, none⟩ = some (.int .i64 x.o.units) := by rw [cell_of_block hbx]; rfl
                clear hV hF hS hbx
                go_simp
                exact hK _ _ rfl hC (fun _ _ _ _ _ h => h) (fun _ _ _ h => h)
              · obtain ⟨_, rfl, e0⟩ := hV 0 (by kernel_rfl) (by kernel_rfl)
                have e0 := slotE (e0 _ rfl)
                obtain ⟨_, rfl, e1⟩ := hV 2 (by kernel_rfl) (by kernel_rfl)
                have e1 := slotE (e1 _ rfl)
                have hs3 := (hS 3 (by kernel_rfl)).1 rfl
                clear hV hF hS
                go_simp
                refine (HP.out.call hs3).mono ?_
                rintro e w5 ⟨rfl, hb5, hr5, hk5, hx5⟩
                refine hK _ _ ⟨rfl, hb5⟩ ⟨hC.1.trans' (G := fun b => w.heap.size ≤ b) hk5 (fun i hi hg => by omega), hx5 _ _ hC.2⟩ (fun j u hj _ _ h => ?_) (fun j hj _ h => ⟨fun e => absurd e hj, fun e => hr5 m R (h.2 e)⟩)
                match j, hj, h with
                | 0, _, h => exact h
                | 1, _, h => exact h
                | 2, _, h => exact h
                | 3, hj, _ => exact absurd rfl hj
                | 4, _, h => exact h
                | 5, _, h => exact h
                | 6, _, h => exact h
                | 7, _, h => exact h
                | 8, _, h => exact ⟨h.1, hr5 m R' h.2⟩
                | 9, _, h => exact h
                | j + 10, _, _ => trivial
              · have e1 : _ = Value.pointer (some ⟨m, 0, none⟩) := slotE (hF 6 (by kernel_rfl))
                clear hV hF hS
                go_simp
                exact hK _ _ rfl hC (fun _ _ _ _ _ h => h) (fun _ _ _ h => h)
              · have e1 : _ = Value.pointer (some ⟨xb, 0, none⟩) := slotE (hF 8 (by kernel_rfl))
                clear hV hF hS
                go_simp
                exact hK _ _ rfl hC (fun _ _ _ _ _ h => h) (fun _ _ _ h => h)
              · obtain ⟨_, rfl, e0⟩ := hV 5 (by kernel_rfl) (by kernel_rfl)
                have e0 := slotE (e0 _ rfl)
                have hbx := hC.2
                have q0 : w'.cell? ⟨xb, 1, none⟩ = some (.int .i64 x.o.id) := by rw [cell_of_block hbx]; rfl
                have q1 : w'.cell? ⟨xb, 2, none⟩ = some (.int .i64 x.o.owner) := by rw [cell_of_block hbx]; rfl
                have q2 : w'.cell? ⟨xb, 3, none⟩ = some (.int .i64 x.o.side) := by rw [cell_of_block hbx]; rfl
                have q3 : w'.cell? ⟨xb, 4, none⟩ = some (.int .i64 x.o.net) := by rw [cell_of_block hbx]; rfl
                have q4 : w'.cell? ⟨xb, 5, none⟩ = some (.int .i64 x.o.units) := by rw [cell_of_block hbx]; rfl
                clear hV hF hS hbx
                go_simp
                exact hK _ _ rfl hC (fun _ _ _ _ _ h => h) (fun _ _ _ h => h)
              · obtain ⟨_, rfl, e0⟩ := hV 6 (by kernel_rfl) (by kernel_rfl)
                have e0 := slotE (e0 _ rfl)
                clear hV hF hS
                go_simp
                refine (of_any x.o w').mono ?_
                rintro e w5 ⟨rfl, hk5⟩
                refine hK _ _ rfl ⟨hC.1.trans hk5, (hk5.block xb (lt_of_block hC.2) (fun h => h)).trans hC.2⟩ (fun j u hj _ _ h => ?_) (fun j hj _ h => ⟨fun e => (h.1 e).keptF hk5, fun e => (h.2 e).keptF hk5⟩)
                match j, hj, h with
                | 0, _, h => exact h
                | 1, _, h => exact h
                | 2, _, h => exact h
                | 3, _, h => exact ⟨h.1, h.2.keptF hk5⟩
                | 4, _, h => exact h
                | 5, _, h => exact h
                | 6, _, h => exact h
                | 7, hj, _ => exact absurd rfl hj
                | 8, _, h => exact ⟨h.1, h.2.keptF hk5⟩
                | 9, _, h => exact h
                | j + 10, _, _ => trivial
              · obtain ⟨_, rfl, e0⟩ := hV 4 (by kernel_rfl) (by kernel_rfl)
                have e0 := slotE (e0 _ rfl)
                obtain ⟨_, rfl, e1⟩ := hV 7 (by kernel_rfl) (by kernel_rfl)
                have e1 := slotE (e1 _ rfl)
                have hs8 := (hS 8 (by kernel_rfl)).2 rfl
                clear hV hF hS
                go_simp
                refine (HQ.out.call hs8).mono ?_
                rintro e w5 ⟨rfl, hr5, hb5, hk5⟩
                refine hK _ _ ⟨rfl, hr5⟩ ⟨hC.1.trans' (G := fun b => b = m) hk5 (fun i hi hg => by omega), (hk5.block xb (lt_of_block hC.2) hxm).trans hC.2⟩ (fun j u hj _ _ h => ?_) (fun j hj _ h => ⟨fun e => hb5 bk R (h.1 e), fun e => absurd e hj⟩)
                match j, hj, h with
                | 0, _, h => exact h
                | 1, _, h => exact h
                | 2, _, h => exact h
                | 3, _, h => exact ⟨h.1, hb5 bk R' h.2⟩
                | 4, _, h => exact h
                | 5, _, h => exact h
                | 6, _, h => exact h
                | 7, _, h => exact h
                | 8, hj, _ => exact absurd rfl hj
                | 9, _, h => exact h
                | j + 10, _, _ => trivial
              · obtain ⟨_, ⟨rfl, _⟩, e0⟩ := hV 3 (by kernel_rfl) (by kernel_rfl)
                have e0 := slotE (e0 _ rfl)
                obtain ⟨_, ⟨rfl, _⟩, e1⟩ := hV 8 (by kernel_rfl) (by kernel_rfl)
                have e1 := slotE (e1 _ rfl)
                clear hV hF hS
                go_simp
                exact hK _ _ rfl hC (fun _ _ _ _ _ h => h) (fun _ _ _ h => h)
            · intro vs wz hl hC hV
              replace hl : vs.length = 10 := hl
              obtain ⟨v0, vs, rfl, hl0⟩ := cons_of hl
              obtain ⟨v1, vs, rfl, hl1⟩ := cons_of hl0
              obtain ⟨v2, vs, rfl, hl2⟩ := cons_of hl1
              obtain ⟨v3, vs, rfl, hl3⟩ := cons_of hl2
              obtain ⟨v4, vs, rfl, hl4⟩ := cons_of hl3
              obtain ⟨v5, vs, rfl, hl5⟩ := cons_of hl4
              obtain ⟨v6, vs, rfl, hl6⟩ := cons_of hl5
              obtain ⟨v7, vs, rfl, hl7⟩ := cons_of hl6
              obtain ⟨v8, vs, rfl, hl8⟩ := cons_of hl7
              obtain ⟨v9, vs, rfl, hl9⟩ := cons_of hl8
              obtain rfl := nil_of hl9
              have hb9 := (hV 3 (by decide) (by decide)).2
              have hr9 := (hV 8 (by decide) (by decide)).2
              obtain rfl := hV 9 (by decide) (by decide)
              clear hV y0 y1 y2 y3 y4 y5 y6 y7
              have HG' := Lib.hid hG'
              simp only [dstsOf, List.map_cons, List.map_nil, puts, Act.put, List.setIfInBounds_toArray, List.set_cons_succ, List.set_cons_zero, Exit.then]
              go_wp2_with fail
              go_meet
              exact ⟨R', HG'.out, hb9, hr9, hC.1⟩
          by_cases h2 : x.op = 2
          · have hb1 : (x.op == 1) = false := by simpa using h1
            have hb2 : (x.op == 2) = true := by simpa using h2
            clear h1 h2
            obtain ⟨d, v, R', hG', hP, hQ⟩ := remove_both hG x.id
            have HP := Lib.hid hP
            have HQ := Lib.hid hQ
            have HG' := Lib.hid hG'
            have hmw : w.heap.size ≤ m := hR1.1
            clear hP hQ hG'
            go_wp2_with fail
            refine (HP.out.call hB1).mono ?_
            rintro e w5 ⟨rfl, hb5, hr5, hk5, hx5⟩
            have hK5 := hK1.trans' (G := fun b => w.heap.size ≤ b) hk5 (fun i hi hg => by omega)
            have hR5 := hr5 m R hR1
            have hX5 := hx5 _ _ hx1
            clear hB1 hR1 hK1 hx1 hk5 hr5 hx5 y0 y1 y2 y3 y4 y5 y6 y7
            dsimp only [aggO]
            go_upto_region 17 with fail
            have hb6 := hb5.keptF ((Kept.refl _ w5).alloc (.cells #[.int .i64 d.id, .int .i64 d.owner, .int .i64 d.side, .int .i64 d.net, .int .i64 d.units] 31))
            have hR6 := hR5.keptF ((Kept.refl _ w5).alloc (.cells #[.int .i64 d.id, .int .i64 d.owner, .int .i64 d.side, .int .i64 d.net, .int .i64 d.units] 31))
            have hK6 := hK5.alloc (.cells #[.int .i64 d.id, .int .i64 d.owner, .int .i64 d.side, .int .i64 d.net, .int .i64 d.units] 31)
            have hX6 : (w5.alloc (.cells #[.int .i64 d.id, .int .i64 d.owner, .int .i64 d.side, .int .i64 d.net, .int .i64 d.units] 31)).heap[xb]? = some (boxA x) := block_alloc hX5
            have hN6 : (w5.alloc (.cells #[.int .i64 d.id, .int .i64 d.owner, .int .i64 d.side, .int .i64 d.net, .int .i64 d.units] 31)).heap[w5.heap.size]? = some (.cells #[.int .i64 d.id, .int .i64 d.owner, .int .i64 d.side, .int .i64 d.net, .int .i64 d.units] 31 (0, 0)) := block_alloc_new _ _
            have hnm : w5.heap.size ≠ m := by
              obtain ⟨_, p, c, h1, _⟩ := hR5
              have := lt_of_block h1.st; omega
            clear hb5 hR5 hK5 hX5
            generalize w5.heap.size = nb at hN6 hnm ⊢
            generalize w5.alloc (.cells #[.int .i64 d.id, .int .i64 d.owner, .int .i64 d.side, .int .i64 d.net, .int .i64 d.units] 31) = w6 at hb6 hR6 hK6 hX6 hN6 ⊢
            have y6 : w6.cell? ⟨xb, 6, none⟩ = some (.int .i64 x.id) := by rw [cell_of_block hX6]; rfl
            have y7 : w6.cell? ⟨xb, 7, none⟩ = some (.int .i64 x.n) := by rw [cell_of_block hX6]; rfl
            go_wp2_with fail
            refine (HQ.out.call hR6).mono ?_
            rintro e w7 ⟨rfl, hR7, hb7, hk7⟩
            have hB7 := hb7 bk R' hb6
            have hK7 := hK6.trans' (G := fun b => b = m) hk7 (fun i hi hg => by omega)
            have hN7 := (hk7.block nb (lt_of_block hN6) hnm).trans hN6
            clear hb6 hR6 hK6 hX6 hN6 hb7 hk7 y6 y7
            dsimp only [aggO]
            go_upto_region 18 with fail
            have hb8 := hB7.keptF ((Kept.refl _ w7).alloc (.cells #[.int .i64 d.id, .int .i64 d.owner, .int .i64 d.side, .int .i64 d.net, .int .i64 d.units] 37))
            have hR8 := hR7.keptF ((Kept.refl _ w7).alloc (.cells #[.int .i64 d.id, .int .i64 d.owner, .int .i64 d.side, .int .i64 d.net, .int .i64 d.units] 37))
            have hK8 := hK7.alloc (.cells #[.int .i64 d.id, .int .i64 d.owner, .int .i64 d.side, .int .i64 d.net, .int .i64 d.units] 37)
            have hN8 : (w7.alloc (.cells #[.int .i64 d.id, .int .i64 d.owner, .int .i64 d.side, .int .i64 d.net, .int .i64 d.units] 37)).heap[nb]? = some (.cells #[.int .i64 d.id, .int .i64 d.owner, .int .i64 d.side, .int .i64 d.net, .int .i64 d.units] 31 (0, 0)) := block_alloc hN7
            have hM8 : (w7.alloc (.cells #[.int .i64 d.id, .int .i64 d.owner, .int .i64 d.side, .int .i64 d.net, .int .i64 d.units] 37)).heap[w7.heap.size]? = some (.cells #[.int .i64 d.id, .int .i64 d.owner, .int .i64 d.side, .int .i64 d.net, .int .i64 d.units] 37 (0, 0)) := block_alloc_new _ _
            clear hB7 hR7 hK7 hN7
            generalize w7.heap.size = mb at hM8 ⊢
            generalize w7.alloc (.cells #[.int .i64 d.id, .int .i64 d.owner, .int .i64 d.side, .int .i64 d.net, .int .i64 d.units] 37) = w8 at hb8 hR8 hK8 hN8 hM8 ⊢
            have c0 := fun y : KW w8 => KW.cell (show w8.cell? ⟨nb, 0, none⟩ = some (.int .i64 d.id) by rw [cell_of_block hN8]; rfl) y
            have c1 := fun y : KW w8 => KW.cell (show w8.cell? ⟨nb, 1, none⟩ = some (.int .i64 d.owner) by rw [cell_of_block hN8]; rfl) y
            have c2 := fun y : KW w8 => KW.cell (show w8.cell? ⟨nb, 2, none⟩ = some (.int .i64 d.side) by rw [cell_of_block hN8]; rfl) y
            have c3 := fun y : KW w8 => KW.cell (show w8.cell? ⟨nb, 3, none⟩ = some (.int .i64 d.net) by rw [cell_of_block hN8]; rfl) y
            have c4 := fun y : KW w8 => KW.cell (show w8.cell? ⟨nb, 4, none⟩ = some (.int .i64 d.units) by rw [cell_of_block hN8]; rfl) y
            have f0 := fun y : KW w8 => KW.cell (show w8.cell? ⟨mb, 0, none⟩ = some (.int .i64 d.id) by rw [cell_of_block hM8]; rfl) y
            have f1 := fun y : KW w8 => KW.cell (show w8.cell? ⟨mb, 1, none⟩ = some (.int .i64 d.owner) by rw [cell_of_block hM8]; rfl) y
            have f2 := fun y : KW w8 => KW.cell (show w8.cell? ⟨mb, 2, none⟩ = some (.int .i64 d.side) by rw [cell_of_block hM8]; rfl) y
            have f3 := fun y : KW w8 => KW.cell (show w8.cell? ⟨mb, 3, none⟩ = some (.int .i64 d.net) by rw [cell_of_block hM8]; rfl) y
            have f4 := fun y : KW w8 => KW.cell (show w8.cell? ⟨mb, 4, none⟩ = some (.int .i64 d.units) by rw [cell_of_block hM8]; rfl) y
            clear hN8 hM8
            refine wp_region_kept (by kernel_rfl) (by kernel_rfl) ?_
            repeat (go_big_quiet_step (first | with_reducible exact of_kw d _))
            refine wpQuiet_nil ?_
            intro _ hw'
            obtain ⟨y, rfl⟩ := hw'
            have hb9 := hb8.keptF y.kept
            have hR9 := hR8.keptF y.kept
            have hK9 := hK8.trans y.kept
            generalize y.w = wy at hb9 hR9 hK9 ⊢
            clear c0 c1 c2 c3 c4 f0 f1 f2 f3 f4
            go_wp2_with fail
            go_meet
            exact ⟨R', HG'.out, hb9, hR9, hK9⟩
          by_cases h3 : x.op = 3
          · have hb1 : (x.op == 1) = false := by simpa using h1
            have hb2 : (x.op == 2) = false := by simpa using h2
            have hb3 : (x.op == 3) = true := by simpa using h3
            clear h1 h2 h3
            obtain ⟨d, v, R', hG', hP, hQ⟩ := reduce_both hG x.id x.n
            have HP := Lib.hid hP
            have HQ := Lib.hid hQ
            have HG' := Lib.hid hG'
            have hmw : w.heap.size ≤ m := hR1.1
            clear hP hQ hG'
            go_wp2_with fail
            refine (HP.out.call hB1).mono ?_
            rintro e w5 ⟨rfl, hb5, hr5, hk5, hx5⟩
            have hK5 := hK1.trans' (G := fun b => w.heap.size ≤ b) hk5 (fun i hi hg => by omega)
            have hR5 := hr5 m R hR1
            have hX5 := hx5 _ _ hx1
            clear hB1 hR1 hK1 hx1 hk5 hr5 hx5 y0 y1 y2 y3 y4 y5 y6 y7
            dsimp only [aggO]
            go_upto_region 22 with fail
            have hb6 := hb5.keptF ((Kept.refl _ w5).alloc (.cells #[.int .i64 d.id, .int .i64 d.owner, .int .i64 d.side, .int .i64 d.net, .int .i64 d.units] 31))
            have hR6 := hR5.keptF ((Kept.refl _ w5).alloc (.cells #[.int .i64 d.id, .int .i64 d.owner, .int .i64 d.side, .int .i64 d.net, .int .i64 d.units] 31))
            have hK6 := hK5.alloc (.cells #[.int .i64 d.id, .int .i64 d.owner, .int .i64 d.side, .int .i64 d.net, .int .i64 d.units] 31)
            have hX6 : (w5.alloc (.cells #[.int .i64 d.id, .int .i64 d.owner, .int .i64 d.side, .int .i64 d.net, .int .i64 d.units] 31)).heap[xb]? = some (boxA x) := block_alloc hX5
            have hN6 : (w5.alloc (.cells #[.int .i64 d.id, .int .i64 d.owner, .int .i64 d.side, .int .i64 d.net, .int .i64 d.units] 31)).heap[w5.heap.size]? = some (.cells #[.int .i64 d.id, .int .i64 d.owner, .int .i64 d.side, .int .i64 d.net, .int .i64 d.units] 31 (0, 0)) := block_alloc_new _ _
            have hnm : w5.heap.size ≠ m := by
              obtain ⟨_, p, c, h1, _⟩ := hR5
              have := lt_of_block h1.st; omega
            clear hb5 hR5 hK5 hX5
            generalize w5.heap.size = nb at hN6 hnm ⊢
            generalize w5.alloc (.cells #[.int .i64 d.id, .int .i64 d.owner, .int .i64 d.side, .int .i64 d.net, .int .i64 d.units] 31) = w6 at hb6 hR6 hK6 hX6 hN6 ⊢
            have y6 : w6.cell? ⟨xb, 6, none⟩ = some (.int .i64 x.id) := by rw [cell_of_block hX6]; rfl
            have y7 : w6.cell? ⟨xb, 7, none⟩ = some (.int .i64 x.n) := by rw [cell_of_block hX6]; rfl
            go_wp2_with fail
            refine (HQ.out.call hR6).mono ?_
            rintro e w7 ⟨rfl, hR7, hb7, hk7⟩
            have hB7 := hb7 bk R' hb6
            have hK7 := hK6.trans' (G := fun b => b = m) hk7 (fun i hi hg => by omega)
            have hN7 := (hk7.block nb (lt_of_block hN6) hnm).trans hN6
            clear hb6 hR6 hK6 hX6 hN6 hb7 hk7 y6 y7
            dsimp only [aggO]
            go_upto_region 23 with fail
            have hb8 := hB7.keptF ((Kept.refl _ w7).alloc (.cells #[.int .i64 d.id, .int .i64 d.owner, .int .i64 d.side, .int .i64 d.net, .int .i64 d.units] 37))
            have hR8 := hR7.keptF ((Kept.refl _ w7).alloc (.cells #[.int .i64 d.id, .int .i64 d.owner, .int .i64 d.side, .int .i64 d.net, .int .i64 d.units] 37))
            have hK8 := hK7.alloc (.cells #[.int .i64 d.id, .int .i64 d.owner, .int .i64 d.side, .int .i64 d.net, .int .i64 d.units] 37)
            have hN8 : (w7.alloc (.cells #[.int .i64 d.id, .int .i64 d.owner, .int .i64 d.side, .int .i64 d.net, .int .i64 d.units] 37)).heap[nb]? = some (.cells #[.int .i64 d.id, .int .i64 d.owner, .int .i64 d.side, .int .i64 d.net, .int .i64 d.units] 31 (0, 0)) := block_alloc hN7
            have hM8 : (w7.alloc (.cells #[.int .i64 d.id, .int .i64 d.owner, .int .i64 d.side, .int .i64 d.net, .int .i64 d.units] 37)).heap[w7.heap.size]? = some (.cells #[.int .i64 d.id, .int .i64 d.owner, .int .i64 d.side, .int .i64 d.net, .int .i64 d.units] 37 (0, 0)) := block_alloc_new _ _
            clear hB7 hR7 hK7 hN7
            generalize w7.heap.size = mb at hM8 ⊢
            generalize w7.alloc (.cells #[.int .i64 d.id, .int .i64 d.owner, .int .i64 d.side, .int .i64 d.net, .int .i64 d.units] 37) = w8 at hb8 hR8 hK8 hN8 hM8 ⊢
            have c0 := fun y : KW w8 => KW.cell (show w8.cell? ⟨nb, 0, none⟩ = some (.int .i64 d.id) by rw [cell_of_block hN8]; rfl) y
            have c1 := fun y : KW w8 => KW.cell (show w8.cell? ⟨nb, 1, none⟩ = some (.int .i64 d.owner) by rw [cell_of_block hN8]; rfl) y
            have c2 := fun y : KW w8 => KW.cell (show w8.cell? ⟨nb, 2, none⟩ = some (.int .i64 d.side) by rw [cell_of_block hN8]; rfl) y
            have c3 := fun y : KW w8 => KW.cell (show w8.cell? ⟨nb, 3, none⟩ = some (.int .i64 d.net) by rw [cell_of_block hN8]; rfl) y
            have c4 := fun y : KW w8 => KW.cell (show w8.cell? ⟨nb, 4, none⟩ = some (.int .i64 d.units) by rw [cell_of_block hN8]; rfl) y
            have f0 := fun y : KW w8 => KW.cell (show w8.cell? ⟨mb, 0, none⟩ = some (.int .i64 d.id) by rw [cell_of_block hM8]; rfl) y
            have f1 := fun y : KW w8 => KW.cell (show w8.cell? ⟨mb, 1, none⟩ = some (.int .i64 d.owner) by rw [cell_of_block hM8]; rfl) y
            have f2 := fun y : KW w8 => KW.cell (show w8.cell? ⟨mb, 2, none⟩ = some (.int .i64 d.side) by rw [cell_of_block hM8]; rfl) y
            have f3 := fun y : KW w8 => KW.cell (show w8.cell? ⟨mb, 3, none⟩ = some (.int .i64 d.net) by rw [cell_of_block hM8]; rfl) y
            have f4 := fun y : KW w8 => KW.cell (show w8.cell? ⟨mb, 4, none⟩ = some (.int .i64 d.units) by rw [cell_of_block hM8]; rfl) y
            clear hN8 hM8
            refine wp_region_kept (by kernel_rfl) (by kernel_rfl) ?_
            repeat (go_big_quiet_step (first | with_reducible exact of_kw d _))
            refine wpQuiet_nil ?_
            intro _ hw'
            obtain ⟨y, rfl⟩ := hw'
            have hb9 := hb8.keptF y.kept
            have hR9 := hR8.keptF y.kept
            have hK9 := hK8.trans y.kept
            generalize y.w = wy at hb9 hR9 hK9 ⊢
            clear c0 c1 c2 c3 c4 f0 f1 f2 f3 f4
            go_wp2_with fail
            go_meet
            exact ⟨R', HG'.out, hb9, hR9, hK9⟩
          · have hb1 : (x.op == 1) = false := by simpa using h1
            have hb2 : (x.op == 2) = false := by simpa using h2
            have hb3 : (x.op == 3) = false := by simpa using h3
            clear h1 h2 h3
            have HB := Lib.hid hB1
            have HR := Lib.hid hR1
            have HG := Lib.hid hG
            clear hB1 hR1 hG
            go_wp2_with fail
            go_meet
            exact ⟨R, HG.out, HB.out, HR.out, hK1⟩
      case rest =>
        as_aux_lemma =>
          obtain ⟨R2, hG2, hB2, hR2, hK2⟩ := hcut
          have HG2 := Lib.hid hG2
          clear y0 y1 y2 y3 y4 y5 y6 y7 hB1 hR1 hK1 hx1 hG hG2
          have hB2' := hB2
          have hR2' := hR2
          obtain ⟨_, p, c, O, hbk, _⟩ := hB2'
          obtain ⟨_, p', c', hrb, _⟩ := hR2'
          go_wp2_with fail
          refine (same_true hbk hrb).mono ?_
          rintro e w5 ⟨rfl, hk5⟩
          have hB5 := hB2.keptF hk5
          have hR5 := hR2.keptF hk5
          have hK5 := hK2.trans hk5
          clear hB2 hR2 hK2 hk5 hbk hrb
          have hst2 : PlSide w bk m R2 (.int .i64 1) w5 := ⟨0, by omega, rfl, hB5, hR5, hK5⟩
          clear hB5 hR5 hK5
          go_wp2_with fail
          go_loopw [17] (fun sv wr => PlSide w bk m R2 sv wr) (fun sv _ => 4 - (intOf sv).toNat)
          case atStart => exact hst2
          case round =>
            obtain ⟨s, hs, rfl, hB6, hR6, hK6⟩ := hrel
            clear hst2
            by_cases hs2 : s < 2
            · have hle : decide (((s : Int) + 1) ≤ 2) = true := decide_eq_true (by omega)
              obtain ⟨d, hd, hfr⟩ := front_both (R := R2) hs2
              have Hd := Lib.hid hd
              have Hfr := Lib.hid hfr
              clear hd hfr
              have hB6' := hB6
              obtain ⟨_, p, c, O, hbk, _⟩ := hB6'
              go_wp2_with fail
              refine (Hfr.out _ bk p c O hbk).mono ?_
              rintro e w7 ⟨rfl, hk7⟩
              generalize hbb : (!(R2 s).isEmpty) = bb
              have Hbb := Lib.hid hbb
              clear hbb
              have hB7 := hB6.keptF hk7
              have hR7 := hR6.keptF hk7
              have hK7 := hK6.trans hk7
              clear hB6 hR6 hK6 hk7 hbk
              go_upto_region 31 with fail
              have hB8 := hB7.keptF ((Kept.refl _ w7).alloc (.cells #[.int .i64 d.id, .int .i64 d.owner, .int .i64 d.side, .int .i64 d.net, .int .i64 d.units] 31))
              have hR8 := hR7.keptF ((Kept.refl _ w7).alloc (.cells #[.int .i64 d.id, .int .i64 d.owner, .int .i64 d.side, .int .i64 d.net, .int .i64 d.units] 31))
              have hK8 := hK7.alloc (.cells #[.int .i64 d.id, .int .i64 d.owner, .int .i64 d.side, .int .i64 d.net, .int .i64 d.units] 31)
              have hN8 : (w7.alloc (.cells #[.int .i64 d.id, .int .i64 d.owner, .int .i64 d.side, .int .i64 d.net, .int .i64 d.units] 31)).heap[w7.heap.size]? = some (.cells #[.int .i64 d.id, .int .i64 d.owner, .int .i64 d.side, .int .i64 d.net, .int .i64 d.units] 31 (0, 0)) := block_alloc_new _ _
              clear hB7 hR7 hK7
              generalize w7.heap.size = nb at hN8 ⊢
              generalize w7.alloc (.cells #[.int .i64 d.id, .int .i64 d.owner, .int .i64 d.side, .int .i64 d.net, .int .i64 d.units] 31) = w8 at hB8 hR8 hK8 hN8 ⊢
              have hR8' := hR8
              obtain ⟨_, p', c', hrb, _⟩ := hR8'
              go_wp2_with fail
              refine (side_any hrb _ s hs2 rfl).mono ?_
              rintro e w' ⟨rfl, rfl⟩
              have hsl := hrb.sl s hs2
              generalize hll : (R2 s).length = ll at hsl ⊢
              have Hll := Lib.hid hll
              clear hrb hll
              have HB8 := Lib.hid hB8
              have HR8 := Lib.hid hR8
              have HK8 := Lib.hid hK8
              clear hB8 hR8 hK8
              have c0 := fun y : KW w8 => KW.cell (show w8.cell? ⟨nb, 0, none⟩ = some (.int .i64 d.id) by rw [cell_of_block hN8]; rfl) y
              have c1 := fun y : KW w8 => KW.cell (show w8.cell? ⟨nb, 1, none⟩ = some (.int .i64 d.owner) by rw [cell_of_block hN8]; rfl) y
              have c2 := fun y : KW w8 => KW.cell (show w8.cell? ⟨nb, 2, none⟩ = some (.int .i64 d.side) by rw [cell_of_block hN8]; rfl) y
              have c3 := fun y : KW w8 => KW.cell (show w8.cell? ⟨nb, 3, none⟩ = some (.int .i64 d.net) by rw [cell_of_block hN8]; rfl) y
              have c4 := fun y : KW w8 => KW.cell (show w8.cell? ⟨nb, 4, none⟩ = some (.int .i64 d.units) by rw [cell_of_block hN8]; rfl) y
              clear hN8
              cases hrow : R2 s with
              | nil =>
                as_aux_lemma =>
                  have Hrow := Lib.hid hrow
                  obtain rfl : ll = 0 := by rw [← Hll.out, hrow]; rfl
                  obtain rfl : bb = false := by rw [← Hbb.out, hrow]; rfl
                  clear hrow hsl
                  go_wp2_with fail
                  refine wp_region_kept (by kernel_rfl) (by kernel_rfl) ?_
                  repeat (go_big_quiet_step (fail))
                  refine wpQuiet_nil ?_
                  intro _ hw'
                  obtain ⟨y, rfl⟩ := hw'
                  have hB9 := HB8.out.keptF y.kept
                  have hR9 := HR8.out.keptF y.kept
                  have hK9 := HK8.out.trans y.kept
                  generalize y.w = wy at hB9 hR9 hK9 ⊢
                  clear c0 c1 c2 c3 c4
                  go_wp2_with fail
                  exact ⟨⟨s + 1, by omega, by go_num, hB9, hR9, hK9⟩, by simp [intOf]; omega⟩
              | cons x0 xs =>
                as_aux_lemma =>
                  obtain rfl := Hd.out x0 (by rw [hrow]; rfl)
                  rw [hrow] at hsl
                  have Hrow := Lib.hid hrow
                  obtain rfl : bb = true := by rw [← Hbb.out, hrow]; rfl
                  have hln : ll = (d :: xs).length := by rw [← Hll.out, hrow]
                  have hln0 : 0 < ll := by rw [hln]; simp
                  obtain ⟨t, o, hpk⟩ := sl_some hsl hln0
                  rw [hpk] at hsl ⊢
                  have Hpk := Lib.hid hpk
                  have hlc := hsl.2.1
                  obtain ⟨z0, z1, z2, z3, z4⟩ := cells5 (k := 0) hsl hln rfl
                  rw [Nat.zero_mul, Nat.add_zero] at z0 z1 z2 z3 z4
                  have hlnb : decide ((0 : Int) < (ll : Int)) = true := decide_eq_true (by omega)
                  have b1 : (0 : Int) < (ll : Int) := by omega
                  clear hln hrow hpk hsl
                  have e0 := fun y : KW w8 => KW.cell z0 y
                  have e1 := fun y : KW w8 => KW.cell z1 y
                  have e2 := fun y : KW w8 => KW.cell z2 y
                  have e3 := fun y : KW w8 => KW.cell z3 y
                  have e4 := fun y : KW w8 => KW.cell z4 y
                  clear z0 z1 z2 z3 z4
                  go_wp2_with fail
                  refine wp_region_kept (by kernel_rfl) (by kernel_rfl) ?_
                  repeat (go_big_quiet_step (first | with_reducible exact of_kw d _))
                  refine wpQuiet_nil ?_
                  intro _ hw'
                  obtain ⟨y, rfl⟩ := hw'
                  have hB9 := HB8.out.keptF y.kept
                  have hR9 := HR8.out.keptF y.kept
                  have hK9 := HK8.out.trans y.kept
                  generalize y.w = wy at hB9 hR9 hK9 ⊢
                  clear c0 c1 c2 c3 c4 e0 e1 e2 e3 e4
                  go_wp2_with fail
                  exact ⟨⟨s + 1, by omega, by go_num, hB9, hR9, hK9⟩, by simp [intOf]; omega⟩
            · obtain rfl : s = 2 := by omega
              go_wp2_with fail
              exact ⟨⟨k + 1, R2, hlt, by go_num, HG2.out, hB6, hR6, hK6⟩, by simp [intOf]; omega⟩
    · obtain rfl : k = len := by omega
      as_aux_lemma =>
        have HG := Lib.hid hG
        obtain ⟨d, bb, n, hn, hg1, hg2⟩ := get_both R id
        have Hg1 := Lib.hid hg1
        have Hg2 := Lib.hid hg2
        have hnb : ((bb == decide (0 ≤ n))) = true := by rw [hn]; simp
        have Hn := Lib.hid hn
        clear hG hg1 hg2 hn
        have hB' := hB
        obtain ⟨_, p, c, O, hbk, _⟩ := hB'
        go_wp2_with fail
        refine (Hg1.out _ bk p c O hbk).mono ?_
        rintro e w5 ⟨rfl, hk5⟩
        have hR5 := hR.keptF hk5
        have hK5 := hK.trans hk5
        clear hB hR hK hbk hk5
        go_upto_region 35 with fail
        have hR6 := hR5.keptF ((Kept.refl _ w5).alloc (.cells #[.int .i64 d.id, .int .i64 d.owner, .int .i64 d.side, .int .i64 d.net, .int .i64 d.units] 31))
        have hK6 := hK5.alloc (.cells #[.int .i64 d.id, .int .i64 d.owner, .int .i64 d.side, .int .i64 d.net, .int .i64 d.units] 31)
        have hN6 : (w5.alloc (.cells #[.int .i64 d.id, .int .i64 d.owner, .int .i64 d.side, .int .i64 d.net, .int .i64 d.units] 31)).heap[w5.heap.size]? = some (.cells #[.int .i64 d.id, .int .i64 d.owner, .int .i64 d.side, .int .i64 d.net, .int .i64 d.units] 31 (0, 0)) := block_alloc_new _ _
        clear hR5 hK5
        generalize w5.heap.size = nb at hN6 ⊢
        generalize w5.alloc (.cells #[.int .i64 d.id, .int .i64 d.owner, .int .i64 d.side, .int .i64 d.net, .int .i64 d.units] 31) = w6 at hR6 hK6 hN6 ⊢
        obtain ⟨_, p', c', hrb, _⟩ := hR6
        go_wp2_with fail
        refine (Hg2.out _ m p' c' hrb).mono ?_
        rintro e w7 ⟨rfl, hk7⟩
        have hK7 := hK6.trans hk7
        have hN7 := (hk7.block nb (lt_of_block hN6) (fun h => h)).trans hN6
        clear hrb hk7 hN6 hK6
        dsimp only [aggO]
        go_upto_region 36 with fail
        have hK8 := hK7.alloc (.cells #[.int .i64 d.id, .int .i64 d.owner, .int .i64 d.side, .int .i64 d.net, .int .i64 d.units] 37)
        have hN8 : (w7.alloc (.cells #[.int .i64 d.id, .int .i64 d.owner, .int .i64 d.side, .int .i64 d.net, .int .i64 d.units] 37)).heap[nb]? = some (.cells #[.int .i64 d.id, .int .i64 d.owner, .int .i64 d.side, .int .i64 d.net, .int .i64 d.units] 31 (0, 0)) := block_alloc hN7
        have hM8 : (w7.alloc (.cells #[.int .i64 d.id, .int .i64 d.owner, .int .i64 d.side, .int .i64 d.net, .int .i64 d.units] 37)).heap[w7.heap.size]? = some (.cells #[.int .i64 d.id, .int .i64 d.owner, .int .i64 d.side, .int .i64 d.net, .int .i64 d.units] 37 (0, 0)) := block_alloc_new _ _
        clear hN7 hK7
        generalize w7.heap.size = mb at hM8 ⊢
        generalize w7.alloc (.cells #[.int .i64 d.id, .int .i64 d.owner, .int .i64 d.side, .int .i64 d.net, .int .i64 d.units] 37) = w8 at hK8 hN8 hM8 ⊢
        have c0 := fun y : KW w8 => KW.cell (show w8.cell? ⟨nb, 0, none⟩ = some (.int .i64 d.id) by rw [cell_of_block hN8]; rfl) y
        have c1 := fun y : KW w8 => KW.cell (show w8.cell? ⟨nb, 1, none⟩ = some (.int .i64 d.owner) by rw [cell_of_block hN8]; rfl) y
        have c2 := fun y : KW w8 => KW.cell (show w8.cell? ⟨nb, 2, none⟩ = some (.int .i64 d.side) by rw [cell_of_block hN8]; rfl) y
        have c3 := fun y : KW w8 => KW.cell (show w8.cell? ⟨nb, 3, none⟩ = some (.int .i64 d.net) by rw [cell_of_block hN8]; rfl) y
        have c4 := fun y : KW w8 => KW.cell (show w8.cell? ⟨nb, 4, none⟩ = some (.int .i64 d.units) by rw [cell_of_block hN8]; rfl) y
        have f0 := fun y : KW w8 => KW.cell (show w8.cell? ⟨mb, 0, none⟩ = some (.int .i64 d.id) by rw [cell_of_block hM8]; rfl) y
        have f1 := fun y : KW w8 => KW.cell (show w8.cell? ⟨mb, 1, none⟩ = some (.int .i64 d.owner) by rw [cell_of_block hM8]; rfl) y
        have f2 := fun y : KW w8 => KW.cell (show w8.cell? ⟨mb, 2, none⟩ = some (.int .i64 d.side) by rw [cell_of_block hM8]; rfl) y
        have f3 := fun y : KW w8 => KW.cell (show w8.cell? ⟨mb, 3, none⟩ = some (.int .i64 d.net) by rw [cell_of_block hM8]; rfl) y
        have f4 := fun y : KW w8 => KW.cell (show w8.cell? ⟨mb, 4, none⟩ = some (.int .i64 d.units) by rw [cell_of_block hM8]; rfl) y
        clear hN8 hM8
        have HK8 := Lib.hid hK8
        clear hK8
        refine wp_region_kept (by kernel_rfl) (by kernel_rfl) ?_
        repeat (go_big_quiet_step (first | with_reducible exact of_kw d _))
        refine wpQuiet_nil ?_
        intro _ hw'
        obtain ⟨y, rfl⟩ := hw'
        have hK9 := HK8.out.trans y.kept
        generalize y.w = wy at hK9 ⊢
        clear c0 c1 c2 c3 c4 f0 f1 f2 f3 f4
        go_wp2_with fail
        go_ret
        exact ⟨rfl, hK9⟩
end Go.Proofs.Ytopfgcnehdjjpaa
