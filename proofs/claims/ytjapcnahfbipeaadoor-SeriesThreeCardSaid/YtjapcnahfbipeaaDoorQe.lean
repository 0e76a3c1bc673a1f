/- Series: which comes first: the program's walk, the reference's. -/
import Derived.Test.YtjapcnahfbipeaaDoorQd
namespace Go.Proofs.YtjapcnahfbipeaaDoor
open Go Go.RowKit

def intV (z : Int) : Value := .int .i64 z
def OrRel (zs : List Int) (w0 : World) (iv : Value) (wr : World) : Prop := ∃ i : Nat, i ≤ zs.length ∧ iv = .int .i64 i ∧ firstNZ zs = firstNZ (zs.drop i) ∧ wr = w0
set_option maxHeartbeats 1000000 in
theorem or_any (zs : List Int) (b n : Nat) (w : World) (hn : n = zs.length) (h100 : n ≤ 100) (h : w.heap[b]? = some (.cells (zs.map intV).toArray 3 (0, 0))) : Calls Tryd.prog 16 #[.slice (some ⟨b, 0, none⟩) n n] w fun e w' => w = w' ∧ e = .returned (.int .i64 (firstNZ zs)) := by
  have Hb := Lib.hid h
  have Hn := Lib.hid hn
  clear h hn
  go_enter Tryd.func16, Tryd.ntmps16
  go_wp2_with fail
  go_loopw [8] (fun iv wr => OrRel zs w iv wr) (fun iv _ => n - (intOf iv).toNat)
  case atStart => exact ⟨0, Nat.zero_le _, rfl, rfl, rfl⟩
  case round =>
    obtain ⟨i, hi, rfl, hz, rfl⟩ := hrel
    have Hz := Lib.hid hz
    clear hz
    by_cases hlt : i < n
    · have hlt' : i < zs.length := by rw [← Hn.out]; exact hlt
      have hcell : wr.cell? ⟨b, i, none⟩ = some (.int .i64 zs[i]) := by rw [cell_of_block Hb.out]; simp [intV, hlt']
      have hd : zs.drop i = zs[i] :: zs.drop (i + 1) := List.drop_eq_getElem_cons hlt'
      generalize zs[i] = z at hcell hd
      have Hd := Lib.hid hd
      clear hd
      have b1 : (0 : Int) ≤ (i : Int) := by omega
      have b2 : (i : Int) < (n : Int) := by omega
      by_cases hz0 : z = 0
      · have hb : (z != 0) = false := by simp [hz0]
        have Hz0 := Lib.hid hz0
        have Hlt := Lib.hid hlt'
        clear hz0 hlt'
        go_wp2
        exact ⟨⟨i + 1, Hlt.out, by push_cast; rfl, by rw [Hz.out, Hd.out, Hz0.out]; rfl, rfl⟩, by simp [intOf]; omega⟩
      · have hb : (z != 0) = true := by simp [hz0]
        have Hz0 : Hid (¬ z = 0) := hz0
        clear hz0 hlt'
        go_wp2
        go_ret
        exact ⟨rfl, ret_int (by rw [Hz.out, Hd.out, firstNZ, if_pos Hz0.out])⟩
    · have hie : i = n := by rw [← Hn.out] at hi; omega
      subst hie
      have E : Hid (firstNZ zs = 0) := by show _ = _; rw [Hz.out, Hn.out, List.drop_length]; rfl
      go_wp2
      go_ret
      exact ⟨rfl, ret_int E.out.symm⟩

def killCp (_ _ : Nat) : Bool := false
def CpPost (a b : Sr) (w : World) (e : Ending) (w' : World) : Prop := e = .returned (.int .i64 (cmpSr a b)) ∧ Kept (fun _ => False) w w'

set_option maxHeartbeats 2000000 in
set_option maxRecDepth 100000 in
theorem compare_any (a b : Sr) (w : World) : Calls Tryd.prog 9 #[.agg #[.string a.cls, .int .i64 a.exp, .int .i64 a.strike, .int .i64 a.right], .agg #[.string b.cls, .int .i64 b.exp, .int .i64 b.strike, .int .i64 b.right]] w (CpPost a b w) := by
  have hq1 : ((w.alloc (.cells #[.string a.cls, .int .i64 a.exp, .int .i64 a.strike, .int .i64 a.right] 23)).alloc (.cells #[.string b.cls, .int .i64 b.exp, .int .i64 b.strike, .int .i64 b.right] 23)).heap[w.heap.size]? = some (boxS a 23) := block_alloc (block_nw _ _)
  have hq2 : ((w.alloc (.cells #[.string a.cls, .int .i64 a.exp, .int .i64 a.strike, .int .i64 a.right] 23)).alloc (.cells #[.string b.cls, .int .i64 b.exp, .int .i64 b.strike, .int .i64 b.right] 23)).heap[w.heap.size + 1]? = some (boxS b 23) := by
    have := block_nw (w.alloc (.cells #[.string a.cls, .int .i64 a.exp, .int .i64 a.strike, .int .i64 a.right] 23)) (.cells #[.string b.cls, .int .i64 b.exp, .int .i64 b.strike, .int .i64 b.right] 23)
    rwa [show (w.alloc (.cells #[.string a.cls, .int .i64 a.exp, .int .i64 a.strike, .int .i64 a.right] 23)).heap.size = w.heap.size + 1 by simp] at this
  have hk2 : Kept (fun _ => False) w ((w.alloc (.cells #[.string a.cls, .int .i64 a.exp, .int .i64 a.strike, .int .i64 a.right] 23)).alloc (.cells #[.string b.cls, .int .i64 b.exp, .int .i64 b.strike, .int .i64 b.right] 23)) := ((Kept.refl _ _).alloc _).alloc _
  go_enter Tryd.func9, Tryd.ntmps9
  go_upto_region 1 with fail
  generalize w.heap.size + 1 = q2 at hq2 ⊢
  generalize w.heap.size = q1 at hq1 ⊢
  generalize (w.alloc (.cells #[.string a.cls, .int .i64 a.exp, .int .i64 a.strike, .int .i64 a.right] 23)).alloc (.cells #[.string b.cls, .int .i64 b.exp, .int .i64 b.strike, .int .i64 b.right] 23) = w0 at hq1 hq2 hk2 ⊢
  have Hq1 := Lib.hid hq1
  have Hq2 := Lib.hid hq2
  clear hq1 hq2
  refine wp_region_vals (by kernel_rfl) (by kernel_rfl) (by kernel_rfl) (by kernel_rfl) (Kept (fun _ => False) w0) killCp
    (fun j => (([.val (.pointer (some ⟨q1, 0, none⟩)), .val (.string a.cls), .val (.pointer (some ⟨q2, 0, none⟩)), .val (.string b.cls), .val (.int .i64 (cmpS a.cls.toList b.cls.toList)), .val (.pointer (some ⟨q1, 1, none⟩)), .val (.int .i64 a.exp), .val (.pointer (some ⟨q2, 1, none⟩)), .val (.int .i64 b.exp), .val (.int .i64 (cmpN a.exp b.exp)), .val (.pointer (some ⟨q1, 2, none⟩)), .val (.int .i64 a.strike), .val (.pointer (some ⟨q2, 2, none⟩)), .val (.int .i64 b.strike), .val (.int .i64 (cmpN a.strike b.strike)), .val (.pointer (some ⟨q1, 3, none⟩)), .val (.int .i64 a.right), .val (.pointer (some ⟨q2, 3, none⟩)), .val (.int .i64 b.right), .val (.int .i64 (cmpN a.right b.right)), .box 3 4 ([cmpS a.cls.toList b.cls.toList, cmpN a.exp b.exp, cmpN a.strike b.strike, cmpN a.right b.right].map intV), .val (.int .i64 (cmpSr a b)), .val (.int .i64 (cmpSr a b))] : List Kd).getD j .any).is w0)
    (fun _ _ => True) ((Kept.refl _ w0).drew) (fun _ => trivial) ?_ ?_
  · refine ⟨?_, ?_, ?_, ?_, ?_, ?_, ?_, ?_, ?_, ?_, ?_, ?_, ?_, ?_, ?_, ?_, ?_, ?_, ?_, ?_, ?_, ?_, ?_, trivial⟩
    all_goals (intro act w' hC hS hV hF)
    · refine ⟨rfl, fun K hK => ?_⟩
      have e1 : _ = Value.pointer (some ⟨q1, 0, none⟩) := slotE (hF 2 (by kernel_rfl))
      clear hV hF hS
      go_simp
      exact hK _ _ rfl hC (fun _ _ _ _ _ h => h) (fun _ _ _ h => h)
    · refine ⟨rfl, fun K hK => ?_⟩
      obtain ⟨_, rfl, e0⟩ := hV 0 (by kernel_rfl) (by kernel_rfl)
      have e0 := slotE (e0 _ rfl)
      have hbx := (hC.block q1 (lt_of_block Hq1.out) (fun h => h)).trans Hq1.out
      have y : w'.cell? ⟨q1, 0, none⟩ = some (.string a.cls) := by rw [cell_of_block hbx]; rfl
      clear hbx
      clear hV hF hS
      go_simp
      exact hK _ _ rfl hC (fun _ _ _ _ _ h => h) (fun _ _ _ h => h)
    · refine ⟨rfl, fun K hK => ?_⟩
      have e1 : _ = Value.pointer (some ⟨q2, 0, none⟩) := slotE (hF 3 (by kernel_rfl))
      clear hV hF hS
      go_simp
      exact hK _ _ rfl hC (fun _ _ _ _ _ h => h) (fun _ _ _ h => h)
    · refine ⟨rfl, fun K hK => ?_⟩
      obtain ⟨_, rfl, e0⟩ := hV 2 (by kernel_rfl) (by kernel_rfl)
      have e0 := slotE (e0 _ rfl)
      have hbx := (hC.block q2 (lt_of_block Hq2.out) (fun h => h)).trans Hq2.out
      have y : w'.cell? ⟨q2, 0, none⟩ = some (.string b.cls) := by rw [cell_of_block hbx]; rfl
      clear hbx
      clear hV hF hS
      go_simp
      exact hK _ _ rfl hC (fun _ _ _ _ _ h => h) (fun _ _ _ h => h)
    · refine ⟨rfl, fun K hK => ?_⟩
      obtain ⟨_, rfl, e0⟩ := hV 1 (by kernel_rfl) (by kernel_rfl)
      have e0 := slotE (e0 _ rfl)
      obtain ⟨_, rfl, e1⟩ := hV 3 (by kernel_rfl) (by kernel_rfl)
      have e1 := slotE (e1 _ rfl)
      clear hV hF hS
      go_simp
      refine (cmp_s _ _ _).mono ?_
      rintro e w5 ⟨rfl, rfl⟩
      exact hK _ _ rfl hC (fun _ _ _ _ _ h => h) (fun _ _ _ h => h)
    · refine ⟨rfl, fun K hK => ?_⟩
      have e1 : _ = Value.pointer (some ⟨q1, 0, none⟩) := slotE (hF 2 (by kernel_rfl))
      clear hV hF hS
      go_simp
      exact hK _ _ rfl hC (fun _ _ _ _ _ h => h) (fun _ _ _ h => h)
    · refine ⟨rfl, fun K hK => ?_⟩
      obtain ⟨_, rfl, e0⟩ := hV 5 (by kernel_rfl) (by kernel_rfl)
      have e0 := slotE (e0 _ rfl)
      have hbx := (hC.block q1 (lt_of_block Hq1.out) (fun h => h)).trans Hq1.out
      have y : w'.cell? ⟨q1, 1, none⟩ = some (.int .i64 a.exp) := by rw [cell_of_block hbx]; rfl
      clear hbx
      clear hV hF hS
      go_simp
      exact hK _ _ rfl hC (fun _ _ _ _ _ h => h) (fun _ _ _ h => h)
    · refine ⟨rfl, fun K hK => ?_⟩
      have e1 : _ = Value.pointer (some ⟨q2, 0, none⟩) := slotE (hF 3 (by kernel_rfl))
      clear hV hF hS
      go_simp
      exact hK _ _ rfl hC (fun _ _ _ _ _ h => h) (fun _ _ _ h => h)
    · refine ⟨rfl, fun K hK => ?_⟩
      obtain ⟨_, rfl, e0⟩ := hV 7 (by kernel_rfl) (by kernel_rfl)
      have e0 := slotE (e0 _ rfl)
      have hbx := (hC.block q2 (lt_of_block Hq2.out) (fun h => h)).trans Hq2.out
      have y : w'.cell? ⟨q2, 1, none⟩ = some (.int .i64 b.exp) := by rw [cell_of_block hbx]; rfl
      clear hbx
      clear hV hF hS
      go_simp
      exact hK _ _ rfl hC (fun _ _ _ _ _ h => h) (fun _ _ _ h => h)
    · refine ⟨rfl, fun K hK => ?_⟩
      obtain ⟨_, rfl, e0⟩ := hV 6 (by kernel_rfl) (by kernel_rfl)
      have e0 := slotE (e0 _ rfl)
      obtain ⟨_, rfl, e1⟩ := hV 8 (by kernel_rfl) (by kernel_rfl)
      have e1 := slotE (e1 _ rfl)
      clear hV hF hS
      go_simp
      refine (cmp_i _ _ _).mono ?_
      rintro e w5 ⟨rfl, rfl⟩
      exact hK _ _ rfl hC (fun _ _ _ _ _ h => h) (fun _ _ _ h => h)
    · refine ⟨rfl, fun K hK => ?_⟩
      have e1 : _ = Value.pointer (some ⟨q1, 0, none⟩) := slotE (hF 2 (by kernel_rfl))
      clear hV hF hS
      go_simp
      exact hK _ _ rfl hC (fun _ _ _ _ _ h => h) (fun _ _ _ h => h)
    · refine ⟨rfl, fun K hK => ?_⟩
      obtain ⟨_, rfl, e0⟩ := hV 10 (by kernel_rfl) (by kernel_rfl)
      have e0 := slotE (e0 _ rfl)
      have hbx := (hC.block q1 (lt_of_block Hq1.out) (fun h => h)).trans Hq1.out
      have y : w'.cell? ⟨q1, 2, none⟩ = some (.int .i64 a.strike) := by rw [cell_of_block hbx]; rfl
      clear hbx
      clear hV hF hS
      go_simp
      exact hK _ _ rfl hC (fun _ _ _ _ _ h => h) (fun _ _ _ h => h)
    · refine ⟨rfl, fun K hK => ?_⟩
      have e1 : _ = Value.pointer (some ⟨q2, 0, none⟩) := slotE (hF 3 (by kernel_rfl))
      clear hV hF hS
      go_simp
      exact hK _ _ rfl hC (fun _ _ _ _ _ h => h) (fun _ _ _ h => h)
    · refine ⟨rfl, fun K hK => ?_⟩
      obtain ⟨_, rfl, e0⟩ := hV 12 (by kernel_rfl) (by kernel_rfl)
      have e0 := slotE (e0 _ rfl)
      have hbx := (hC.block q2 (lt_of_block Hq2.out) (fun h => h)).trans Hq2.out
      have y : w'.cell? ⟨q2, 2, none⟩ = some (.int .i64 b.strike) := by rw [cell_of_block hbx]; rfl
      clear hbx
      clear hV hF hS
      go_simp
      exact hK _ _ rfl hC (fun _ _ _ _ _ h => h) (fun _ _ _ h => h)
    · refine ⟨rfl, fun K hK => ?_⟩
      obtain ⟨_, rfl, e0⟩ := hV 11 (by kernel_rfl) (by kernel_rfl)
      have e0 := slotE (e0 _ rfl)
      obtain ⟨_, rfl, e1⟩ := hV 13 (by kernel_rfl) (by kernel_rfl)
      have e1 := slotE (e1 _ rfl)
      clear hV hF hS
      go_simp
      refine (cmp_i _ _ _).mono ?_
      rintro e w5 ⟨rfl, rfl⟩
      exact hK _ _ rfl hC (fun _ _ _ _ _ h => h) (fun _ _ _ h => h)
    · refine ⟨rfl, fun K hK => ?_⟩
      have e1 : _ = Value.pointer (some ⟨q1, 0, none⟩) := slotE (hF 2 (by kernel_rfl))
      clear hV hF hS
      go_simp
      exact hK _ _ rfl hC (fun _ _ _ _ _ h => h) (fun _ _ _ h => h)
    · refine ⟨rfl, fun K hK => ?_⟩
      obtain ⟨_, rfl, e0⟩ := hV 15 (by kernel_rfl) (by kernel_rfl)
      have e0 := slotE (e0 _ rfl)
      have hbx := (hC.block q1 (lt_of_block Hq1.out) (fun h => h)).trans Hq1.out
      have y : w'.cell? ⟨q1, 3, none⟩ = some (.int .i64 a.right) := by rw [cell_of_block hbx]; rfl
      clear hbx
      clear hV hF hS
      go_simp
      exact hK _ _ rfl hC (fun _ _ _ _ _ h => h) (fun _ _ _ h => h)
    · refine ⟨rfl, fun K hK => ?_⟩
      have e1 : _ = Value.pointer (some ⟨q2, 0, none⟩) := slotE (hF 3 (by kernel_rfl))
      clear hV hF hS
      go_simp
      exact hK _ _ rfl hC (fun _ _ _ _ _ h => h) (fun _ _ _ h => h)
    · refine ⟨rfl, fun K hK => ?_⟩
      obtain ⟨_, rfl, e0⟩ := hV 17 (by kernel_rfl) (by kernel_rfl)
      have e0 := slotE (e0 _ rfl)
      have hbx := (hC.block q2 (lt_of_block Hq2.out) (fun h => h)).trans Hq2.out
      have y : w'.cell? ⟨q2, 3, none⟩ = some (.int .i64 b.right) := by rw [cell_of_block hbx]; rfl
      clear hbx
      clear hV hF hS
      go_simp
      exact hK _ _ rfl hC (fun _ _ _ _ _ h => h) (fun _ _ _ h => h)
    · refine ⟨rfl, fun K hK => ?_⟩
      obtain ⟨_, rfl, e0⟩ := hV 16 (by kernel_rfl) (by kernel_rfl)
      have e0 := slotE (e0 _ rfl)
      obtain ⟨_, rfl, e1⟩ := hV 18 (by kernel_rfl) (by kernel_rfl)
      have e1 := slotE (e1 _ rfl)
      clear hV hF hS
      go_simp
      refine (cmp_n _ _ _).mono ?_
      rintro e w5 ⟨rfl, rfl⟩
      exact hK _ _ rfl hC (fun _ _ _ _ _ h => h) (fun _ _ _ h => h)
    · refine ⟨rfl, fun K hK => ?_⟩
      obtain ⟨_, rfl, e0⟩ := hV 4 (by kernel_rfl) (by kernel_rfl)
      have e0 := slotE (e0 _ rfl)
      obtain ⟨_, rfl, e1⟩ := hV 9 (by kernel_rfl) (by kernel_rfl)
      have e1 := slotE (e1 _ rfl)
      obtain ⟨_, rfl, e2⟩ := hV 14 (by kernel_rfl) (by kernel_rfl)
      have e2 := slotE (e2 _ rfl)
      obtain ⟨_, rfl, e3⟩ := hV 19 (by kernel_rfl) (by kernel_rfl)
      have e3 := slotE (e3 _ rfl)
      clear hV hF hS
      go_simp
      exact hK _ _ ⟨_, rfl, block_alloc_new _ _, hC.size⟩ (hC.alloc _) (fun j u hj hk hr h => Kd.mono ((Kept.refl _ _).alloc _) (Kd.rest (kills := killCp) rfl (by kernel_rfl) hj hk hr) h) (fun _ _ _ h => h)
    · refine ⟨rfl, fun K hK => ?_⟩
      obtain ⟨_, ⟨b0, rfl, hb0, hn0⟩, e0⟩ := hV 20 (by kernel_rfl) (by kernel_rfl)
      have e0 := slotE (e0 _ rfl)
      have Hb0 := Lib.hid hb0
      clear hV hF hS hb0
      go_simp
      refine (or_any [cmpS a.cls.toList b.cls.toList, cmpN a.exp b.exp, cmpN a.strike b.strike, cmpN a.right b.right] b0 4 _ rfl (by decide) Hb0.out).mono ?_
      rintro e w5 ⟨rfl, rfl⟩
      exact hK _ _ rfl hC (fun _ _ _ _ _ h => h) (fun _ _ _ h => h)
    · refine ⟨rfl, fun K hK => ?_⟩
      obtain ⟨_, rfl, e0⟩ := hV 21 (by kernel_rfl) (by kernel_rfl)
      have e0 := slotE (e0 _ rfl)
      clear hV hF hS
      go_simp
      exact hK _ _ rfl hC (fun _ _ _ _ _ h => h) (fun _ _ _ h => h)
  · intro vs wx hl hC hV
    replace hl : vs.length = 23 := hl
    obtain ⟨v0, vs, rfl, hl0⟩ := cons_of hl
    obtain ⟨v1, vs, rfl, hl1⟩ := cons_of hl0
    obtain ⟨v2, vs, rfl, hl2⟩ := cons_of hl1
    obtain ⟨v3, vs, rfl, hl3⟩ := cons_of hl2
    obtain ⟨v4, vs, rfl, hl4⟩ := cons_of hl3
    obtain ⟨v5, vs, rfl, hl5⟩ := cons_of hl4
    obtain ⟨v6, vs, rfl, hl6⟩ := cons_of hl5
    obtain ⟨v7, vs, rfl, hl7⟩ := cons_of hl6
    obtain ⟨v8, vs, rfl, hl8⟩ := cons_of hl7
    obtain ⟨v9, vs, rfl, hl9⟩ := cons_of hl8
    obtain ⟨v10, vs, rfl, hl10⟩ := cons_of hl9
    obtain ⟨v11, vs, rfl, hl11⟩ := cons_of hl10
    obtain ⟨v12, vs, rfl, hl12⟩ := cons_of hl11
    obtain ⟨v13, vs, rfl, hl13⟩ := cons_of hl12
    obtain ⟨v14, vs, rfl, hl14⟩ := cons_of hl13
    obtain ⟨v15, vs, rfl, hl15⟩ := cons_of hl14
    obtain ⟨v16, vs, rfl, hl16⟩ := cons_of hl15
    obtain ⟨v17, vs, rfl, hl17⟩ := cons_of hl16
    obtain ⟨v18, vs, rfl, hl18⟩ := cons_of hl17
    obtain ⟨v19, vs, rfl, hl19⟩ := cons_of hl18
    obtain ⟨v20, vs, rfl, hl20⟩ := cons_of hl19
    obtain ⟨v21, vs, rfl, hl21⟩ := cons_of hl20
    obtain ⟨v22, vs, rfl, hl22⟩ := cons_of hl21
    obtain rfl := nil_of hl22
    obtain rfl := hV 22 (by decide) (by decide)
    clear hV
    simp only [dstsOf, List.map_cons, List.map_nil, puts, Act.put, List.setIfInBounds_toArray, List.set_cons_succ, List.set_cons_zero, Exit.then]
    go_wp2
    go_ret
    exact ⟨rfl, hk2.trans hC⟩
end Go.Proofs.YtjapcnahfbipeaaDoor
