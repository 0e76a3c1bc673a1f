/- Are the program's book and the document's the same: Row, Same: the walks. -/
import Derived.Test.YtopfgcnehdjjpaaDf
import Derived.Laws.StructEq
namespace Go.Proofs.Ytopfgcnehdjjpaa
open Go.RowKit

theorem cells5 {w : World} {E t o n cap k : Nat} {xs : List Od} {d : Od} (h : SlAt w E 5 (some ⟨t, o, none⟩) n cap (xs.flatMap odC)) (hn : n = xs.length) (hd : xs[k]? = some d) :
    w.cell? ⟨t, o + k * 5, none⟩ = some (.int .i64 d.id) ∧ w.cell? ⟨t, o + k * 5 + 1, none⟩ = some (.int .i64 d.owner) ∧ w.cell? ⟨t, o + k * 5 + 2, none⟩ = some (.int .i64 d.side) ∧ w.cell? ⟨t, o + k * 5 + 3, none⟩ = some (.int .i64 d.net) ∧ w.cell? ⟨t, o + k * 5 + 4, none⟩ = some (.int .i64 d.units) := by
  have hk : k < xs.length := (List.getElem?_eq_some_iff.1 hd).1
  have hc : ∀ j, j < 5 → w.cell? ⟨t, o + (k * 5 + j), none⟩ = (odC d)[j]? := fun j hj => by rw [h.cell (by omega), fm_get odC_len _ _ _ hj, hd]; rfl
  exact ⟨hc 0 (by decide), hc 1 (by decide), hc 2 (by decide), hc 3 (by decide), hc 4 (by decide)⟩
def RwRel (n : Nat) (w0 : World) (iv : Value) (wr : World) : Prop := ∃ j : Nat, j ≤ n ∧ iv = .int .i64 j ∧ Kept (fun _ => False) w0 wr
set_option maxHeartbeats 4000000 in
set_option maxRecDepth 100000 in
theorem row_true {w : World} {pa pb : Option Addr} {ca cb n : Nat} {xs : List Od} (hn : n = xs.length) (ha : SlAt w 31 5 pa n ca (xs.flatMap odC)) (hb : SlAt w 37 5 pb n cb (xs.flatMap odC)) (h256 : n ≤ 256) :
    Calls Try.prog 36 #[.slice pa n ca, .slice pb n cb] w (EqPost true w) := by
  have Ha := Lib.hid ha
  have Hb := Lib.hid hb
  have Hn := Lib.hid hn
  clear ha hb hn
  go_enter Try.func36, Try.ntmps36
  go_wp2_with fail
  have hst : RwRel n w (.int .i64 0) w := ⟨0, Nat.zero_le _, rfl, Kept.refl _ _⟩
  go_loopw [5] (fun iv wr => RwRel n w iv wr) (fun iv _ => n - (intOf iv).toNat)
  case atStart => exact hst
  case round =>
    obtain ⟨j, hj, rfl, hk⟩ := hrel
    clear hst
    by_cases hlt : j < n
    · have hA := Ha.out.kept fun t' ht' => hk.block _ (Ha.out.lt t' ht') (fun h => h)
      have hB := Hb.out.kept fun t' ht' => hk.block _ (Hb.out.lt t' ht') (fun h => h)
      obtain ⟨ta, oa, rfl⟩ := sl_some hA (by omega)
      obtain ⟨tb, ob, rfl⟩ := sl_some hB (by omega)
      obtain ⟨d, hd⟩ : ∃ d, xs[j]? = some d := ⟨_, List.getElem?_eq_getElem (by rw [← Hn.out]; exact hlt)⟩
      obtain ⟨x0, x1, x2, x3, x4⟩ := cells5 hA Hn.out hd
      obtain ⟨y0, y1, y2, y3, y4⟩ := cells5 hB Hn.out hd
      have hca := hA.2.1
      have hcb := hB.2.1
      have b1 : (0 : Int) ≤ (j : Int) := by omega
      have b2 : (j : Int) < (n : Int) := by omega
      have c0 := fun y : KW wr => KW.cell x0 y
      have e0 := fun y : KW wr => KW.cell y0 y
      have c1 := fun y : KW wr => KW.cell x1 y
      have e1 := fun y : KW wr => KW.cell y1 y
      have c2 := fun y : KW wr => KW.cell x2 y
      have e2 := fun y : KW wr => KW.cell y2 y
      have c3 := fun y : KW wr => KW.cell x3 y
      have e3 := fun y : KW wr => KW.cell y3 y
      have c4 := fun y : KW wr => KW.cell x4 y
      have e4 := fun y : KW wr => KW.cell y4 y
      clear x0 x1 x2 x3 x4 y0 y1 y2 y3 y4 hA hB hd
      have Hk := Lib.hid hk
      clear hk
      go_wp2_with fail
      refine wp_region_kept (by kernel_rfl) (by kernel_rfl) ?_
      repeat (go_big_quiet_step (first | with_reducible exact of_kw d _))
      refine wpQuiet_nil ?_
      intro _ hw'
      obtain ⟨y, rfl⟩ := hw'
      have hky := Hk.out.trans y.kept
      generalize y.w = wy at hky ⊢
      clear c0 c1 c2 c3 c4 e0 e1 e2 e3 e4
      go_wp2
      exact ⟨⟨j + 1, hlt, by go_num, hky⟩, by simp [intOf]; omega⟩
    · obtain rfl : j = n := by omega
      go_wp2_with fail
      go_ret
      exact ⟨rfl, hk⟩
def killSm (_ _ : Nat) : Bool := false
set_option maxHeartbeats 4000000 in
set_option maxRecDepth 100000 in
theorem same_true {w : World} {bk m : Nat} {R : Nat → List Od} {p p' : Nat → Option Addr} {c c' : Nat → Nat} {O : Nat → Nat} (h : BkAt w bk R p c O) (h' : RbAt w m R p' c') :
    Calls Try.prog 16 #[.pointer (some ⟨bk, 0, none⟩), .pointer (some ⟨m, 0, none⟩)] w (EqPost true w) := by
  have hfew := h'.few
  have HB := Lib.hid h
  have HR := Lib.hid h'
  clear h h'
  go_enter Try.func16, Try.ntmps16
  go_upto_region 1 with fail
  refine wp_region_vals (by kernel_rfl) (by kernel_rfl) (by kernel_rfl) (by kernel_rfl) (Kept (fun _ => False) w) killSm
    (fun j => (([.val (.pointer (some ⟨bk, 0, none⟩)), .fr 31 5 (R 0).length ((R 0).flatMap odC), .val (.pointer (some ⟨m, 0, none⟩)), .val (.pointer (some ⟨m, 0, none⟩)), .val (.pointer (some ⟨m, 0, none⟩)), .val (.slice (p' 0) (R 0).length (c' 0)), .val (.bool true), .val (.bool true), .val (.pointer (some ⟨bk, 0, none⟩)), .fr 31 5 (R 1).length ((R 1).flatMap odC), .val (.pointer (some ⟨m, 0, none⟩)), .val (.pointer (some ⟨m, 0, none⟩)), .val (.pointer (some ⟨m, 1, none⟩)), .val (.slice (p' 1) (R 1).length (c' 1)), .val (.bool true), .val (.bool true), .val (.bool true), .val (.pointer (some ⟨bk, 0, none⟩)), .val (.int .i64 (((R 0).length + (R 1).length : Nat) : Int)), .val (.pointer (some ⟨m, 0, none⟩)), .val (.pointer (some ⟨m, 0, none⟩)), .val (.pointer (some ⟨m, 0, none⟩)), .val (.slice (p' 0) (R 0).length (c' 0)), .val (.int .i64 (R 0).length), .val (.pointer (some ⟨m, 0, none⟩)), .val (.pointer (some ⟨m, 0, none⟩)), .val (.pointer (some ⟨m, 1, none⟩)), .val (.slice (p' 1) (R 1).length (c' 1)), .val (.int .i64 (R 1).length), .val (.int .i64 (((R 0).length : Int) + ((R 1).length : Int))), .val (.bool true), .val (.bool true), .val (.bool true)] : List Kd).getD j .any).is w)
    (fun _ _ => True) ((Kept.refl _ w).drew) (fun _ => trivial) ?_ ?_
  · refine ⟨?_, ?_, ?_, ?_, ?_, ?_, ?_, ?_, ?_, ?_, ?_, ?_, ?_, ?_, ?_, ?_, ?_, ?_, ?_, ?_, ?_, ?_, ?_, ?_, ?_, ?_, ?_, ?_, ?_, ?_, ?_, ?_, ?_, trivial⟩
    all_goals (intro a w' hC hS hV hF)
    · refine ⟨rfl, fun K hK => ?_⟩
      have e1 : _ = Value.pointer (some ⟨bk, 0, none⟩) := slotE (hF 0 (by kernel_rfl))
      clear hV hF hS
      go_simp
      exact hK _ _ rfl hC (fun _ _ _ _ _ h => h) (fun _ _ _ h => h)
    · refine ⟨rfl, fun K hK => ?_⟩
      obtain ⟨_, rfl, e0⟩ := hV 0 (by kernel_rfl) (by kernel_rfl)
      have e0 := slotE (e0 _ rfl)
      have hB := HB.out.keptF hC
      clear hV hF hS
      go_simp
      refine (row_any hB 1 0 (by decide) (by rfl)).mono ?_
      rintro e w5 ⟨p5, rfl, hF5⟩
      exact hK _ _ ⟨p5, _, rfl, hF5.from hC⟩ (hC.trans hF5.k) (fun j u hj hk hr h => Kd.mono hF5.k (Kd.rest (kills := killSm) rfl (by kernel_rfl) hj hk hr) h) (fun _ _ _ h => h)
    · refine ⟨rfl, fun K hK => ?_⟩
      have e1 : _ = Value.pointer (some ⟨m, 0, none⟩) := slotE (hF 1 (by kernel_rfl))
      clear hV hF hS
      go_simp
      exact hK _ _ rfl hC (fun _ _ _ _ _ h => h) (fun _ _ _ h => h)
    · refine ⟨rfl, fun K hK => ?_⟩
      obtain ⟨_, rfl, e0⟩ := hV 2 (by kernel_rfl) (by kernel_rfl)
      have e0 := slotE (e0 _ rfl)
      clear hV hF hS
      go_simp
      exact hK _ _ rfl hC (fun _ _ _ _ _ h => h) (fun _ _ _ h => h)
    · refine ⟨rfl, fun K hK => ?_⟩
      obtain ⟨_, rfl, e0⟩ := hV 3 (by kernel_rfl) (by kernel_rfl)
      have e0 := slotE (e0 _ rfl)
      clear hV hF hS
      go_simp
      exact hK _ _ rfl hC (fun _ _ _ _ _ h => h) (fun _ _ _ h => h)
    · refine ⟨rfl, fun K hK => ?_⟩
      obtain ⟨_, rfl, e0⟩ := hV 4 (by kernel_rfl) (by kernel_rfl)
      have e0 := slotE (e0 _ rfl)
      have hrow := (HR.out.keptF hC).row (k := 0) (by decide)
      clear hV hF hS
      go_simp
      exact hK _ _ rfl hC (fun _ _ _ _ _ h => h) (fun _ _ _ h => h)
    · refine ⟨rfl, fun K hK => ?_⟩
      obtain ⟨_, ⟨p5, c5, rfl, hF5⟩, e0⟩ := hV 1 (by kernel_rfl) (by kernel_rfl)
      have e0 := slotE (e0 _ rfl)
      obtain ⟨_, rfl, e1⟩ := hV 5 (by kernel_rfl) (by kernel_rfl)
      have e1 := slotE (e1 _ rfl)
      have hsb := (HR.out.keptF hC).sl 0 (by decide)
      clear hV hF hS
      have Hsa := Lib.hid hF5.sl
      have Hsb := Lib.hid hsb
      clear hF5 hsb
      go_simp
      refine (row_true rfl Hsa.out Hsb.out (by omega)).mono ?_
      rintro e w5 ⟨rfl, hk5⟩
      exact hK _ _ rfl (hC.trans hk5) (fun j u hj hk hr h => Kd.mono hk5 (Kd.rest (kills := killSm) rfl (by kernel_rfl) hj hk hr) h) (fun _ _ _ h => h)
    · refine ⟨rfl, fun K hK => ?_⟩
      obtain ⟨_, rfl, e0⟩ := hV 6 (by kernel_rfl) (by kernel_rfl)
      have e0 := slotE (e0 _ rfl)
      clear hV hF hS
      go_simp
      exact hK _ _ rfl hC (fun _ _ _ _ _ h => h) (fun _ _ _ h => h)
    · obtain ⟨_, rfl, eg⟩ := hV 7 (by kernel_rfl) (by kernel_rfl)
      refine ⟨wanted_of rfl rfl (eg _ rfl), fun K hK => ?_⟩
      clear eg
      have e1 : _ = Value.pointer (some ⟨bk, 0, none⟩) := slotE (hF 0 (by kernel_rfl))
      clear hV hF hS
      go_simp
      exact hK _ _ rfl hC (fun _ _ _ _ _ h => h) (fun _ _ _ h => h)
    · obtain ⟨_, rfl, eg⟩ := hV 7 (by kernel_rfl) (by kernel_rfl)
      refine ⟨wanted_of rfl rfl (eg _ rfl), fun K hK => ?_⟩
      clear eg
      obtain ⟨_, rfl, e0⟩ := hV 8 (by kernel_rfl) (by kernel_rfl)
      have e0 := slotE (e0 _ rfl)
      have hB := HB.out.keptF hC
      clear hV hF hS
      go_simp
      refine (row_any hB 2 1 (by decide) (by rfl)).mono ?_
      rintro e w5 ⟨p5, rfl, hF5⟩
      exact hK _ _ ⟨p5, _, rfl, hF5.from hC⟩ (hC.trans hF5.k) (fun j u hj hk hr h => Kd.mono hF5.k (Kd.rest (kills := killSm) rfl (by kernel_rfl) hj hk hr) h) (fun _ _ _ h => h)
    · obtain ⟨_, rfl, eg⟩ := hV 7 (by kernel_rfl) (by kernel_rfl)
      refine ⟨wanted_of rfl rfl (eg _ rfl), fun K hK => ?_⟩
      clear eg
      have e1 : _ = Value.pointer (some ⟨m, 0, none⟩) := slotE (hF 1 (by kernel_rfl))
      clear hV hF hS
      go_simp
      exact hK _ _ rfl hC (fun _ _ _ _ _ h => h) (fun _ _ _ h => h)
    · obtain ⟨_, rfl, eg⟩ := hV 7 (by kernel_rfl) (by kernel_rfl)
      refine ⟨wanted_of rfl rfl (eg _ rfl), fun K hK => ?_⟩
      clear eg
      obtain ⟨_, rfl, e0⟩ := hV 10 (by kernel_rfl) (by kernel_rfl)
      have e0 := slotE (e0 _ rfl)
      clear hV hF hS
      go_simp
      exact hK _ _ rfl hC (fun _ _ _ _ _ h => h) (fun _ _ _ h => h)
    · obtain ⟨_, rfl, eg⟩ := hV 7 (by kernel_rfl) (by kernel_rfl)
      refine ⟨wanted_of rfl rfl (eg _ rfl), fun K hK => ?_⟩
      clear eg
      obtain ⟨_, rfl, e0⟩ := hV 11 (by kernel_rfl) (by kernel_rfl)
      have e0 := slotE (e0 _ rfl)
      clear hV hF hS
      go_simp
      exact hK _ _ rfl hC (fun _ _ _ _ _ h => h) (fun _ _ _ h => h)
    · obtain ⟨_, rfl, eg⟩ := hV 7 (by kernel_rfl) (by kernel_rfl)
      refine ⟨wanted_of rfl rfl (eg _ rfl), fun K hK => ?_⟩
      clear eg
      obtain ⟨_, rfl, e0⟩ := hV 12 (by kernel_rfl) (by kernel_rfl)
      have e0 := slotE (e0 _ rfl)
      have hrow := (HR.out.keptF hC).row (k := 1) (by decide)
      clear hV hF hS
      go_simp
      exact hK _ _ rfl hC (fun _ _ _ _ _ h => h) (fun _ _ _ h => h)
    · obtain ⟨_, rfl, eg⟩ := hV 7 (by kernel_rfl) (by kernel_rfl)
      refine ⟨wanted_of rfl rfl (eg _ rfl), fun K hK => ?_⟩
      clear eg
      obtain ⟨_, ⟨p5, c5, rfl, hF5⟩, e0⟩ := hV 9 (by kernel_rfl) (by kernel_rfl)
      have e0 := slotE (e0 _ rfl)
      obtain ⟨_, rfl, e1⟩ := hV 13 (by kernel_rfl) (by kernel_rfl)
      have e1 := slotE (e1 _ rfl)
      have hsb := (HR.out.keptF hC).sl 1 (by decide)
      clear hV hF hS
      have Hsa := Lib.hid hF5.sl
      have Hsb := Lib.hid hsb
      clear hF5 hsb
      go_simp
      refine (row_true rfl Hsa.out Hsb.out (by omega)).mono ?_
      rintro e w5 ⟨rfl, hk5⟩
      exact hK _ _ rfl (hC.trans hk5) (fun j u hj hk hr h => Kd.mono hk5 (Kd.rest (kills := killSm) rfl (by kernel_rfl) hj hk hr) h) (fun _ _ _ h => h)
    · refine ⟨rfl, fun K hK => ?_⟩
      obtain ⟨_, rfl, e0⟩ := hV 7 (by kernel_rfl) (by kernel_rfl)
      have e0 := slotE (e0 _ rfl)
      obtain ⟨_, rfl, e1⟩ := hV 14 (by kernel_rfl) (by kernel_rfl)
      have e1 := slotE (e1 _ rfl)
      clear hV hF hS
      go_simp
      exact hK _ _ rfl hC (fun _ _ _ _ _ h => h) (fun _ _ _ h => h)
    · refine ⟨rfl, fun K hK => ?_⟩
      obtain ⟨_, rfl, e0⟩ := hV 15 (by kernel_rfl) (by kernel_rfl)
      have e0 := slotE (e0 _ rfl)
      clear hV hF hS
      go_simp
      exact hK _ _ rfl hC (fun _ _ _ _ _ h => h) (fun _ _ _ h => h)
    · obtain ⟨_, rfl, eg⟩ := hV 16 (by kernel_rfl) (by kernel_rfl)
      refine ⟨wanted_of rfl rfl (eg _ rfl), fun K hK => ?_⟩
      clear eg
      have e1 : _ = Value.pointer (some ⟨bk, 0, none⟩) := slotE (hF 0 (by kernel_rfl))
      clear hV hF hS
      go_simp
      exact hK _ _ rfl hC (fun _ _ _ _ _ h => h) (fun _ _ _ h => h)
    · obtain ⟨_, rfl, eg⟩ := hV 16 (by kernel_rfl) (by kernel_rfl)
      refine ⟨wanted_of rfl rfl (eg _ rfl), fun K hK => ?_⟩
      clear eg
      obtain ⟨_, rfl, e0⟩ := hV 17 (by kernel_rfl) (by kernel_rfl)
      have e0 := slotE (e0 _ rfl)
      have hB := HB.out.keptF hC
      clear hV hF hS
      go_simp
      refine (len_any hB).mono ?_
      rintro e w5 ⟨rfl, q5, rfl⟩
      exact hK _ _ rfl (hC.drewN q5) (fun j u hj hk hr h => Kd.mono ((Kept.refl _ _).drewN q5) (Kd.rest (kills := killSm) rfl (by kernel_rfl) hj hk hr) h) (fun _ _ _ h => h)
    · obtain ⟨_, rfl, eg⟩ := hV 16 (by kernel_rfl) (by kernel_rfl)
      refine ⟨wanted_of rfl rfl (eg _ rfl), fun K hK => ?_⟩
      clear eg
      have e1 : _ = Value.pointer (some ⟨m, 0, none⟩) := slotE (hF 1 (by kernel_rfl))
      clear hV hF hS
      go_simp
      exact hK _ _ rfl hC (fun _ _ _ _ _ h => h) (fun _ _ _ h => h)
    · obtain ⟨_, rfl, eg⟩ := hV 16 (by kernel_rfl) (by kernel_rfl)
      refine ⟨wanted_of rfl rfl (eg _ rfl), fun K hK => ?_⟩
      clear eg
      obtain ⟨_, rfl, e0⟩ := hV 19 (by kernel_rfl) (by kernel_rfl)
      have e0 := slotE (e0 _ rfl)
      clear hV hF hS
      go_simp
      exact hK _ _ rfl hC (fun _ _ _ _ _ h => h) (fun _ _ _ h => h)
    · obtain ⟨_, rfl, eg⟩ := hV 16 (by kernel_rfl) (by kernel_rfl)
      refine ⟨wanted_of rfl rfl (eg _ rfl), fun K hK => ?_⟩
      clear eg
      obtain ⟨_, rfl, e0⟩ := hV 20 (by kernel_rfl) (by kernel_rfl)
      have e0 := slotE (e0 _ rfl)
      clear hV hF hS
      go_simp
      exact hK _ _ rfl hC (fun _ _ _ _ _ h => h) (fun _ _ _ h => h)
    · obtain ⟨_, rfl, eg⟩ := hV 16 (by kernel_rfl) (by kernel_rfl)
      refine ⟨wanted_of rfl rfl (eg _ rfl), fun K hK => ?_⟩
      clear eg
      obtain ⟨_, rfl, e0⟩ := hV 21 (by kernel_rfl) (by kernel_rfl)
      have e0 := slotE (e0 _ rfl)
      have hrow := (HR.out.keptF hC).row (k := 0) (by decide)
      clear hV hF hS
      go_simp
      exact hK _ _ rfl hC (fun _ _ _ _ _ h => h) (fun _ _ _ h => h)
    · obtain ⟨_, rfl, eg⟩ := hV 16 (by kernel_rfl) (by kernel_rfl)
      refine ⟨wanted_of rfl rfl (eg _ rfl), fun K hK => ?_⟩
      clear eg
      obtain ⟨_, rfl, e0⟩ := hV 22 (by kernel_rfl) (by kernel_rfl)
      have e0 := slotE (e0 _ rfl)
      clear hV hF hS
      go_simp
      exact hK _ _ rfl hC (fun _ _ _ _ _ h => h) (fun _ _ _ h => h)
    · obtain ⟨_, rfl, eg⟩ := hV 16 (by kernel_rfl) (by kernel_rfl)
      refine ⟨wanted_of rfl rfl (eg _ rfl), fun K hK => ?_⟩
      clear eg
      have e1 : _ = Value.pointer (some ⟨m, 0, none⟩) := slotE (hF 1 (by kernel_rfl))
      clear hV hF hS
      go_simp
      exact hK _ _ rfl hC (fun _ _ _ _ _ h => h) (fun _ _ _ h => h)
    · obtain ⟨_, rfl, eg⟩ := hV 16 (by kernel_rfl) (by kernel_rfl)
      refine ⟨wanted_of rfl rfl (eg _ rfl), fun K hK => ?_⟩
      clear eg
      obtain ⟨_, rfl, e0⟩ := hV 24 (by kernel_rfl) (by kernel_rfl)
      have e0 := slotE (e0 _ rfl)
      clear hV hF hS
      go_simp
      exact hK _ _ rfl hC (fun _ _ _ _ _ h => h) (fun _ _ _ h => h)
    · obtain ⟨_, rfl, eg⟩ := hV 16 (by kernel_rfl) (by kernel_rfl)
      refine ⟨wanted_of rfl rfl (eg _ rfl), fun K hK => ?_⟩
      clear eg
      obtain ⟨_, rfl, e0⟩ := hV 25 (by kernel_rfl) (by kernel_rfl)
      have e0 := slotE (e0 _ rfl)
      clear hV hF hS
      go_simp
      exact hK _ _ rfl hC (fun _ _ _ _ _ h => h) (fun _ _ _ h => h)
    · obtain ⟨_, rfl, eg⟩ := hV 16 (by kernel_rfl) (by kernel_rfl)
      refine ⟨wanted_of rfl rfl (eg _ rfl), fun K hK => ?_⟩
      clear eg
      obtain ⟨_, rfl, e0⟩ := hV 26 (by kernel_rfl) (by kernel_rfl)
      have e0 := slotE (e0 _ rfl)
      have hrow := (HR.out.keptF hC).row (k := 1) (by decide)
      clear hV hF hS
      go_simp
      exact hK _ _ rfl hC (fun _ _ _ _ _ h => h) (fun _ _ _ h => h)
    · obtain ⟨_, rfl, eg⟩ := hV 16 (by kernel_rfl) (by kernel_rfl)
      refine ⟨wanted_of rfl rfl (eg _ rfl), fun K hK => ?_⟩
      clear eg
      obtain ⟨_, rfl, e0⟩ := hV 27 (by kernel_rfl) (by kernel_rfl)
      have e0 := slotE (e0 _ rfl)
      clear hV hF hS
      go_simp
      exact hK _ _ rfl hC (fun _ _ _ _ _ h => h) (fun _ _ _ h => h)
    · obtain ⟨_, rfl, eg⟩ := hV 16 (by kernel_rfl) (by kernel_rfl)
      refine ⟨wanted_of rfl rfl (eg _ rfl), fun K hK => ?_⟩
      clear eg
      obtain ⟨_, rfl, e0⟩ := hV 23 (by kernel_rfl) (by kernel_rfl)
      have e0 := slotE (e0 _ rfl)
      obtain ⟨_, rfl, e1⟩ := hV 28 (by kernel_rfl) (by kernel_rfl)
      have e1 := slotE (e1 _ rfl)
      have s1 : IntKind.i64.wrap (((R 0).length : Int) + ((R 1).length : Int)) = ((R 0).length : Int) + ((R 1).length : Int) := IntWalk.i64_in _ (by omega)
      clear hV hF hS
      go_simp
      exact hK _ _ rfl hC (fun _ _ _ _ _ h => h) (fun _ _ _ h => h)
    · obtain ⟨_, rfl, eg⟩ := hV 16 (by kernel_rfl) (by kernel_rfl)
      refine ⟨wanted_of rfl rfl (eg _ rfl), fun K hK => ?_⟩
      clear eg
      obtain ⟨_, rfl, e0⟩ := hV 18 (by kernel_rfl) (by kernel_rfl)
      have e0 := slotE (e0 _ rfl)
      obtain ⟨_, rfl, e1⟩ := hV 29 (by kernel_rfl) (by kernel_rfl)
      have e1 := slotE (e1 _ rfl)
      clear hV hF hS
      go_simp
      exact hK _ _ rfl hC (fun _ _ _ _ _ h => h) (fun _ _ _ h => h)
    · refine ⟨rfl, fun K hK => ?_⟩
      obtain ⟨_, rfl, e0⟩ := hV 16 (by kernel_rfl) (by kernel_rfl)
      have e0 := slotE (e0 _ rfl)
      obtain ⟨_, rfl, e1⟩ := hV 30 (by kernel_rfl) (by kernel_rfl)
      have e1 := slotE (e1 _ rfl)
      clear hV hF hS
      go_simp
      exact hK _ _ rfl hC (fun _ _ _ _ _ h => h) (fun _ _ _ h => h)
    · refine ⟨rfl, fun K hK => ?_⟩
      obtain ⟨_, rfl, e0⟩ := hV 31 (by kernel_rfl) (by kernel_rfl)
      have e0 := slotE (e0 _ rfl)
      clear hV hF hS
      go_simp
      exact hK _ _ rfl hC (fun _ _ _ _ _ h => h) (fun _ _ _ h => h)
  · intro vs wx hl hC hV
    replace hl : vs.length = 33 := hl
    obtain ⟨v0, vs, rfl, hl0⟩ := cons_of hl
    obtain ⟨v1, vs, rfl, hl1⟩ := cons_of hl0
    obtain ⟨v2, vs, rfl, hl2⟩ := cons_of hl1
    obtain ⟨v3, vs, rfl, hl3⟩ := cons_of hl2
    obtain ⟨v4, vs, rfl, hl4⟩ := cons_of hl3
    obtain ⟨v5, vs, rfl, hl5⟩ := cons_of hl4
    obtain ⟨v6, vs, rfl, hl6⟩ := cons_of hl5
    obtain ⟨v7, vs, rfl, hl7⟩ := cons_of hl6
    obtain ⟨v8, vs, rfl, hl8⟩ := cons_of hl7
    obtain ⟨v9, vs, rfl, hl9⟩ := cons_of hl8
    obtain ⟨v10, vs, rfl, hl10⟩ := cons_of hl9
    obtain ⟨v11, vs, rfl, hl11⟩ := cons_of hl10
    obtain ⟨v12, vs, rfl, hl12⟩ := cons_of hl11
    obtain ⟨v13, vs, rfl, hl13⟩ := cons_of hl12
    obtain ⟨v14, vs, rfl, hl14⟩ := cons_of hl13
    obtain ⟨v15, vs, rfl, hl15⟩ := cons_of hl14
    obtain ⟨v16, vs, rfl, hl16⟩ := cons_of hl15
    obtain ⟨v17, vs, rfl, hl17⟩ := cons_of hl16
    obtain ⟨v18, vs, rfl, hl18⟩ := cons_of hl17
    obtain ⟨v19, vs, rfl, hl19⟩ := cons_of hl18
    obtain ⟨v20, vs, rfl, hl20⟩ := cons_of hl19
    obtain ⟨v21, vs, rfl, hl21⟩ := cons_of hl20
    obtain ⟨v22, vs, rfl, hl22⟩ := cons_of hl21
    obtain ⟨v23, vs, rfl, hl23⟩ := cons_of hl22
    obtain ⟨v24, vs, rfl, hl24⟩ := cons_of hl23
    obtain ⟨v25, vs, rfl, hl25⟩ := cons_of hl24
    obtain ⟨v26, vs, rfl, hl26⟩ := cons_of hl25
    obtain ⟨v27, vs, rfl, hl27⟩ := cons_of hl26
    obtain ⟨v28, vs, rfl, hl28⟩ := cons_of hl27
    obtain ⟨v29, vs, rfl, hl29⟩ := cons_of hl28
    obtain ⟨v30, vs, rfl, hl30⟩ := cons_of hl29
    obtain ⟨v31, vs, rfl, hl31⟩ := cons_of hl30
    obtain ⟨v32, vs, rfl, hl32⟩ := cons_of hl31
    obtain rfl := nil_of hl32
    obtain rfl := hV 32 (by decide) (by decide)
    clear hV
    simp only [dstsOf, List.map_cons, List.map_nil, puts, Act.put, List.setIfInBounds_toArray, List.set_cons_succ, List.set_cons_zero, Exit.then]
    go_wp2
    go_ret
    exact ⟨rfl, hC⟩
end Go.Proofs.Ytopfgcnehdjjpaa
