/- The walk of 'ComplexSides'. -/
import Derived.Test.YtopfgcnehdjjpaaCs
import Derived.Test.YtopfgcnehdjjpaaKw
import Derived.IntWalk
namespace Go.Proofs.Ytopfgcnehdjjpaa
open Go.RowKit

def odS (s : Int) (nets : Nat → Int) (i : Nat) : Od := ⟨(i : Int) + 1, 0, s, nets i, 1⟩
/-- After i orders of a side have come. -/
def SdRel (a : Nat) (_ : Int) (k : Nat) (_ : Nat → Int) (len : Nat) (O1 : Nat → Nat) (w1 : World) (iv : Value) (wr : World) : Prop :=
  ∃ (i : Nat) (R : Nat → List Od) (p : Nat → Option Addr) (c : Nat → Nat) (O : Nat → Nat), i ≤ len ∧ iv = .int .i64 i ∧ BkAt wr a R p c O ∧ Good R ∧ (R k).length = i ∧ R (1 - k) = [] ∧ (∀ j, j < 2 → ∀ x ∈ R j, x.id ≤ i) ∧ Grows3 O1 O w1 wr
/-- What the rows are looked at for. -/
def pairOK (sell : Bool) (x y : Od) : Prop := (y.net = x.net → x.id < y.id) ∧ (y.net ≠ x.net → (decide (x.net < y.net) = sell))
theorem pair_of {s : Int} {xs : List Od} (h : Srt s xs) (hs : s = 1 ∨ s = 2) {j : Nat} {x y : Od} (hx : xs[j]? = some x) (hy : xs[j + 1]? = some y) : pairOK (decide (s = 2)) x y := by
  obtain ⟨hj, rfl⟩ := List.getElem?_eq_some_iff.1 hx
  obtain ⟨hj1, rfl⟩ := List.getElem?_eq_some_iff.1 hy
  have hc := (List.pairwise_iff_getElem.1 h.1) j (j + 1) hj hj1 (by omega)
  have hside := h.2 xs[j] (List.getElem_mem hj)
  generalize xs[j] = x at hc hside ⊢
  generalize xs[j + 1] = y at hc ⊢
  rcases hs with rfl | rfl
  · rw [cmp_buy hside] at hc
    refine ⟨fun h => by omega, fun h => ?_⟩
    have : ¬ x.net < y.net := by omega
    simp [this]
  · rw [cmp_sell (by omega)] at hc
    refine ⟨fun h => by omega, fun h => ?_⟩
    have : x.net < y.net := by omega
    simp [this]

def IntsAt (w : World) (a0 : Option Addr) (b off len : Nat) (nets : Nat → Int) : Prop :=
  (0 < len → a0 = some ⟨b, off, none⟩ ∧ b < w.heap.size) ∧ ∀ i, i < len → w.cell? ⟨b, off + i, none⟩ = some (.int .i16 (nets i)) ∧ -32768 ≤ nets i ∧ nets i ≤ 32767
def LkRel (n : Nat) (w : World) (iv : Value) (wr : World) : Prop := ∃ i : Nat, 1 ≤ i ∧ (i ≤ n ∨ i = 1) ∧ iv = .int .i64 i ∧ Kept (fun _ => False) w wr

set_option maxHeartbeats 8000000 in
set_option maxRecDepth 100000 in
theorem sides_buy (a0 : Option Addr) (b off len cap : Nat) (nets : Nat → Int) (w : World) (ha : IntsAt w a0 b off len nets) (hlen : len ≤ 60) :
    Calls Try.prog 6 #[.slice a0 len cap, .bool false] w (FinPost w) := by
  have Ha := Lib.hid ha
  clear ha
  go_enter Try.func6, Try.ntmps6
  go_wp2_with fail
  refine (known_any w).mono ?_
  rintro e w1 ⟨rfl, k1⟩
  go_wp2_with fail
  refine (new_any w1).mono ?_
  rintro e w2 ⟨a, O, rfl, h2, hk, hO⟩
  have HO := Lib.hid hO
  have hK0 : Kept (fun _ => False) w w2 := k1.trans hk
  have HK0 := Lib.hid hK0
  clear hO hK0
  go_wp2_with fail
  have hstart : SdRel a 1 0 nets len O w2 (.int .i64 0) w2 := ⟨0, _, _, _, O, Nat.zero_le _, rfl, h2, ⟨Srt.nil _, Srt.nil _⟩, rfl, rfl, (fun k _ x hx => by cases hx), Grows3.refl _ _⟩
  clear h2
  go_loopw [7] (fun iv wr => SdRel a 1 0 nets len O w2 iv wr) (fun iv _ => len - (intOf iv).toNat)
  case atStart => exact hstart
  case round =>
    obtain ⟨i, R, p, c, O3, hi, rfl, hB, hG, hrk, hro, hids, hg⟩ := hrel
    clear hstart
    have Hrk := Lib.hid hrk
    have Hro := Lib.hid hro
    have HG := Lib.hid hG
    have Hids := Lib.hid hids
    clear hrk hro hG hids
    by_cases hlt : i < len
    · obtain ⟨rfl, hb⟩ := Ha.out.1 (by omega)
      obtain ⟨hc0, n1, n2⟩ := Ha.out.2 i hlt
      have hbw := (HK0.out.trans' hg.kept (fun j hj hG => hG (HO.out j (Nat.lt_of_lt_of_le hj k1.size)))).block b hb (fun h => h)
      have hcell : wr.cell? ⟨b, off + i, none⟩ = some (.int .i16 (nets i)) := by rw [World.cell?_of_block (a := ⟨b, off + i, none⟩) (w := w) hbw]; exact hc0
      have hright : Right (odS 1 nets i) := ⟨by show 1 ≤ (i : Int) + 1; omega, by show (1 : Int) = 1 ∨ (1 : Int) = 2; decide, by show (1 : Int) ≤ 1; decide, by show (1 : Int) ≤ 1000000; decide, by show -16000000 ≤ nets i; omega, by show nets i ≤ 16000000; omega⟩
      have hid : ∀ k, k < 2 → ∀ x ∈ R k, x.id ≠ (odS 1 nets i).id := fun k hk x hx e => by
        have := Hids.out k hk x hx
        rw [e] at this
        exact absurd this (by show ¬ (i : Int) + 1 ≤ i; omega)
      have hl : (R 0).length + (R 1).length < 256 := by
        have h1 := Hrk.out
        have h2 : (R 1).length = 0 := by have := Hro.out; rw [show R 1 = [] from this]; rfl
        omega
      have hside : (odS 1 nets i).side = 1 ∨ (odS 1 nets i).side = 2 := hright.side
      have Hr := Lib.hid hright
      have Hid1 := Lib.hid hid
      have Hside := Lib.hid hside
      have hwr : IntKind.i64.wrap (nets i) = nets i := IntWalk.i64_in _ (by omega)
      have Hn : Hid (nets i = nets i) := rfl
      clear hright hid hside hbw hc0
      go_wp2_with fail
      refine (insert_ok' hB (odS 1 nets i) Hr.out (findR_none Hid1.out) hl (splits_of (odS 1 nets i) (HG.out.row _ Hside.out)) rfl _ _ _ _ _ rfl rfl rfl rfl rfl).mono ?_
      rintro e w3 ⟨p3, c3, O4, rfl, h3, g3⟩
      have hpos := (splits_of (odS 1 nets i) (HG.out.row _ Hside.out)).1
      have HN : Hid (SdRel a 1 0 nets len O w2 (.int .i64 ((i : Int) + 1)) w3) := ⟨i + 1, _, p3, c3, O4, by omega, by go_num, h3, HG.out.ins _ Hside.out Hid1.out, by
          rw [show sideN (odS 1 nets i) = 0 from rfl] at hpos ⊢
          rw [upd_same, insAt_len _ hpos, Hrk.out], by
          rw [show sideN (odS 1 nets i) = 0 from rfl, upd_other _ _ (by decide)]; exact Hro.out, fun k hk x hx => by
          rcases ins_mem hx with rfl | hx
          · show (i : Int) + 1 ≤ ((i + 1 : Nat) : Int); omega
          · have := Hids.out k hk x hx; omega, hg.trans g3⟩
      clear hpos hcell hwr
      go_wp2
      exact ⟨HN.out, by simp [intOf]; omega⟩
    · obtain rfl : i = len := by omega
      have hKr := HK0.out.trans' hg.kept (fun j hj hG => hG (HO.out j (Nat.lt_of_lt_of_le hj k1.size)))
      go_wp2_with fail
      refine (row_any hB 1 0 (by decide) (by decide)).mono ?_
      rintro e w3 ⟨p3, rfl, hf3⟩
      have h3 := hB.keptF hf3.k
      rw [Hrk.out] at hf3 ⊢
      go_wp2_with fail
      refine (row_any h3 2 1 (by decide) (by decide)).mono ?_
      rintro e w4 ⟨p4, rfl, hf4⟩
      rw [show R 1 = [] from Hro.out]
      have hf5 := (hf3.mono hf4.k)
      have hk5 := hf4.k
      have K5 : Kept (fun _ => False) w w4 := (hKr.trans hf3.k).trans hf4.k
      clear hf3 hf4 hB h3 hg hKr
      go_wp2_with fail
      have hstart2 : LkRel i w4 (.int .i64 1) w4 := ⟨1, Nat.le_refl _, .inr rfl, rfl, Kept.refl _ _⟩
      go_loopw [9] (fun iv wr => LkRel i w4 iv wr) (fun iv _ => i - (intOf iv).toNat)
      case atStart => exact hstart2
      case round =>
        obtain ⟨m, hm1, hm2, rfl, hkr⟩ := hrel
        clear hstart2
        by_cases hlt2 : m < i
        · obtain ⟨j, hj⟩ : ∃ j, m = j + 1 := ⟨m - 1, by omega⟩
          subst hj
          have hsl := (hf5.mono hkr).sl
          obtain ⟨t, o, rfl⟩ := sl_some hsl (by omega)
          have hlen' : (R 0).length = i := Hrk.out
          have hx : (R 0)[j]? = some ((R 0)[j]'(by omega)) := List.getElem?_eq_getElem (by omega)
          have hy : (R 0)[j + 1]? = some ((R 0)[j + 1]'(by omega)) := List.getElem?_eq_getElem (by omega)
          have hp := pair_of (s := 1) HG.out.buy (by decide) hx hy
          obtain ⟨x0, x1, x2, x3, x4⟩ := od_cells hsl hlen'.symm hx
          obtain ⟨y0, y1, y2, y3, y4⟩ := od_cells hsl hlen'.symm hy
          generalize (R 0)[j]'(by omega) = x at hp x0 x1 x2 x3 x4
          generalize (R 0)[j + 1]'(by omega) = y at hp y0 y1 y2 y3 y4
          obtain ⟨hp1, hp2⟩ := hp
          have hji : (j : Int) < (i : Int) := by omega
          have hji2 : (j : Int) + 1 < (i : Int) := by omega
          clear hsl hlen' hx hy x1 x2 x4 y1 y2 y4
          by_cases he : y.net = x.net
          · have b1 : (y.net == x.net) = true := beq_iff_eq.2 he
            have b2 : decide (y.id < x.id) = false := decide_eq_false (by have := hp1 he; omega)
            have b3 : (y.net != x.net) = false := by simp [he]
            have hkF := hkr
            clear hp1 hp2 he
            generalize y.net = yn at *
            go_wp2_with fail
            go_quiet (fail)
            go_wp2
            exact ⟨⟨j + 1 + 1, by omega, .inl (by omega), by go_num, hkF.drewN _⟩, by simp [intOf]; omega⟩
          · have b1 : (y.net == x.net) = false := beq_eq_false_iff_ne.2 he
            have b3 : (y.net != x.net) = true := by simpa using he
            have b4 : decide (x.net < y.net) = false := by have := hp2 he; simpa using this
            have hkF := hkr
            clear hp1 hp2 he
            go_wp2_with fail
            go_quiet (fail)
            go_wp2
            exact ⟨⟨j + 1 + 1, by omega, .inl (by omega), by go_num, hkF.drewN _⟩, by simp [intOf]; omega⟩
        · go_wp2
          go_ret
          exact ⟨rfl, K5.trans hkr⟩

set_option maxHeartbeats 8000000 in
set_option maxRecDepth 100000 in
theorem sides_sell (a0 : Option Addr) (b off len cap : Nat) (nets : Nat → Int) (w : World) (ha : IntsAt w a0 b off len nets) (hlen : len ≤ 60) :
    Calls Try.prog 6 #[.slice a0 len cap, .bool true] w (FinPost w) := by
  have Ha := Lib.hid ha
  clear ha
  go_enter Try.func6, Try.ntmps6
  go_wp2_with fail
  refine (known_any w).mono ?_
  rintro e w1 ⟨rfl, k1⟩
  go_wp2_with fail
  refine (new_any w1).mono ?_
  rintro e w2 ⟨a, O, rfl, h2, hk, hO⟩
  have HO := Lib.hid hO
  have hK0 : Kept (fun _ => False) w w2 := k1.trans hk
  have HK0 := Lib.hid hK0
  clear hO hK0
  go_wp2_with fail
  have hstart : SdRel a 2 1 nets len O w2 (.int .i64 0) w2 := ⟨0, _, _, _, O, Nat.zero_le _, rfl, h2, ⟨Srt.nil _, Srt.nil _⟩, rfl, rfl, (fun k _ x hx => by cases hx), Grows3.refl _ _⟩
  clear h2
  go_loopw [7] (fun iv wr => SdRel a 2 1 nets len O w2 iv wr) (fun iv _ => len - (intOf iv).toNat)
  case atStart => exact hstart
  case round =>
    obtain ⟨i, R, p, c, O3, hi, rfl, hB, hG, hrk, hro, hids, hg⟩ := hrel
    clear hstart
    have Hrk := Lib.hid hrk
    have Hro := Lib.hid hro
    have HG := Lib.hid hG
    have Hids := Lib.hid hids
    clear hrk hro hG hids
    by_cases hlt : i < len
    · obtain ⟨rfl, hb⟩ := Ha.out.1 (by omega)
      obtain ⟨hc0, n1, n2⟩ := Ha.out.2 i hlt
      have hbw := (HK0.out.trans' hg.kept (fun j hj hG => hG (HO.out j (Nat.lt_of_lt_of_le hj k1.size)))).block b hb (fun h => h)
      have hcell : wr.cell? ⟨b, off + i, none⟩ = some (.int .i16 (nets i)) := by rw [World.cell?_of_block (a := ⟨b, off + i, none⟩) (w := w) hbw]; exact hc0
      have hright : Right (odS 2 nets i) := ⟨by show 1 ≤ (i : Int) + 1; omega, by show (2 : Int) = 1 ∨ (2 : Int) = 2; decide, by show (1 : Int) ≤ 1; decide, by show (1 : Int) ≤ 1000000; decide, by show -16000000 ≤ nets i; omega, by show nets i ≤ 16000000; omega⟩
      have hid : ∀ k, k < 2 → ∀ x ∈ R k, x.id ≠ (odS 2 nets i).id := fun k hk x hx e => by
        have := Hids.out k hk x hx
        rw [e] at this
        exact absurd this (by show ¬ (i : Int) + 1 ≤ i; omega)
      have hl : (R 0).length + (R 1).length < 256 := by
        have h1 := Hrk.out
        have h2 : (R 0).length = 0 := by have := Hro.out; rw [show R 0 = [] from this]; rfl
        omega
      have hside : (odS 2 nets i).side = 1 ∨ (odS 2 nets i).side = 2 := hright.side
      have Hr := Lib.hid hright
      have Hid1 := Lib.hid hid
      have Hside := Lib.hid hside
      have hwr : IntKind.i64.wrap (nets i) = nets i := IntWalk.i64_in _ (by omega)
      have Hn : Hid (nets i = nets i) := rfl
      clear hright hid hside hbw hc0
      go_wp2_with fail
      refine (insert_ok' hB (odS 2 nets i) Hr.out (findR_none Hid1.out) hl (splits_of (odS 2 nets i) (HG.out.row _ Hside.out)) rfl _ _ _ _ _ rfl rfl rfl rfl rfl).mono ?_
      rintro e w3 ⟨p3, c3, O4, rfl, h3, g3⟩
      have hpos := (splits_of (odS 2 nets i) (HG.out.row _ Hside.out)).1
      have HN : Hid (SdRel a 2 1 nets len O w2 (.int .i64 ((i : Int) + 1)) w3) := ⟨i + 1, _, p3, c3, O4, by omega, by go_num, h3, HG.out.ins _ Hside.out Hid1.out, by
          rw [show sideN (odS 2 nets i) = 1 from rfl] at hpos ⊢
          rw [upd_same, insAt_len _ hpos, Hrk.out], by
          rw [show sideN (odS 2 nets i) = 1 from rfl, upd_other _ _ (by decide)]; exact Hro.out, fun k hk x hx => by
          rcases ins_mem hx with rfl | hx
          · show (i : Int) + 1 ≤ ((i + 1 : Nat) : Int); omega
          · have := Hids.out k hk x hx; omega, hg.trans g3⟩
      clear hpos hcell hwr
      go_wp2
      exact ⟨HN.out, by simp [intOf]; omega⟩
    · obtain rfl : i = len := by omega
      have hKr := HK0.out.trans' hg.kept (fun j hj hG => hG (HO.out j (Nat.lt_of_lt_of_le hj k1.size)))
      go_wp2_with fail
      refine (row_any hB 2 1 (by decide) (by decide)).mono ?_
      rintro e w3 ⟨p3, rfl, hf3⟩
      have h3 := hB.keptF hf3.k
      rw [Hrk.out] at hf3 ⊢
      go_wp2_with fail
      refine (row_any h3 1 0 (by decide) (by decide)).mono ?_
      rintro e w4 ⟨p4, rfl, hf4⟩
      rw [show R 0 = [] from Hro.out]
      have hf5 := (hf3.mono hf4.k)
      have hk5 := hf4.k
      have K5 : Kept (fun _ => False) w w4 := (hKr.trans hf3.k).trans hf4.k
      clear hf3 hf4 hB h3 hg hKr
      go_wp2_with fail
      have hstart2 : LkRel i w4 (.int .i64 1) w4 := ⟨1, Nat.le_refl _, .inr rfl, rfl, Kept.refl _ _⟩
      go_loopw [9] (fun iv wr => LkRel i w4 iv wr) (fun iv _ => i - (intOf iv).toNat)
      case atStart => exact hstart2
      case round =>
        obtain ⟨m, hm1, hm2, rfl, hkr⟩ := hrel
        clear hstart2
        by_cases hlt2 : m < i
        · obtain ⟨j, hj⟩ : ∃ j, m = j + 1 := ⟨m - 1, by omega⟩
          subst hj
          have hsl := (hf5.mono hkr).sl
          obtain ⟨t, o, rfl⟩ := sl_some hsl (by omega)
          have hlen' : (R 1).length = i := Hrk.out
          have hx : (R 1)[j]? = some ((R 1)[j]'(by omega)) := List.getElem?_eq_getElem (by omega)
          have hy : (R 1)[j + 1]? = some ((R 1)[j + 1]'(by omega)) := List.getElem?_eq_getElem (by omega)
          have hp := pair_of (s := 2) HG.out.sell (by decide) hx hy
          obtain ⟨x0, x1, x2, x3, x4⟩ := od_cells hsl hlen'.symm hx
          obtain ⟨y0, y1, y2, y3, y4⟩ := od_cells hsl hlen'.symm hy
          generalize (R 1)[j]'(by omega) = x at hp x0 x1 x2 x3 x4
          generalize (R 1)[j + 1]'(by omega) = y at hp y0 y1 y2 y3 y4
          obtain ⟨hp1, hp2⟩ := hp
          have hji : (j : Int) < (i : Int) := by omega
          have hji2 : (j : Int) + 1 < (i : Int) := by omega
          clear hsl hlen' hx hy x1 x2 x4 y1 y2 y4
          by_cases he : y.net = x.net
          · have b1 : (y.net == x.net) = true := beq_iff_eq.2 he
            have b2 : decide (y.id < x.id) = false := decide_eq_false (by have := hp1 he; omega)
            have b3 : (y.net != x.net) = false := by simp [he]
            have hkF := hkr
            clear hp1 hp2 he
            generalize y.net = yn at *
            go_wp2_with fail
            go_quiet (fail)
            go_wp2
            exact ⟨⟨j + 1 + 1, by omega, .inl (by omega), by go_num, hkF.drewN _⟩, by simp [intOf]; omega⟩
          · have b1 : (y.net == x.net) = false := beq_eq_false_iff_ne.2 he
            have b3 : (y.net != x.net) = true := by simpa using he
            have b4 : decide (x.net < y.net) = true := by have := hp2 he; simpa using this
            have hkF := hkr
            clear hp1 hp2 he
            go_wp2_with fail
            go_quiet (fail)
            go_wp2
            exact ⟨⟨j + 1 + 1, by omega, .inl (by omega), by go_num, hkF.drewN _⟩, by simp [intOf]; omega⟩
        · go_wp2
          go_ret
          exact ⟨rfl, K5.trans hkr⟩

theorem sides_long (a : Option Addr) (len cap : Nat) (sell : Bool) (w : World) (h : 60 < len) (hm : len ≤ maxLen) : Calls Try.prog 6 #[.slice a len cap, .bool sell] w (FinPost w) := by
  unfold maxLen at hm
  go_enter Try.func6, Try.ntmps6
  go_wp2_with fail
  refine (known_any w).mono ?_
  rintro e w1 ⟨rfl, k1⟩
  go_wp2_with fail
  go_ret
  exact ⟨rfl, k1⟩
/-- What a slice of integers that came in holds: nothing; or a row of cap cells, the numbers zs. -/
def IsRow (k : IntKind) (w : World) (a : Option Addr) (len cap : Nat) (zs : List Int) : Prop :=
  (a = none ∧ len = 0 ∧ cap = 0 ∧ zs = []) ∨
  ∃ x, a = some x ∧ len ≤ cap ∧ cap ≤ maxLen ∧ zs.length = cap ∧ (∀ i, i < zs.length → w.cell? (x.add i) = some (.int k (zs.getD i 0))) ∧ ∀ n ∈ zs, (Lit.int k n).wf = true
theorem i16_bd {a : Int} (h : (Lit.int .i16 a).wf = true) : -32768 ≤ a ∧ a ≤ 32767 := by
  have h1 : IntKind.i16.min = -32768 := rfl
  have h2 : IntKind.i16.max = 32767 := rfl
  simp [Lit.wf] at h; omega
theorem sides_short (a0 : Option Addr) (b off len cap : Nat) (nets : Nat → Int) (sell : Bool) (w : World) (ha : IntsAt w a0 b off len nets) (hlen : len ≤ 60) : Calls Try.prog 6 #[.slice a0 len cap, .bool sell] w (FinPost w) := by
  cases sell
  · exact sides_buy a0 b off len cap nets w ha hlen
  · exact sides_sell a0 b off len cap nets w ha hlen
theorem sides_any (a0 : Option Addr) (len0 cap0 : Nat) (z0 : List Int) (sell : Bool) (w : World) (w0 : IsRow .i16 w a0 len0 cap0 z0) : Calls Try.prog 6 #[.slice a0 len0 cap0, .bool sell] w (FinPost w) := by
  rcases w0 with ⟨rfl, rfl, rfl, rfl⟩ | ⟨x, rfl, hl, hm, hz, hc, hwf⟩
  · exact sides_short none 0 0 0 0 (fun _ => 0) sell w ⟨fun h => by omega, fun i hi => by omega⟩ (by omega)
  · by_cases h60 : 60 < len0
    · exact sides_long _ _ _ sell w h60 (Nat.le_trans hl hm)
    · refine sides_short (some x) x.block x.off len0 cap0 (fun i => z0.getD i 0) sell w ⟨fun h0 => ?_, fun i hi => ?_⟩ (by omega)
      · obtain ⟨h1, h2⟩ := plain_of_cell (hc 0 (by omega))
        exact ⟨by rw [← h1], h2⟩
      · obtain ⟨h1, h2⟩ := plain_of_cell (hc 0 (by omega))
        have h3 := hc i (by omega)
        rw [h1] at h3
        refine ⟨by rw [← h3]; exact (congrArg w.cell? (addr_add _ _ _)).symm, i16_bd (hwf _ ?_)⟩
        show z0.getD i 0 ∈ z0
        rw [List.getD, List.getElem?_eq_getElem (by omega)]; exact List.getElem_mem _
end Go.Proofs.Ytopfgcnehdjjpaa
