/- The walk of 'KillApart'. -/
import Derived.Test.YtpcacnlkhicekaaKg
import Derived.Deep.RegionWith
namespace Go.Proofs.Ytpcacnlkhicekaa
open Go.RowKit

theorem SwAt.same {w w' : World} {k mb : Nat} {s : KS} {O O' : Nat → Option (Option Int)} {B : Int → Option Nat} (h : SwAt w k mb s O B) (hO : ∀ i, i < w.heap.size → O' i = O i) (hw : ∀ i, i < w.heap.size → O i ≠ none → w'.heap[i]? = w.heap[i]?) : SwAt w' k mb s O' B := by
  obtain ⟨es, clock, hm, hf⟩ := h.mp
  have lk := lt_of_block h.sw
  have lm := lt_of_block hm
  refine ⟨(hw k lk (by rw [h.ok]; simp)).trans h.sw, ⟨es, clock, (hw mb lm (by rw [h.om]; simp)).trans hm, hf⟩, (hO k lk).trans h.ok, (hO mb lm).trans h.om, h.no, fun n b hb => ?_⟩
  obtain ⟨ho, a, cap, hmk, ht⟩ := h.at_ n b hb
  have lb := lt_of_block hmk.1
  exact ⟨(hO b lb).trans ho, a, cap, hmk.kept (hw b lb (by rw [ho]; simp)) fun t hta => hw _ (hmk.2.lt t hta) (by rw [ht t hta]; simp), fun t hta => (hO _ (hmk.2.lt t hta)).trans (ht t hta)⟩

/-- Maker m has been hit c m times, all at 5. -/
structure P3 (s : KS) (c : Nat → Nat) : Prop where
  hf : s.fills = 3
  hw : s.window = 100
  on : ∀ m, c m < 3 → (s.m m).off = false ∧ atM (s.m m) 5 = 5 ∧ (s.m m).times = List.replicate (c m) 5
  out : ∀ m, 3 ≤ c m → (s.m m).off = true

theorem P3.len {s : KS} {c : Nat → Nat} (h : P3 s c) (m : Nat) : c m < 3 → (s.m m).times.length ≤ 1000 := fun hm => by
  rw [(h.on m hm).2.2, List.length_replicate]; omega
theorem P3.new : P3 (KS.new 3 100) (fun _ => 0) := ⟨rfl, rfl, fun _ _ => ⟨rfl, rfl, rfl⟩, fun m h => by simp at h⟩
theorem p3_step {s : KS} {c : Nat → Nat} (h : P3 s c) (m : Nat) : fillR s (s.m m) 5 = decide (c m + 1 = 3) ∧ P3 (s.set m (fillM s (s.m m) 5)) (upd c m (c m + 1)) := by
  obtain ⟨hf, hw, hon, hout⟩ := h
  have others : ∀ m' : Nat, m' ≠ m → (s.set m (fillM s (s.m m) 5)).m m' = s.m m' := fun m' e => set_other s _ (by omega)
  by_cases hm : c m < 3
  · obtain ⟨ho, hat, hts⟩ := hon m hm
    have hrow : rowT s 5 (s.m m).times = List.replicate (c m + 1) 5 := by
      rw [hts, rowT, if_neg (by rw [List.length_replicate]; omega), List.replicate_succ']
    have hc : cnt s.window 5 (rowT s 5 (s.m m).times) = c m + 1 := by rw [hrow, cnt_rep (inW_same (by omega))]
    by_cases e : c m + 1 = 3
    · obtain ⟨r1, r2⟩ := fill_yes (now := 5) ho hat (by rw [hc]; omega)
      rw [r1, r2]
      rw [r2] at others
      refine ⟨by simp [e], hf, hw, fun m' h' => ?_, fun m' h' => ?_⟩
      · by_cases e' : m' = m
        · subst e'; rw [upd_same] at h'; omega
        · rw [upd_other _ _ e'] at h' ⊢; rw [others m' e']; exact hon m' h'
      · by_cases e' : m' = m
        · subst e'; rw [set_at]
        · rw [upd_other _ _ e'] at h'; rw [others m' e']; exact hout m' h'
    · obtain ⟨r1, r2⟩ := fill_no (now := 5) ho hat (by rw [hc]; omega)
      rw [r1, r2]
      rw [r2] at others
      refine ⟨by simp [e], hf, hw, fun m' h' => ?_, fun m' h' => ?_⟩
      · by_cases e' : m' = m
        · subst e'; rw [set_at, upd_same]; exact ⟨rfl, by simp [atM], hrow⟩
        · rw [upd_other _ _ e'] at h' ⊢; rw [others m' e']; exact hon m' h'
      · by_cases e' : m' = m
        · subst e'; rw [upd_same] at h'; omega
        · rw [upd_other _ _ e'] at h'; rw [others m' e']; exact hout m' h'
  · have ho := hout m (by omega)
    have r2 : fillM s (s.m m) 5 = s.m m := by simp [fillM, ho]
    rw [r2, set_self]
    refine ⟨by simp [fillR, ho]; omega, hf, hw, fun m' h' => ?_, fun m' h' => ?_⟩
    · by_cases e' : m' = m
      · subst e'; rw [upd_same] at h'; omega
      · rw [upd_other _ _ e'] at h' ⊢; exact hon m' h'
    · by_cases e' : m' = m
      · subst e'; exact ho
      · rw [upd_other _ _ e'] at h'; exact hout m' h'
theorem p3_count {s : KS} {c : Nat → Nat} (h : P3 s c) (m : Nat) : (s.m m).off = decide (3 ≤ c m) ∧ countM s (s.m m) 5 = (if 3 ≤ c m then 0 else (c m : Int)) := by
  by_cases hm : c m < 3
  · obtain ⟨ho, hat, hts⟩ := h.on m hm
    refine ⟨by rw [ho]; simp; omega, ?_⟩
    rw [countM, if_neg (by rw [ho]; simp), if_neg (by omega), hat, hts, cnt_rep (inW_same (by rw [h.hw]; omega))]
  · have ho := h.out m (by omega)
    refine ⟨by rw [ho]; simp; omega, ?_⟩
    rw [countM, if_pos ho, if_pos (by omega)]

theorem fill_any' {w : World} {k mb : Nat} {s : KS} {O : Nat → Option (Option Int)} {B : Int → Option Nat} (h : SwAt w k mb s O B) (n now : Int) (hlen : (s.m n).off = false → (s.m n).times.length ≤ 1000) :
    Calls Try.prog 7 #[.pointer (some ⟨k, 0, none⟩), .int .i64 n, .int .i64 now] w (FillPost k mb s O n (fillR s (s.m n) now) (fillM s (s.m n) now) w) := by
  cases hoff : (s.m n).off with
  | true =>
    have := fill_off h n now hoff
    rwa [show fillR s (s.m n) now = false by simp [fillR, hoff], show fillM s (s.m n) now = s.m n by simp [fillM, hoff]]
  | false => exact fill_on h n now hoff (hlen hoff)
/-- The counts of eight in a block of their own. -/
def CntAt (w : World) (nb : Nat) (c : Nat → Nat) : Prop := ∃ arr : Array Value, w.heap[nb]? = some (.cells arr 32 (0, 0)) ∧ arr.size = 8 ∧ ∀ m, m < 8 → arr[m]? = some (.int .i64 (c m))
theorem CntAt.cell {w : World} {nb : Nat} {c : Nat → Nat} (h : CntAt w nb c) {m : Nat} (hm : m < 8) : w.cell? ⟨nb, m, none⟩ = some (.int .i64 (c m)) := by
  obtain ⟨arr, hb, _, hx⟩ := h
  rw [cell_of_block hb]; exact hx m hm
theorem CntAt.free {w : World} {nb : Nat} {c : Nat → Nat} (h : CntAt w nb c) (m : Nat) : w.frozen? ⟨nb, m, none⟩ = false := by
  obtain ⟨arr, hb, _, hx⟩ := h
  exact free_of_block hb m
theorem CntAt.put {w : World} {nb : Nat} {c : Nat → Nat} (h : CntAt w nb c) {m : Nat} (hm : m < 8) (v : Nat) : CntAt (w.setCell ⟨nb, m, none⟩ (.int .i64 v)) nb (upd c m v) := by
  obtain ⟨arr, hb, hs, hx⟩ := h
  refine ⟨_, block_setCell hb m _, by simp [hs], fun i hi => ?_⟩
  rw [Array.getElem?_setIfInBounds]
  by_cases e : m = i
  · subst e; rw [if_pos rfl, if_pos (by omega), upd_same]
  · rw [if_neg e, upd_other _ _ (fun h => e h.symm)]; exact hx i hi
theorem CntAt.kept {w w' : World} {nb : Nat} {c : Nat → Nat} (h : CntAt w nb c) (hw : w'.heap[nb]? = w.heap[nb]?) : CntAt w' nb c := by
  obtain ⟨arr, hb, r⟩ := h
  exact ⟨arr, hw.trans hb, r⟩

/-- What the rounds of both loops keep. -/
structure A1 (w w2 wr : World) (k mb nb : Nat) (c : Nat → Nat) (s : KS) (O : Nat → Option (Option Int)) (B : Int → Option Nat) : Prop where
  sw : SwAt wr k mb s O B
  p3 : P3 s c
  cnt : CntAt wr nb c
  no : O nb = none
  old : ∀ i, i < w.heap.size → O i = none
  big : nb < wr.heap.size ∧ w.heap.size ≤ nb
  below : Below w.heap.size w wr

theorem A1.fill {w w2 wr w' : World} {k mb nb : Nat} {c : Nat → Nat} {s s' : KS} {O O' : Nat → Option (Option Int)} {B B' : Int → Option Nat} (h : A1 w w2 wr k mb nb c s O B) {c' : Nat → Nat}
    (hs : SwAt w' k mb s' O' B') (hg : Grow O O' wr w') (hp : P3 s' c') (hc : CntAt w' nb c') : A1 w w2 w' k mb nb c' s' O' B' := by
  have hsz := h.below.size
  refine ⟨hs, hp, hc, (hg.2 nb h.big.1).trans h.no, fun i hi => (hg.2 i (by omega)).trans (h.old i hi), ⟨Nat.lt_of_lt_of_le h.big.1 hg.1.size, h.big.2⟩, h.below.trans ?_⟩
  exact ⟨hg.1.os, hg.1.tape, hg.1.output, hg.1.size, fun i hi => hg.1.block i (by omega) (by rw [h.old i hi]; simp)⟩

theorem A1.drewN {w w2 wr : World} {k mb nb : Nat} {c : Nat → Nat} {s : KS} {O : Nat → Option (Option Int)} {B : Int → Option Nat} (h : A1 w w2 wr k mb nb c s O B) (q : Nat) : A1 w w2 (wr.drewN q) k mb nb c s O B :=
  ⟨h.sw.drewN q, h.p3, h.cnt.kept rfl, h.no, h.old, h.big, h.below.trans ⟨rfl, rfl, rfl, Nat.le_refl _, fun _ _ => rfl⟩⟩
def L3 (w w2 : World) (k mb nb len : Nat) (i : Value) (wr : World) : Prop :=
  ∃ (j : Nat) (c : Nat → Nat) (s : KS) (O : Nat → Option (Option Int)) (B : Int → Option Nat), j ≤ len ∧ i = .int .i64 j ∧ (∀ m, c m ≤ j) ∧ A1 w w2 wr k mb nb c s O B
def L4 (w w2 : World) (k mb nb : Nat) (i : Value) (wr : World) : Prop :=
  ∃ (j : Nat) (c : Nat → Nat) (s : KS) (O : Nat → Option (Option Int)) (B : Int → Option Nat), j ≤ 8 ∧ i = .int .i64 j ∧ (∀ m, c m ≤ 100) ∧ A1 w w2 wr k mb nb c s O B

theorem SwAt.drew {w : World} {k mb : Nat} {s : KS} {O : Nat → Option (Option Int)} {B : Int → Option Nat} (h : SwAt w k mb s O B) : SwAt w.drew k mb s O B := ⟨h.sw, h.mp, h.ok, h.om, h.no, h.at_⟩
theorem Grow.of_drew {O O' : Nat → Option (Option Int)} {a b : World} (h : Grow O O' a.drew b) : Grow O O' a b := ⟨⟨h.1.os, h.1.tape, h.1.output, h.1.size, h.1.block⟩, h.2⟩
theorem P3.weak {s : KS} {c : Nat → Nat} (h : P3 s c) (m : Nat) : (s.m m).off = false → (s.m m).times.length ≤ 1000 := by
  intro ho
  by_cases hm : c m < 3
  · exact h.len m hm
  · rw [h.out m (by omega)] at ho; cases ho

set_option maxHeartbeats 1000000 in
theorem apart_any (a : Option Addr) (b off len cap : Nat) (zs : List Int) (w : World) (ha : 0 < len → a = some ⟨b, off, none⟩ ∧ b < w.heap.size) (hlen : len ≤ 100) (hz : len ≤ zs.length) (hc : ∀ i, i < zs.length → w.cell? ⟨b, off + i, none⟩ = some (.int .u8 (zs.getD i 0))) (hwf : ∀ n ∈ zs, 0 ≤ n ∧ n ≤ 255) :
    Calls Try.prog 4 #[.slice a len cap] w (FinPost w) := by
  have Hc := Lib.hid hc
  have Hwf := Lib.hid hwf
  have Ha := Lib.hid ha
  clear hc hwf ha
  go_enter Try.func4, Try.ntmps4
  go_wp2_with fail
  refine (known_any w).mono ?_
  rintro e w1 ⟨rfl, k1⟩
  go_wp2_with fail
  refine (new_good (by decide)).mono ?_
  rintro e w2 ⟨k, mb, O, B, rfl, h1, hk, hO⟩
  have HO := Lib.hid hO
  clear hO
  go_wp2_with fail
  have hstart : L3 w w2 k mb w2.heap.size len (.int .i64 0) (w2.alloc (.cells #[.int .i64 0, .int .i64 0, .int .i64 0, .int .i64 0, .int .i64 0, .int .i64 0, .int .i64 0, .int .i64 0] 32)) := by
    have hbel : Below w.heap.size w w2 := (k1.trans (hk.mono fun _ _ h => h)).below (Nat.le_refl _) fun _ h => h.elim
    have hsz := hbel.size
    have hsz1 := hk.size
    have hs1 := k1.size
    refine ⟨0, fun _ => 0, KS.new 3 100, fun i => if i < w2.heap.size then O i else none, B, Nat.zero_le _, rfl, fun _ => Nat.zero_le _, ⟨h1.same (fun i hi => if_pos hi) fun i hi _ => Below.heap_alloc _ _ _ hi, P3.new, ⟨_, block_alloc_new _ _, rfl, fun m hm => ?_⟩, if_neg (by omega), fun i hi => ?_, ⟨by simp, hsz⟩, hbel.alloc hsz _⟩⟩
    · match m, hm with
      | 0, _ | 1, _ | 2, _ | 3, _ | 4, _ | 5, _ | 6, _ | 7, _ => rfl
    · show (if i < w2.heap.size then O i else none) = none
      rw [if_pos (by omega)]; exact HO.out i (by omega)
  clear h1 hk HO k1
  generalize w2.heap.size = nb at hstart ⊢
  go_loopw [6] (fun i wr => L3 w w2 k mb nb len i wr) (fun i _ => len - (intOf i).toNat)
  case atStart => exact hstart
  case round =>
    obtain ⟨j, c, s, O, B, hj, rfl, hcj, hA⟩ := hrel
    clear hstart
    by_cases hlt : j < len
    · obtain ⟨rfl, hb⟩ := Ha.out (by omega)
      have hmem := Hwf.out (zs.getD j 0) (by rw [List.getD, List.getElem?_eq_getElem (by omega)]; exact List.getElem_mem _)
      have hcell : wr.cell? ⟨b, off + j, none⟩ = some (.int .u8 (zs.getD j 0)) := by rw [hA.below.cell (p := ⟨b, off + j, none⟩) hb]; exact Hc.out j (by omega)
      obtain ⟨m, hm, hm8⟩ : ∃ m : Nat, zs.getD j 0 % 8 = m ∧ m < 8 := ⟨(zs.getD j 0 % 8).toNat, by omega, by omega⟩
      generalize zs.getD j 0 = z at hmem hcell hm
      have Hm := Lib.hid hm
      clear hm
      go_upto_region 11 with (fail)
      rw [Hm.out]
      have e1 := hA.cnt.cell hm8
      have f1 := hA.cnt.free m
      have hcm := hcj m
      have hput : CntAt (wr.setCell ⟨nb, m, none⟩ (.int .i64 ((c m : Int) + 1))) nb (upd c m (c m + 1)) := by have := hA.cnt.put hm8 (c m + 1); simpa using this
      have hsw := hA.sw.same (w' := wr.setCell ⟨nb, m, none⟩ (.int .i64 ((c m : Int) + 1))) (O' := O) (fun _ _ => rfl) (fun i hi ho => Below.heap_setCell _ _ _ _ (fun e => ho (by rw [e]; exact hA.no)))
      have hbel := hA.below.setCell (p := ⟨nb, m, none⟩) hA.big.2 (.int .i64 ((c m : Int) + 1))
      have hbig : nb < (wr.setCell ⟨nb, m, none⟩ (.int .i64 ((c m : Int) + 1))).heap.size := by simpa using hA.big.1
      have hp3 := hA.p3
      obtain ⟨r1, hp'⟩ := p3_step hp3 m
      obtain ⟨q, hq1, hq2⟩ : ∃ q, decide (c m + 1 = 3) = q ∧ ((c m : Int) + 1 == 3) = q := ⟨_, rfl, by rw [Bool.eq_iff_iff]; simp; omega⟩
      rw [hq1] at r1
      have R1 := Lib.hid r1
      have Hp := Lib.hid hp'
      have HA := Lib.hid hA
      clear r1 hp' hq1 hA hcell
      go_upto_region 12 with (fail)
      generalize wr.setCell ⟨nb, m, none⟩ (.int .i64 ((c m : Int) + 1)) = w3 at hput hsw hbel hbig ⊢
      have e3 : w3.cell? ⟨nb, m, none⟩ = some (.int .i64 ((c m : Int) + 1)) := by rw [hput.cell hm8, upd_same]; simp
      have Hput := Lib.hid hput
      clear hput e1 f1
      go_region_with (go_at_call 7; refine (fill_any' hsw.drew m 5 (hp3.weak m)).mono ?_; rintro e w4 ⟨O4, B4, rfl, h4, g4⟩; rw [R1.out]; have g4 := g4.of_drew; have hput4 : CntAt w4 nb _ := Hput.out.kept (g4.1.block nb hbig (by rw [HA.out.no]; simp)); have e4 : w4.cell? ⟨nb, m, none⟩ = some (.int .i64 ((c m : Int) + 1)) := by { rw [hput4.cell hm8, upd_same]; simp })
      all_goals
        go_wp2
        refine ⟨⟨j + 1, upd c m (c m + 1), s.set m (fillM s (s.m m) 5), O4, B4, by omega, by go_num, fun m' => ?_, ?_⟩, by simp [intOf]; omega⟩
        · by_cases e : m' = m
          · subst e; rw [upd_same]; have := hcj m'; omega
          · rw [upd_other _ _ e]; have := hcj m'; omega
        · have hsz := hbel.size
          exact ⟨h4, Hp.out, hput4, (g4.2 nb hbig).trans HA.out.no, fun i hi => (g4.2 i (by omega)).trans (HA.out.old i hi), ⟨Nat.lt_of_lt_of_le hbig g4.1.size, HA.out.big.2⟩, hbel.trans ⟨g4.1.os, g4.1.tape, g4.1.output, g4.1.size, fun i hi => g4.1.block i (by omega) (by rw [HA.out.old i hi]; simp)⟩⟩
    · go_wp2_with fail
      have hstart2 : L4 w w2 k mb nb (.int .i64 0) wr := ⟨0, c, s, O, B, by omega, rfl, fun m => by have := hcj m; omega, hA⟩
      go_loopw [8] (fun i wr => L4 w w2 k mb nb i wr) (fun i _ => 8 - (intOf i).toNat)
      case atStart => exact hstart2
      case round =>
        obtain ⟨j2, c, s, O, B, hj, rfl, hcj, hA⟩ := hrel
        clear hstart2
        by_cases hlt2 : j2 < 8
        · have e1 := hA.cnt.cell hlt2
          have hcm := hcj j2
          obtain ⟨r1, r2⟩ := p3_count hA.p3 j2
          by_cases h3 : 3 ≤ c j2
          · rw [decide_eq_true h3] at r1
            rw [if_pos h3] at r2
            have R1 := Lib.hid r1
            have R2 := Lib.hid r2
            clear r1 r2
            go_upto_region 20 with (fail)
            have h3' : (3 : Int) ≤ c j2 := by omega
            have Hoff : Hid (∀ q, Calls Try.prog 8 #[.pointer (some ⟨k, 0, none⟩), .int .i64 j2] (wr.drewN q) fun e w' => e = .returned (.bool true) ∧ w' = wr.drewN q) :=
              fun q => (off_any (hA.sw.drewN q) j2).mono fun e w' h => ⟨by rw [h.2, R1.out], h.1.symm⟩
            have Hcnt : Hid (∀ q, Calls Try.prog 9 #[.pointer (some ⟨k, 0, none⟩), .int .i64 j2, .int .i64 5] (wr.drewN q) fun e w' => e = .returned (.int .i64 0) ∧ w' = wr.drewN q) :=
              fun q => (kcount_gen (hA.sw.drewN q) j2 5 (hA.p3.weak j2)).mono fun e w' h => ⟨by rw [h.2, R2.out], h.1.symm⟩
            go_quiet ((first | (go_at_call 8; exact Calls.quiet_of_same (Hoff.out _)) | (go_at_call 9; exact Calls.quiet_of_same (Hcnt.out _))))
            go_wp2
            exact ⟨⟨j2 + 1, c, s, O, B, by omega, by go_num, hcj, hA.drewN _⟩, by simp [intOf]; omega⟩
          · rw [decide_eq_false h3] at r1
            rw [if_neg h3] at r2
            have R1 := Lib.hid r1
            have R2 := Lib.hid r2
            clear r1 r2
            go_upto_region 20 with (fail)
            have h3' : (c j2 : Int) < 3 := by omega
            have Hoff : Hid (∀ q, Calls Try.prog 8 #[.pointer (some ⟨k, 0, none⟩), .int .i64 j2] (wr.drewN q) fun e w' => e = .returned (.bool false) ∧ w' = wr.drewN q) :=
              fun q => (off_any (hA.sw.drewN q) j2).mono fun e w' h => ⟨by rw [h.2, R1.out], h.1.symm⟩
            have Hcnt : Hid (∀ q, Calls Try.prog 9 #[.pointer (some ⟨k, 0, none⟩), .int .i64 j2, .int .i64 5] (wr.drewN q) fun e w' => e = .returned (.int .i64 (c j2)) ∧ w' = wr.drewN q) :=
              fun q => (kcount_gen (hA.sw.drewN q) j2 5 (hA.p3.weak j2)).mono fun e w' h => ⟨by rw [h.2, R2.out], h.1.symm⟩
            go_quiet ((first | (go_at_call 8; exact Calls.quiet_of_same (Hoff.out _)) | (go_at_call 9; exact Calls.quiet_of_same (Hcnt.out _))))
            go_wp2
            exact ⟨⟨j2 + 1, c, s, O, B, by omega, by go_num, hcj, hA.drewN _⟩, by simp [intOf]; omega⟩
        · have hfin : Below w.heap.size w wr := hA.below
          go_wp2_with fail
          go_ret
          exact ⟨rfl, Kept.of_below hfin⟩

theorem apart_long (a : Option Addr) (len cap : Nat) (w : World) (h : 100 < len) (hm : len ≤ maxLen) : Calls Try.prog 4 #[.slice a len cap] w (FinPost w) := by
  unfold maxLen at hm
  go_enter Try.func4, Try.ntmps4
  go_wp2_with fail
  refine (known_any w).mono ?_
  rintro e w1 ⟨rfl, k1⟩
  go_wp2_with fail
  go_ret
  exact ⟨rfl, k1⟩
end Go.Proofs.Ytpcacnlkhicekaa
