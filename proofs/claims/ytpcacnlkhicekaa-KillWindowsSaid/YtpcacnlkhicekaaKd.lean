/- The walks of the switch: a fill. -/
import Derived.Test.YtpcacnlkhicekaaKc
namespace Go.Proofs.Ytpcacnlkhicekaa
open Go.RowKit

def atM (x : Mk) (now : Int) : Int := if x.any = true ∧ now < x.last then x.last else now
def rowT (s : KS) (T : Int) (ts : List Int) : List Int := if s.fills < (ts.length : Int) + 1 then (ts ++ [T]).tail else ts ++ [T]
def rowM (s : KS) (x : Mk) (now : Int) : List Int := rowT s (atM x now) x.times
def fillR (s : KS) (x : Mk) (now : Int) : Bool := !x.off && decide (s.fills ≤ (cnt s.window (atM x now) (rowM s x now) : Int))
def fillM (s : KS) (x : Mk) (now : Int) : Mk :=
  if x.off = true then x else if s.fills ≤ (cnt s.window (atM x now) (rowM s x now) : Int) then ⟨true, atM x now, true, []⟩ else ⟨false, atM x now, true, rowM s x now⟩
def FillPost (k mb : Nat) (s : KS) (O : Nat → Option (Option Int)) (n : Int) (r : Bool) (x : Mk) (w : World) (e : Ending) (w' : World) : Prop :=
  ∃ O' B', e = .returned (.bool r) ∧ SwAt w' k mb (s.set n x) O' B' ∧ Grow O O' w w'

theorem fill_off {w : World} {k mb : Nat} {s : KS} {O : Nat → Option (Option Int)} {B : Int → Option Nat} (h : SwAt w k mb s O B) (n now : Int) (hoff : (s.m n).off = true) :
    Calls Try.prog 7 #[.pointer (some ⟨k, 0, none⟩), .int .i64 n, .int .i64 now] w (FillPost k mb s O n false (s.m n) w) := by
  have Hoff := Lib.hid hoff
  clear hoff
  go_enter Try.func7, Try.ntmps7
  go_wp2_with fail
  refine (of_any h n).mono ?_
  rintro e w1 ⟨b, O1, B1, rfl, hb, h1, hg⟩
  obtain ⟨ho, a, cap, hmk, ht⟩ := h1.at_ n b hb
  have c0 : w1.cell? ⟨b, 0, none⟩ = some (.bool true) := by rw [cell_of_block hmk.1]; simp [Hoff.out]
  clear hmk ht ho
  go_wp2
  go_ret
  exact ⟨O1, B1, rfl, by rw [set_self]; exact h1, hg⟩

theorem trip_any {w : World} {k mb : Nat} {s : KS} {O : Nat → Option (Option Int)} {B : Int → Option Nat} (h : SwAt w k mb s O B) (n : Int) :
    Calls Try.prog 11 #[.pointer (some ⟨k, 0, none⟩), .int .i64 n] w (FillPost k mb s O n (!(s.m n).off) ⟨true, (s.m n).last, (s.m n).any, []⟩ w) := by
  go_enter Try.func11, Try.ntmps11
  go_wp2_with fail
  refine (of_any h n).mono ?_
  rintro e w1 ⟨b, O1, B1, rfl, hb, h1, hg⟩
  obtain ⟨ho, a, cap, hmk, ht⟩ := h1.at_ n b hb
  have c0 : w1.cell? ⟨b, 0, none⟩ = some (.bool (s.m n).off) := by rw [cell_of_block hmk.1]; rfl
  have c3 : w1.cell? ⟨b, 3, none⟩ = some (.slice a (s.m n).times.length cap) := by rw [cell_of_block hmk.1]; rfl
  have f0 := free_of_block hmk.1 0
  have f3 := free_of_block hmk.1 3
  have hfin : SwAt ((w1.setCell ⟨b, 0, none⟩ (.bool true)).setCell ⟨b, 3, none⟩ (.slice none 0 0)) k mb (s.set n ⟨true, (s.m n).last, (s.m n).any, []⟩) O1 B1 := by
    refine h1.put hb (a := none) (cap := 0) (fun i _ hi => ?_) (fun _ _ => rfl) ⟨?_, SlAt.nil _ _ _⟩ (fun t ht => by cases ht)
    · have hib : i ≠ b := fun e => hi (by rw [e]; exact ho)
      rw [Below.heap_setCell _ _ _ _ hib, Below.heap_setCell _ _ _ _ hib]
    · rw [block_setCell (block_setCell hmk.1 0 _) 3 _]; rfl
  have hgr : Grow O1 O1 w1 ((w1.setCell ⟨b, 0, none⟩ (.bool true)).setCell ⟨b, 3, none⟩ (.slice none 0 0)) :=
    ⟨((Kept.refl _ _).setCell (fun _ => by show O1 b ≠ none; rw [ho]; simp) _).setCell (fun _ => by show O1 b ≠ none; rw [ho]; simp) _, fun _ _ => rfl⟩
  clear hmk ht ho
  go_wp2
  go_ret
  exact ⟨O1, B1, rfl, hfin, hg.trans hgr⟩

theorem Try.info2' : (Try.prog.info? 2).map (fun i => (i.zero, i.size, i.bytes)) = some (some (.int .i64 0), 1, 8) := by kernel_rfl

theorem MkAt.ne {w : World} {b : Nat} {a : Option Addr} {cap : Nat} {x : Mk} (h : MkAt w b a cap x) : some b ≠ a.map (·.block) := by
  intro e
  obtain ⟨h1, _, _, h2⟩ := h
  rcases h2 with ⟨rfl, _⟩ | ⟨t, o, arr, rfl, hb, _⟩
  · cases e
  · cases e; rw [h1] at hb; cases hb

def FillMid (k mb : Nat) (s : KS) (O : Nat → Option (Option Int)) (B : Int → Option Nat) (n : Int) (x : Mk) (w wx : World) : Prop :=
  ∃ O', SwAt wx k mb (s.set n x) O' B ∧ Grow O O' w wx

theorem SwAt.drewN {w : World} {k mb : Nat} {s : KS} {O : Nat → Option (Option Int)} {B : Int → Option Nat} (h : SwAt w k mb s O B) (q : Nat) : SwAt (w.drewN q) k mb s O B :=
  ⟨h.sw, h.mp, h.ok, h.om, h.no, h.at_⟩
theorem Grow.drewN {O O' : Nat → Option (Option Int)} {a b : World} (h : Grow O O' a b) (q : Nat) : Grow O O' a (b.drewN q) := ⟨h.1.drewN q, h.2⟩

/-- The same maker, its row laid anew in its own block: what a store of the slice leaves. -/
theorem cut_mid {w wc : World} {k mb b cap' : Nat} {s : KS} {O O2 : Nat → Option (Option Int)} {B : Int → Option Nat} {n T : Int} {ts ts' : List Int} {a a' : Option Addr} {cap : Nat}
    (h4 : SwAt wc k mb (s.set n ⟨false, T, true, ts⟩) O2 B) (hb : B n = some b) (hm4 : MkAt wc b a cap ⟨false, T, true, ts⟩) (hg4 : Grow O O2 w wc) (ht4 : ∀ t, a = some t → O2 t.block = some (some n))
    (hsl : SlAt wc 2 1 a' ts'.length cap' (ts'.map (Value.int .i64))) (ha : ∀ t, a' = some t → ∃ u, a = some u ∧ t.block = u.block) :
    FillMid k mb s O B n ⟨false, T, true, ts'⟩ w (wc.setCell ⟨b, 3, none⟩ (.slice a' ts'.length cap')) := by
  have hob : O2 b = some (some n) := (h4.at_ n b hb).1
  have hne' : ∀ t, a' = some t → t.block ≠ b := by
    intro t ht e
    obtain ⟨u, hu, hut⟩ := ha t ht
    exact hm4.ne (by rw [hu, ← e, hut]; rfl)
  have hkept : ∀ i, i < wc.heap.size → O2 i ≠ some (some n) → (wc.setCell ⟨b, 3, none⟩ (.slice a' ts'.length cap')).heap[i]? = wc.heap[i]? := by
    intro i hi hne
    exact Below.heap_setCell _ _ _ _ (fun e => hne (by rw [e]; exact hob))
  refine ⟨O2, ?_, hg4.trans ⟨(Kept.refl _ _).setCell (fun _ => by show O2 b ≠ none; rw [hob]; simp) _, fun _ _ => rfl⟩⟩
  have := h4.put (O' := O2) hb hkept (fun _ _ => rfl) (x := ⟨false, T, true, ts'⟩) (a := a') (cap := cap') ⟨by rw [block_setCell hm4.1 3 _]; rfl, hsl.kept fun t ht => Below.heap_setCell _ _ _ _ (hne' t ht)⟩
    (fun t ht => by obtain ⟨u, hu, hut⟩ := ha t ht; rw [hut]; exact ht4 u hu)
  rwa [set_set] at this

theorem append_mid {w w2 w3 : World} {k mb b cap cap' : Nat} {s : KS} {O O1 : Nat → Option (Option Int)} {B : Int → Option Nat} {n T : Int} {ts : List Int} {a a' : Option Addr} {o : Obj}
    (h2 : SwAt w2 k mb (s.set n ⟨false, T, true, ts⟩) O1 B) (hb : B n = some b) (hm2 : MkAt w2 b a cap ⟨false, T, true, ts⟩) (hg2 : Grow O O1 w w2) (ha : ∀ t, a = some t → O1 t.block = some (some n))
    (hsl : SlAt w3 2 1 a' (ts.length + 1) cap' (ts.map (Value.int .i64) ++ [.int .i64 T])) (hg3 : (w2.alloc o).drew.grownBy w3 (a.map (·.block)))
    (hb3 : ∀ t, a' = some t → a.map (·.block) = some t.block ∨ (w2.alloc o).drew.heap.size ≤ t.block) :
    FillMid k mb s O B n ⟨false, T, true, ts ++ [T]⟩ w (w3.setCell ⟨b, 3, none⟩ (.slice a' (ts.length + 1) cap')) := by
  have hbl := lt_of_block hm2.1
  have hsz : (w2.alloc o).drew.heap.size = w2.heap.size + 1 := by simp
  have hob : O1 b = some (some n) := (h2.at_ n b hb).1
  have hblk : ∀ i, i < w2.heap.size → some i ≠ a.map (·.block) → w3.heap[i]? = w2.heap[i]? := fun i hi hne =>
    (hg3.block i (by omega) hne).trans (Below.heap_alloc _ _ _ hi)
  have hb3' : w3.heap[b]? = _ := (hblk b hbl hm2.ne).trans hm2.1
  have hne' : ∀ t, a' = some t → t.block ≠ b := by
    intro t ht e
    rcases hb3 t ht with h | h
    · exact hm2.ne (by rw [h, e])
    · omega
  have hmk : MkAt (w3.setCell ⟨b, 3, none⟩ (.slice a' (ts.length + 1) cap')) b a' cap' ⟨false, T, true, ts ++ [T]⟩ := by
    refine ⟨?_, ?_⟩
    · rw [block_setCell hb3' 3 _]; simp
    · have : SlAt w3 2 1 a' (ts ++ [T]).length cap' ((ts ++ [T]).map (Value.int .i64)) := by simpa using hsl
      exact this.kept fun t ht => Below.heap_setCell _ _ _ _ (hne' t ht)
  let O' : Nat → Option (Option Int) := fun i => if i < w2.heap.size then O1 i else some (some n)
  have hO' : ∀ i, i < w2.heap.size → O' i = O1 i := fun i hi => if_pos hi
  have hkept : ∀ i, i < w2.heap.size → O1 i ≠ some (some n) → (w3.setCell ⟨b, 3, none⟩ (.slice a' (ts.length + 1) cap')).heap[i]? = w2.heap[i]? := by
    intro i hi hne
    have h1 : i ≠ b := fun e => hne (by rw [e]; exact hob)
    rw [Below.heap_setCell _ _ _ _ h1]
    refine hblk i hi fun e => ?_
    obtain ⟨t, ht, hti⟩ : ∃ t, a = some t ∧ t.block = i := by
      cases a with
      | none => cases e
      | some t => exact ⟨t, rfl, by simpa using e.symm⟩
    exact hne (by rw [← hti]; exact ha t ht)
  refine ⟨O', ?_, hg2.trans ⟨⟨hg3.os, hg3.tape, hg3.output, ?_, fun i hi hne => hkept i hi fun e => hne (by rw [e]; simp)⟩, hO'⟩⟩
  · have := h2.put hb hkept hO' hmk (fun t ht => ?_)
    · rwa [set_set] at this
    · rcases hb3 t ht with h | h
      · obtain ⟨u, hu, hut⟩ : ∃ u, a = some u ∧ u.block = t.block := by
          cases a with
          | none => cases h
          | some u => exact ⟨u, rfl, by simpa using h⟩
        rw [← hut, hO' _ (hm2.2.lt u hu)]; exact ha u hu
      · exact if_neg (by omega)
  · have := hg3.size
    simp at this ⊢; omega

theorem fill_no {s : KS} {x : Mk} {now T : Int} (hoff : x.off = false) (hT : (if x.any = true ∧ now < x.last then x.last else now) = T) (h : (cnt s.window T (rowT s T x.times) : Int) < s.fills) :
    fillR s x now = false ∧ fillM s x now = ⟨false, T, true, rowT s T x.times⟩ := by
  have hT' : atM x now = T := hT
  unfold fillR fillM rowM
  rw [hoff, hT', if_neg (by simp), if_neg (by omega)]
  exact ⟨by simp; omega, rfl⟩
theorem fill_yes {s : KS} {x : Mk} {now T : Int} (hoff : x.off = false) (hT : (if x.any = true ∧ now < x.last then x.last else now) = T) (h : s.fills ≤ (cnt s.window T (rowT s T x.times) : Int)) :
    fillR s x now = true ∧ fillM s x now = ⟨true, T, true, []⟩ := by
  have hT' : atM x now = T := hT
  unfold fillR fillM rowM
  rw [hoff, hT', if_neg (by simp), if_pos h]
  exact ⟨by simp; omega, rfl⟩

theorem fill_on {w : World} {k mb : Nat} {s : KS} {O : Nat → Option (Option Int)} {B : Int → Option Nat} (h : SwAt w k mb s O B) (n now : Int) (hoff : (s.m n).off = false) (hlen : (s.m n).times.length ≤ 1000) :
    Calls Try.prog 7 #[.pointer (some ⟨k, 0, none⟩), .int .i64 n, .int .i64 now] w (FillPost k mb s O n (fillR s (s.m n) now) (fillM s (s.m n) now) w) := by
  obtain ⟨i0, hi, hz0, hz1, hz2⟩ := info_parts Try.info2'
  have Hoff := Lib.hid hoff
  clear hoff
  go_enter Try.func7, Try.ntmps7
  go_wp2_with fail
  refine (of_any h n).mono ?_
  rintro e w1 ⟨b, O1, B1, rfl, hb, h1, hg⟩
  obtain ⟨ho, a, cap, hmk, ht⟩ := h1.at_ n b hb
  have c0 : w1.cell? ⟨b, 0, none⟩ = some (.bool false) := by rw [cell_of_block hmk.1]; simp [Hoff.out]
  have c1 : w1.cell? ⟨b, 1, none⟩ = some (.int .i64 (s.m n).last) := by rw [cell_of_block hmk.1]; rfl
  have c2 : w1.cell? ⟨b, 2, none⟩ = some (.bool (s.m n).any) := by rw [cell_of_block hmk.1]; rfl
  have c3 : w1.cell? ⟨b, 3, none⟩ = some (.slice a (s.m n).times.length cap) := by rw [cell_of_block hmk.1]; rfl
  have f1 := free_of_block hmk.1 1
  have f2 := free_of_block hmk.1 2
  have f3 := free_of_block hmk.1 3
  have hbl := lt_of_block hmk.1
  have Hmk := Lib.hid hmk
  have Hb := Lib.hid hb
  clear hmk hb
  go_wp2_with fail
  refine (at_any w1 b _ _ _ c1 c2).mono ?_
  rintro e w' ⟨rfl, rfl⟩
  generalize hT : (if (s.m n).any = true ∧ now < (s.m n).last then (s.m n).last else now) = T
  have HT := Lib.hid hT
  clear hT
  go_wp2_with fail
  -- the world ahead of the append, as a whole
  have hm2 : MkAt ((w1.setCell ⟨b, 1, none⟩ (.int .i64 T)).setCell ⟨b, 2, none⟩ (.bool true)) b a cap ⟨false, T, true, (s.m n).times⟩ := by
    refine ⟨?_, Hmk.out.2.kept fun t hta => ?_⟩
    · rw [block_setCell (block_setCell Hmk.out.1 1 _) 2 _, Hoff.out]; rfl
    · have : t.block ≠ b := fun e => Hmk.out.ne (by rw [hta, ← e]; rfl)
      rw [Below.heap_setCell _ _ _ _ this, Below.heap_setCell _ _ _ _ this]
  have h2 : SwAt ((w1.setCell ⟨b, 1, none⟩ (.int .i64 T)).setCell ⟨b, 2, none⟩ (.bool true)) k mb (s.set n ⟨false, T, true, (s.m n).times⟩) O1 B1 := by
    refine h1.put Hb.out (fun i _ hi => ?_) (fun _ _ => rfl) hm2 ht
    have hib : i ≠ b := fun e => hi (by rw [e]; exact ho)
    rw [Below.heap_setCell _ _ _ _ hib, Below.heap_setCell _ _ _ _ hib]
  have hg2 : Grow O O1 w ((w1.setCell ⟨b, 1, none⟩ (.int .i64 T)).setCell ⟨b, 2, none⟩ (.bool true)) :=
    hg.trans ⟨((Kept.refl _ _).setCell (fun _ => by show O1 b ≠ none; rw [ho]; simp) _).setCell (fun _ => by show O1 b ≠ none; rw [ho]; simp) _, fun _ _ => rfl⟩
  clear c0 c1 c2 c3 f1 f2 f3 Hmk hg h1 hbl
  generalize (w1.setCell ⟨b, 1, none⟩ (.int .i64 T)).setCell ⟨b, 2, none⟩ (.bool true) = w2 at hm2 h2 hg2 ⊢
  go_cut [] (fun wx => FillMid k mb s O B1 n ⟨false, T, true, (s.m n).times ++ [T]⟩ w wx)
  case first =>
    have c1 : w2.cell? ⟨b, 1, none⟩ = some (.int .i64 T) := by rw [cell_of_block hm2.1]; rfl
    have c3 : w2.cell? ⟨b, 3, none⟩ = some (.slice a (s.m n).times.length cap) := by rw [cell_of_block hm2.1]; rfl
    have hbl := lt_of_block hm2.1
    have hne := hm2.ne
    have Hne := Lib.hid hne
    clear hne
    have Ht := Lib.hid ht
    have Ho := Lib.hid ho
    clear ht ho
    go_region_law (
      (refine step_append_sl rfl (.tmp 28) (.tmp 33) 39 rfl 2 i0 (.int .i64 0) 1 8 Try.underlying39 hi hz0 hz1 hz2 rfl (by decide) a (s.m n).times.length cap ((s.m n).times.map (Value.int .i64)) rfl (by exact hm2.2.kept fun t ht => Below.heap_alloc _ _ _ (hm2.2.lt t ht)) ⟨w2.heap.size, 0, none⟩ 1 1 [.int .i64 T] rfl rfl
        (by exact World.news_of_block (block_alloc_new w2 _)) (by intro u hu; simp at hu; subst hu; rfl) (by unfold maxLen; omega) (by omega) (by decide) ?_
       intro a' cap' w3 hsl hg3 hb3
       have hw3 : w3.heap[b]? = _ := ((hg3.block b (by simp; omega) Hne.out).trans (Below.heap_alloc _ _ _ hbl)).trans hm2.1
       have c3' : w3.cell? ⟨b, 3, none⟩ = some (.slice a (s.m n).times.length cap) := by rw [cell_of_block hw3]; rfl
       have f3' : w3.frozen? ⟨b, 3, none⟩ = false := free_of_block hw3 3
       clear hw3))
    all_goals (go_wp2_with fail; go_meet; exact append_mid h2 Hb.out hm2 hg2 Ht.out hsl hg3 hb3)
  case rest =>
    obtain ⟨O2, h4, hg4⟩ := hcut
    obtain ⟨ho4, a4, cap4, hm4, ht4⟩ := h4.at_ n b Hb.out
    rw [set_at] at hm4
    have k0 : wc.cell? ⟨k, 0, none⟩ = some (.int .i64 s.fills) := by rw [cell_of_block h4.sw]; rfl
    have e3 : wc.cell? ⟨b, 3, none⟩ = some (.slice a4 ((s.m n).times.length + 1) cap4) := by rw [cell_of_block hm4.1]; simp
    have f3 := free_of_block hm4.1 3
    go_wp2_with fail
    go_quiet (fail)
    go_upto_if 46 with (fail)
    go_cut [] (fun wx => FillMid k mb s O B1 n ⟨false, T, true, rowT s T (s.m n).times⟩ w wx)
    case first =>
      by_cases hlong : s.fills < ((s.m n).times.length : Int) + 1
      · obtain ⟨t, o, rfl⟩ : ∃ t o, a4 = some ⟨t, o, none⟩ := by
          rcases hm4.2.2.2 with ⟨_, hc⟩ | ⟨t, o, arr, ha, _⟩
          · have := hm4.2.2.1; simp at this; omega
          · exact ⟨t, o, ha⟩
        have hcap : (s.m n).times.length + 1 ≤ cap4 := by have := hm4.2.2.1; simpa using this
        by_cases hone : cap4 = 1
        · subst hone
          have Hl := Lib.hid hlong
          go_wp2
          go_meet
          have hrow : rowT s T (s.m n).times = ((s.m n).times ++ [T]).tail := by rw [rowT, if_pos Hl.out]
          have hlt : ((s.m n).times ++ [T]).tail.length = (s.m n).times.length := by simp
          have := cut_mid (a' := some ⟨t, o, none⟩) (ts' := ((s.m n).times ++ [T]).tail) (cap' := 0) (h4.drewN nq) Hb.out hm4 (hg4.drewN nq) ht4 (by rw [hlt, List.map_tail]; exact (show SlAt wc 2 1 _ ((s.m n).times.length + 1) 1 _ by simpa using hm4.2).tail_one) (fun t ht => ⟨_, rfl, by cases ht; rfl⟩)
          have hz : (s.m n).times.length = 0 := by omega
          rw [hlt, hz] at this
          rw [hrow]
          exact this
        · have hone' : 1 < cap4 := by omega
          have Hl := Lib.hid hlong
          go_wp2
          go_meet
          have hrow : rowT s T (s.m n).times = ((s.m n).times ++ [T]).tail := by rw [rowT, if_pos Hl.out]
          have hlt : ((s.m n).times ++ [T]).tail.length = (s.m n).times.length := by simp
          have := cut_mid (a' := some ⟨t, o + 1, none⟩) (ts' := ((s.m n).times ++ [T]).tail) (cap' := cap4 - 1) (h4.drewN nq) Hb.out hm4 (hg4.drewN nq) ht4 (by rw [hlt, List.map_tail]; exact (show SlAt wc 2 1 _ ((s.m n).times.length + 1) cap4 _ by simpa using hm4.2).tail hone') (fun t ht => ⟨_, rfl, by cases ht; rfl⟩)
          rw [hlt] at this
          rw [hrow]
          exact this
      · have Hl := Lib.hid hlong
        go_wp2
        go_meet
        have hrow : rowT s T (s.m n).times = (s.m n).times ++ [T] := by rw [rowT, if_neg (by have := Hl.out; omega)]
        rw [hrow]
        exact ⟨O2, h4.drewN _, hg4.drewN _⟩
    case rest =>
      obtain ⟨O5, h5, hg5⟩ := hcut
      obtain ⟨ho5, a5, cap5, hm5, ht5⟩ := h5.at_ n b Hb.out
      rw [set_at] at hm5
      have k0 : wc.cell? ⟨k, 0, none⟩ = some (.int .i64 s.fills) := by rw [cell_of_block h5.sw]; rfl
      have k1 : wc.cell? ⟨k, 1, none⟩ = some (.int .i64 s.window) := by rw [cell_of_block h5.sw]; rfl
      have e1 : wc.cell? ⟨b, 1, none⟩ = some (.int .i64 T) := by rw [cell_of_block hm5.1]; rfl
      have e3 : wc.cell? ⟨b, 3, none⟩ = some (.slice a5 (rowT s T (s.m n).times).length cap5) := by rw [cell_of_block hm5.1]; rfl
      have hrl : (rowT s T (s.m n).times).length ≤ 1000000 := by
        unfold rowT; split <;> simp <;> omega
      have Hcnt : Hid (∀ q, Calls Try.prog 14 #[.pointer (some ⟨k, 0, none⟩), .pointer (some ⟨b, 0, none⟩), .int .i64 T] (wc.drewN q) fun e w' => e = .returned (.int .i64 (cnt s.window T (rowT s T (s.m n).times))) ∧ w' = wc.drewN q) :=
        fun q => (count_any (w := wc.drewN q) (W := s.window) (now := T) (xs := rowT s T (s.m n).times) k1 e3 (hm5.2.kept fun _ _ => rfl) hrl).mono fun e w' h => ⟨h.2, h.1.symm⟩
      clear k1 e3 hrl
      go_wp2_with fail
      go_quiet ((go_at_call 14; exact Calls.quiet_of_same (Hcnt.out _)))
      by_cases hend : (cnt s.window T (rowT s T (s.m n).times) : Int) < s.fills
      · have Hend := Lib.hid hend
        go_wp2_with fail
        go_ret
        obtain ⟨r1, r2⟩ := fill_no (now := now) Hoff.out HT.out Hend.out
        rw [r1, r2]
        exact ⟨O5, B1, rfl, h5.drewN _, hg5.drewN _⟩
      · have Hend := Lib.hid hend
        go_wp2_with fail
        refine (trip_any (h5.drewN _) n).mono ?_
        rintro e w6 ⟨O6, B6, rfl, h6, hg6⟩
        go_wp2_with fail
        go_ret
        obtain ⟨r1, r2⟩ := fill_yes (now := now) Hoff.out HT.out (by have := Hend.out; omega)
        rw [r1, r2]
        rw [set_set, set_at] at h6
        exact ⟨O6, B6, by rw [set_at]; rfl, h6, (hg5.drewN _).trans hg6⟩

theorem fill_any {w : World} {k mb : Nat} {s : KS} {O : Nat → Option (Option Int)} {B : Int → Option Nat} (h : SwAt w k mb s O B) (n now : Int) (hlen : (s.m n).times.length ≤ 1000) :
    Calls Try.prog 7 #[.pointer (some ⟨k, 0, none⟩), .int .i64 n, .int .i64 now] w (FillPost k mb s O n (fillR s (s.m n) now) (fillM s (s.m n) now) w) := by
  cases hoff : (s.m n).off with
  | true =>
    have := fill_off h n now hoff
    rwa [show fillR s (s.m n) now = false by simp [fillR, hoff], show fillM s (s.m n) now = s.m n by simp [fillM, hoff]]
  | false => exact fill_on h n now hoff hlen
end Go.Proofs.Ytpcacnlkhicekaa
