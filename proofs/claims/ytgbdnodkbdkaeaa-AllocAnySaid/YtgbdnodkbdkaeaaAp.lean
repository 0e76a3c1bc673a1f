/- Alloc: legs by the reference: whether they may be: Check 25, At 41. -/
import Derived.Test.YtgbdnodkbdkaeaaAo
namespace Go.Proofs.Ytgbdnodkbdkaeaa
open Go Go.RowKit

def AtPost (n : Int) (w : World) (e : Ending) (w' : World) : Prop := ∃ v : Value, v.oneCell' = true ∧ v.cells = #[v] ∧ e = .returned (.agg #[v, .int .i64 n]) ∧ Kept (fun _ => False) w w'
set_option maxHeartbeats 1000000 in
theorem at_any (s : ByteArray) (k n : Int) (w : World) : Calls Try.prog 41 #[.string s, .int .i64 k, .int .i64 n] w fun e w' => ∃ a, e = .returned (.agg #[.slice (some a) 1 1, .int .i64 n]) ∧ Kept (fun _ => False) w w' := by
  go_enter Try.func41, Try.ntmps41
  go_wp2
  exact bodyPost_ret (v := .agg #[.slice (some ⟨w.heap.size + 1, 0, none⟩) 1 1, .int .i64 n]) (by simp [results, Try.results41, go_sem]) rfl ⟨_, rfl, ((Kept.refl _ w).alloc _).alloc _⟩
/-- What the reference's Check answers. -/
def WrPost (g : Bool) (w : World) (e : Ending) (w' : World) : Prop := ∃ (v : Value) (n : Int), e = .returned (.agg #[v, .int .i64 n]) ∧ Kept (fun _ => False) w w' ∧ ((g = true ∧ v = .slice none 0 0 ∧ n = 0) ∨ (g = false ∧ (∃ a, v = .slice (some a) 1 1) ∧ (n = 1 ∨ n = 6)))
theorem block_w0 (w : World) : (w.alloc (.cells #[.slice none 0 0, .int .i64 0] 64)).heap[w.heap.size]? = some (.cells #[.slice none 0 0, .int .i64 0] 64 (0, 0)) := block_new3 _ _
def CrRel (ls : List Lg) (w0 : World) (iv : Value) (wr : World) : Prop := ∃ i : Nat, i ≤ ls.length ∧ iv = .int .i64 i ∧ uptoB ls i = true ∧ Kept (fun _ => False) w0 wr
def CiRel (ls : List Lg) (i : Nat) (ser : Int) (w0 : World) (kv : Value) (wr : World) : Prop := ∃ k : Nat, k ≤ i ∧ kv = .int .i64 k ∧ (∀ j, j < k → ((lgAt ls j).ser == ser) = false) ∧ Kept (fun _ => False) w0 wr
set_option maxRecDepth 100000 in
set_option maxHeartbeats 1000000 in
theorem rcheck_short {w : World} {a : Option Addr} {len cap : Nat} (hl : len ≤ maxLen) (h : len < 2 ∨ 4 < len) :
    Calls Try.prog 25 #[.slice a len cap] w (WrPost false w) := by
  unfold maxLen at hl
  have hrb := block_w0 w
  have hk0 : Kept (fun _ => False) w (w.alloc (.cells #[.slice none 0 0, .int .i64 0] 64)) := (Kept.refl _ _).alloc _
  rcases h with h | h
  all_goals
    go_enter Try.func25, Try.ntmps25
    go_upto_region 1 with fail
    generalize hrbe : w.heap.size = rb at hrb ⊢
    have hrbn : w.heap.size ≤ rb := by omega
    clear hrbe
    generalize w.alloc (.cells #[.slice none 0 0, .int .i64 0] 64) = w0 at hrb hk0 ⊢
    go_wp2_with fail
    refine (at_any _ _ _ _).mono ?_
    rintro e w1 ⟨a, rfl, k1⟩
    have hr2 := (k1.block rb (lt_of_block hrb) (fun h => h)).trans hrb
    have hr20 : w1.cell? ⟨rb, 0, none⟩ = some (.slice none 0 0) := by rw [cell_of_block hr2]; rfl
    have hr21 : w1.cell? ⟨rb, 1, none⟩ = some (.int .i64 0) := by rw [cell_of_block hr2]; rfl
    have hfz := free_of_block hr2
    have hb9 : ((w1.setCell ⟨rb, 0, none⟩ (.slice (some a) 1 1)).setCell ⟨rb, 1, none⟩ (.int .i64 1)).heap[rb]? = some (.cells #[.slice (some a) 1 1, .int .i64 1] 64 (0, 0)) := by
      rw [block_setCell (block_setCell hr2 _ _) _ _]; rfl
    have hk9 : Kept (fun _ => False) w ((w1.setCell ⟨rb, 0, none⟩ (.slice (some a) 1 1)).setCell ⟨rb, 1, none⟩ (.int .i64 1)) := by
      refine Kept.trans' (G := fun j => j = rb) hk0 ?_ (fun j hj h => by have h1 := hrbn; omega)
      exact ((k1.mono (G := fun j => j = rb) (fun j _ h => h.elim)).setCell (p := ⟨rb, 0, none⟩) (fun _ => rfl) _).setCell (p := ⟨rb, 1, none⟩) (fun _ => rfl) _
    go_wp2
    change bodyPost _ _ _ _ _ ((w1.setCell ⟨rb, 0, none⟩ (.slice (some a) 1 1)).setCell ⟨rb, 1, none⟩ (.int .i64 1))
    generalize (w1.setCell ⟨rb, 0, none⟩ (.slice (some a) 1 1)).setCell ⟨rb, 1, none⟩ (.int .i64 1) = wf at hb9 hk9 ⊢
    have r0 : wf.cell? ⟨rb, 0, none⟩ = some (.slice (some a) 1 1) := by rw [cell_of_block hb9]; rfl
    have r1 : wf.cell? ⟨rb, 1, none⟩ = some (.int .i64 1) := by rw [cell_of_block hb9]; rfl
    exact bodyPost_ret (v := .agg #[.slice (some a) 1 1, .int .i64 1]) (by simp [results, Try.results25, go_sem, r0, r1]) rfl ⟨.slice (some a) 1 1, 1, rfl, hk9, .inr ⟨rfl, ⟨a, rfl⟩, .inl rfl⟩⟩

set_option maxRecDepth 100000 in
set_option maxHeartbeats 2000000 in
theorem rcheck_any {w : World} {b off cap : Nat} {ls : List Lg} (h2 : 2 ≤ ls.length) (h4 : ls.length ≤ 4) (hs : LgAt w b off ls) :
    Calls Try.prog 25 #[.slice (some ⟨b, off, none⟩) ls.length cap] w (WrPost (checkB ls) w) := by
  have hrb := block_w0 w
  have hk0 : Kept (fun _ => False) w (w.alloc (.cells #[.slice none 0 0, .int .i64 0] 64)) := (Kept.refl _ _).alloc _
  have Hs := Lib.hid (hs.kept hk0)
  obtain ⟨n, hn⟩ : ∃ n, ls.length = n := ⟨_, rfl⟩
  have Hn := Lib.hid hn
  rw [hn] at h2 h4 ⊢
  clear hs hn
  go_enter Try.func25, Try.ntmps25
  go_upto_region 1 with fail
  generalize hrbe : w.heap.size = rb at hrb ⊢
  have hrbn : w.heap.size ≤ rb := by omega
  clear hrbe
  generalize w.alloc (.cells #[.slice none 0 0, .int .i64 0] 64) = w0 at hrb hk0 Hs ⊢
  have Hrbn := Lib.hid hrbn
  have Hk0 := Lib.hid hk0
  clear hrbn hk0
  go_wp2_with fail
  go_loopw [3] (fun iv wr => CrRel ls w0 iv wr) (fun iv _ => n - (intOf iv).toNat)
  case atStart => exact ⟨0, Nat.zero_le _, rfl, rfl, Kept.refl _ _⟩
  case round =>
    obtain ⟨i, hi, rfl, hup, hk⟩ := hrel
    have hin : i ≤ n := by have := Hn.out; omega
    have Hup := Lib.hid hup
    clear hi hup
    by_cases hlt : i < n
    · have hb2 : (0 : Int) ≤ (i : Int) := by omega
      have hb3 : (i : Int) < (n : Int) := by omega
      obtain ⟨c0, c1, c2⟩ := (Hs.out.kept hk) i (by have := Hn.out; omega)
      obtain ⟨y, hy⟩ : ∃ y, lgAt ls i = y := ⟨_, rfl⟩
      rw [hy] at c0 c1 c2
      have Hy := Lib.hid hy
      clear hy
      obtain ⟨ser, sgn, rat⟩ := y
      simp only at c0 c1 c2
      have hbad : Hid (goodL ⟨ser, sgn, rat⟩ = false → checkB ls = false) := fun h => 
        check_bad (i := i) (by have := Hn.out; omega) (.inl (by rw [Hy.out]; exact h))
      have hcs : (ser < 1) ∨ (1 ≤ ser ∧ sgn ≠ 1 ∧ sgn ≠ -1) ∨ (1 ≤ ser ∧ sgn = 1 ∧ rat < 1) ∨ (1 ≤ ser ∧ sgn = 1 ∧ 1 ≤ rat ∧ 4 < rat) ∨ (1 ≤ ser ∧ sgn = -1 ∧ rat < 1) ∨ (1 ≤ ser ∧ sgn = -1 ∧ 1 ≤ rat ∧ 4 < rat) ∨ (1 ≤ ser ∧ sgn = 1 ∧ 1 ≤ rat ∧ rat ≤ 4) ∨ (1 ≤ ser ∧ sgn = -1 ∧ 1 ≤ rat ∧ rat ≤ 4) := by omega
      rcases hcs with g1 | ⟨g1, g2, g3⟩ | ⟨g1, rfl, g2⟩ | ⟨g1, rfl, g2, g3⟩ | ⟨g1, rfl, g2⟩ | ⟨g1, rfl, g2, g3⟩ | ⟨g1, rfl, g2, g3⟩ | ⟨g1, rfl, g2, g3⟩
      · have hB := Lib.hid (hbad.out (by simp [goodL]; omega))
        clear hbad
        clear Hup Hs Hy
        go_wp2_with fail
        refine (at_any _ _ _ _).mono ?_
        rintro e w2 ⟨a, rfl, k2⟩
        have hk2 := hk.trans k2
        clear c0 c1 c2 hk
        have hr2 := (hk2.block rb (lt_of_block hrb) (fun h => h)).trans hrb
        have hr20 : w2.cell? ⟨rb, 0, none⟩ = some (.slice none 0 0) := by rw [cell_of_block hr2]; rfl
        have hr21 : w2.cell? ⟨rb, 1, none⟩ = some (.int .i64 0) := by rw [cell_of_block hr2]; rfl
        have hfz := free_of_block hr2
        have hb9 : ((w2.setCell ⟨rb, 0, none⟩ (.slice (some a) 1 1)).setCell ⟨rb, 1, none⟩ (.int .i64 1)).heap[rb]? = some (.cells #[.slice (some a) 1 1, .int .i64 1] 64 (0, 0)) := by
          rw [block_setCell (block_setCell hr2 _ _) _ _]; rfl
        have hk9 : Kept (fun _ => False) w ((w2.setCell ⟨rb, 0, none⟩ (.slice (some a) 1 1)).setCell ⟨rb, 1, none⟩ (.int .i64 1)) := by
          refine Kept.trans' (G := fun j => j = rb) Hk0.out ?_ (fun j hj h => by have h1 := Hrbn.out; omega)
          exact ((hk2.mono (G := fun j => j = rb) (fun j _ h => h.elim)).setCell (p := ⟨rb, 0, none⟩) (fun _ => rfl) _).setCell (p := ⟨rb, 1, none⟩) (fun _ => rfl) _
        go_wp2
        change bodyPost _ _ _ _ _ ((w2.setCell ⟨rb, 0, none⟩ (.slice (some a) 1 1)).setCell ⟨rb, 1, none⟩ (.int .i64 1))
        generalize (w2.setCell ⟨rb, 0, none⟩ (.slice (some a) 1 1)).setCell ⟨rb, 1, none⟩ (.int .i64 1) = wf at hb9 hk9 ⊢
        have r0 : wf.cell? ⟨rb, 0, none⟩ = some (.slice (some a) 1 1) := by rw [cell_of_block hb9]; rfl
        have r1 : wf.cell? ⟨rb, 1, none⟩ = some (.int .i64 1) := by rw [cell_of_block hb9]; rfl
        exact bodyPost_ret (v := .agg #[.slice (some a) 1 1, .int .i64 1]) (by simp [results, Try.results25, go_sem, r0, r1]) rfl ⟨.slice (some a) 1 1, 1, rfl, hk9, .inr ⟨hB.out, ⟨a, rfl⟩, .inl rfl⟩⟩
      · have hB := Lib.hid (hbad.out (by simp [goodL]; omega))
        clear hbad
        clear Hup Hs Hy
        go_wp2_with fail
        refine (at_any _ _ _ _).mono ?_
        rintro e w2 ⟨a, rfl, k2⟩
        have hk2 := hk.trans k2
        clear c0 c1 c2 hk
        have hr2 := (hk2.block rb (lt_of_block hrb) (fun h => h)).trans hrb
        have hr20 : w2.cell? ⟨rb, 0, none⟩ = some (.slice none 0 0) := by rw [cell_of_block hr2]; rfl
        have hr21 : w2.cell? ⟨rb, 1, none⟩ = some (.int .i64 0) := by rw [cell_of_block hr2]; rfl
        have hfz := free_of_block hr2
        have hb9 : ((w2.setCell ⟨rb, 0, none⟩ (.slice (some a) 1 1)).setCell ⟨rb, 1, none⟩ (.int .i64 1)).heap[rb]? = some (.cells #[.slice (some a) 1 1, .int .i64 1] 64 (0, 0)) := by
          rw [block_setCell (block_setCell hr2 _ _) _ _]; rfl
        have hk9 : Kept (fun _ => False) w ((w2.setCell ⟨rb, 0, none⟩ (.slice (some a) 1 1)).setCell ⟨rb, 1, none⟩ (.int .i64 1)) := by
          refine Kept.trans' (G := fun j => j = rb) Hk0.out ?_ (fun j hj h => by have h1 := Hrbn.out; omega)
          exact ((hk2.mono (G := fun j => j = rb) (fun j _ h => h.elim)).setCell (p := ⟨rb, 0, none⟩) (fun _ => rfl) _).setCell (p := ⟨rb, 1, none⟩) (fun _ => rfl) _
        go_wp2
        change bodyPost _ _ _ _ _ ((w2.setCell ⟨rb, 0, none⟩ (.slice (some a) 1 1)).setCell ⟨rb, 1, none⟩ (.int .i64 1))
        generalize (w2.setCell ⟨rb, 0, none⟩ (.slice (some a) 1 1)).setCell ⟨rb, 1, none⟩ (.int .i64 1) = wf at hb9 hk9 ⊢
        have r0 : wf.cell? ⟨rb, 0, none⟩ = some (.slice (some a) 1 1) := by rw [cell_of_block hb9]; rfl
        have r1 : wf.cell? ⟨rb, 1, none⟩ = some (.int .i64 1) := by rw [cell_of_block hb9]; rfl
        exact bodyPost_ret (v := .agg #[.slice (some a) 1 1, .int .i64 1]) (by simp [results, Try.results25, go_sem, r0, r1]) rfl ⟨.slice (some a) 1 1, 1, rfl, hk9, .inr ⟨hB.out, ⟨a, rfl⟩, .inl rfl⟩⟩
      · have hB := Lib.hid (hbad.out (by simp [goodL]; omega))
        clear hbad
        clear Hup Hs Hy
        go_wp2_with fail
        refine (at_any _ _ _ _).mono ?_
        rintro e w2 ⟨a, rfl, k2⟩
        have hk2 := hk.trans k2
        clear c0 c1 c2 hk
        have hr2 := (hk2.block rb (lt_of_block hrb) (fun h => h)).trans hrb
        have hr20 : w2.cell? ⟨rb, 0, none⟩ = some (.slice none 0 0) := by rw [cell_of_block hr2]; rfl
        have hr21 : w2.cell? ⟨rb, 1, none⟩ = some (.int .i64 0) := by rw [cell_of_block hr2]; rfl
        have hfz := free_of_block hr2
        have hb9 : ((w2.setCell ⟨rb, 0, none⟩ (.slice (some a) 1 1)).setCell ⟨rb, 1, none⟩ (.int .i64 1)).heap[rb]? = some (.cells #[.slice (some a) 1 1, .int .i64 1] 64 (0, 0)) := by
          rw [block_setCell (block_setCell hr2 _ _) _ _]; rfl
        have hk9 : Kept (fun _ => False) w ((w2.setCell ⟨rb, 0, none⟩ (.slice (some a) 1 1)).setCell ⟨rb, 1, none⟩ (.int .i64 1)) := by
          refine Kept.trans' (G := fun j => j = rb) Hk0.out ?_ (fun j hj h => by have h1 := Hrbn.out; omega)
          exact ((hk2.mono (G := fun j => j = rb) (fun j _ h => h.elim)).setCell (p := ⟨rb, 0, none⟩) (fun _ => rfl) _).setCell (p := ⟨rb, 1, none⟩) (fun _ => rfl) _
        go_wp2
        change bodyPost _ _ _ _ _ ((w2.setCell ⟨rb, 0, none⟩ (.slice (some a) 1 1)).setCell ⟨rb, 1, none⟩ (.int .i64 1))
        generalize (w2.setCell ⟨rb, 0, none⟩ (.slice (some a) 1 1)).setCell ⟨rb, 1, none⟩ (.int .i64 1) = wf at hb9 hk9 ⊢
        have r0 : wf.cell? ⟨rb, 0, none⟩ = some (.slice (some a) 1 1) := by rw [cell_of_block hb9]; rfl
        have r1 : wf.cell? ⟨rb, 1, none⟩ = some (.int .i64 1) := by rw [cell_of_block hb9]; rfl
        exact bodyPost_ret (v := .agg #[.slice (some a) 1 1, .int .i64 1]) (by simp [results, Try.results25, go_sem, r0, r1]) rfl ⟨.slice (some a) 1 1, 1, rfl, hk9, .inr ⟨hB.out, ⟨a, rfl⟩, .inl rfl⟩⟩
      · have hB := Lib.hid (hbad.out (by simp [goodL]; omega))
        clear hbad
        clear Hup Hs Hy
        go_wp2_with fail
        refine (at_any _ _ _ _).mono ?_
        rintro e w2 ⟨a, rfl, k2⟩
        have hk2 := hk.trans k2
        clear c0 c1 c2 hk
        have hr2 := (hk2.block rb (lt_of_block hrb) (fun h => h)).trans hrb
        have hr20 : w2.cell? ⟨rb, 0, none⟩ = some (.slice none 0 0) := by rw [cell_of_block hr2]; rfl
        have hr21 : w2.cell? ⟨rb, 1, none⟩ = some (.int .i64 0) := by rw [cell_of_block hr2]; rfl
        have hfz := free_of_block hr2
        have hb9 : ((w2.setCell ⟨rb, 0, none⟩ (.slice (some a) 1 1)).setCell ⟨rb, 1, none⟩ (.int .i64 1)).heap[rb]? = some (.cells #[.slice (some a) 1 1, .int .i64 1] 64 (0, 0)) := by
          rw [block_setCell (block_setCell hr2 _ _) _ _]; rfl
        have hk9 : Kept (fun _ => False) w ((w2.setCell ⟨rb, 0, none⟩ (.slice (some a) 1 1)).setCell ⟨rb, 1, none⟩ (.int .i64 1)) := by
          refine Kept.trans' (G := fun j => j = rb) Hk0.out ?_ (fun j hj h => by have h1 := Hrbn.out; omega)
          exact ((hk2.mono (G := fun j => j = rb) (fun j _ h => h.elim)).setCell (p := ⟨rb, 0, none⟩) (fun _ => rfl) _).setCell (p := ⟨rb, 1, none⟩) (fun _ => rfl) _
        go_wp2
        change bodyPost _ _ _ _ _ ((w2.setCell ⟨rb, 0, none⟩ (.slice (some a) 1 1)).setCell ⟨rb, 1, none⟩ (.int .i64 1))
        generalize (w2.setCell ⟨rb, 0, none⟩ (.slice (some a) 1 1)).setCell ⟨rb, 1, none⟩ (.int .i64 1) = wf at hb9 hk9 ⊢
        have r0 : wf.cell? ⟨rb, 0, none⟩ = some (.slice (some a) 1 1) := by rw [cell_of_block hb9]; rfl
        have r1 : wf.cell? ⟨rb, 1, none⟩ = some (.int .i64 1) := by rw [cell_of_block hb9]; rfl
        exact bodyPost_ret (v := .agg #[.slice (some a) 1 1, .int .i64 1]) (by simp [results, Try.results25, go_sem, r0, r1]) rfl ⟨.slice (some a) 1 1, 1, rfl, hk9, .inr ⟨hB.out, ⟨a, rfl⟩, .inl rfl⟩⟩
      · have hB := Lib.hid (hbad.out (by simp [goodL]; omega))
        clear hbad
        clear Hup Hs Hy
        go_wp2_with fail
        refine (at_any _ _ _ _).mono ?_
        rintro e w2 ⟨a, rfl, k2⟩
        have hk2 := hk.trans k2
        clear c0 c1 c2 hk
        have hr2 := (hk2.block rb (lt_of_block hrb) (fun h => h)).trans hrb
        have hr20 : w2.cell? ⟨rb, 0, none⟩ = some (.slice none 0 0) := by rw [cell_of_block hr2]; rfl
        have hr21 : w2.cell? ⟨rb, 1, none⟩ = some (.int .i64 0) := by rw [cell_of_block hr2]; rfl
        have hfz := free_of_block hr2
        have hb9 : ((w2.setCell ⟨rb, 0, none⟩ (.slice (some a) 1 1)).setCell ⟨rb, 1, none⟩ (.int .i64 1)).heap[rb]? = some (.cells #[.slice (some a) 1 1, .int .i64 1] 64 (0, 0)) := by
          rw [block_setCell (block_setCell hr2 _ _) _ _]; rfl
        have hk9 : Kept (fun _ => False) w ((w2.setCell ⟨rb, 0, none⟩ (.slice (some a) 1 1)).setCell ⟨rb, 1, none⟩ (.int .i64 1)) := by
          refine Kept.trans' (G := fun j => j = rb) Hk0.out ?_ (fun j hj h => by have h1 := Hrbn.out; omega)
          exact ((hk2.mono (G := fun j => j = rb) (fun j _ h => h.elim)).setCell (p := ⟨rb, 0, none⟩) (fun _ => rfl) _).setCell (p := ⟨rb, 1, none⟩) (fun _ => rfl) _
        go_wp2
        change bodyPost _ _ _ _ _ ((w2.setCell ⟨rb, 0, none⟩ (.slice (some a) 1 1)).setCell ⟨rb, 1, none⟩ (.int .i64 1))
        generalize (w2.setCell ⟨rb, 0, none⟩ (.slice (some a) 1 1)).setCell ⟨rb, 1, none⟩ (.int .i64 1) = wf at hb9 hk9 ⊢
        have r0 : wf.cell? ⟨rb, 0, none⟩ = some (.slice (some a) 1 1) := by rw [cell_of_block hb9]; rfl
        have r1 : wf.cell? ⟨rb, 1, none⟩ = some (.int .i64 1) := by rw [cell_of_block hb9]; rfl
        exact bodyPost_ret (v := .agg #[.slice (some a) 1 1, .int .i64 1]) (by simp [results, Try.results25, go_sem, r0, r1]) rfl ⟨.slice (some a) 1 1, 1, rfl, hk9, .inr ⟨hB.out, ⟨a, rfl⟩, .inl rfl⟩⟩
      · have hB := Lib.hid (hbad.out (by simp [goodL]; omega))
        clear hbad
        clear Hup Hs Hy
        go_wp2_with fail
        refine (at_any _ _ _ _).mono ?_
        rintro e w2 ⟨a, rfl, k2⟩
        have hk2 := hk.trans k2
        clear c0 c1 c2 hk
        have hr2 := (hk2.block rb (lt_of_block hrb) (fun h => h)).trans hrb
        have hr20 : w2.cell? ⟨rb, 0, none⟩ = some (.slice none 0 0) := by rw [cell_of_block hr2]; rfl
        have hr21 : w2.cell? ⟨rb, 1, none⟩ = some (.int .i64 0) := by rw [cell_of_block hr2]; rfl
        have hfz := free_of_block hr2
        have hb9 : ((w2.setCell ⟨rb, 0, none⟩ (.slice (some a) 1 1)).setCell ⟨rb, 1, none⟩ (.int .i64 1)).heap[rb]? = some (.cells #[.slice (some a) 1 1, .int .i64 1] 64 (0, 0)) := by
          rw [block_setCell (block_setCell hr2 _ _) _ _]; rfl
        have hk9 : Kept (fun _ => False) w ((w2.setCell ⟨rb, 0, none⟩ (.slice (some a) 1 1)).setCell ⟨rb, 1, none⟩ (.int .i64 1)) := by
          refine Kept.trans' (G := fun j => j = rb) Hk0.out ?_ (fun j hj h => by have h1 := Hrbn.out; omega)
          exact ((hk2.mono (G := fun j => j = rb) (fun j _ h => h.elim)).setCell (p := ⟨rb, 0, none⟩) (fun _ => rfl) _).setCell (p := ⟨rb, 1, none⟩) (fun _ => rfl) _
        go_wp2
        change bodyPost _ _ _ _ _ ((w2.setCell ⟨rb, 0, none⟩ (.slice (some a) 1 1)).setCell ⟨rb, 1, none⟩ (.int .i64 1))
        generalize (w2.setCell ⟨rb, 0, none⟩ (.slice (some a) 1 1)).setCell ⟨rb, 1, none⟩ (.int .i64 1) = wf at hb9 hk9 ⊢
        have r0 : wf.cell? ⟨rb, 0, none⟩ = some (.slice (some a) 1 1) := by rw [cell_of_block hb9]; rfl
        have r1 : wf.cell? ⟨rb, 1, none⟩ = some (.int .i64 1) := by rw [cell_of_block hb9]; rfl
        exact bodyPost_ret (v := .agg #[.slice (some a) 1 1, .int .i64 1]) (by simp [results, Try.results25, go_sem, r0, r1]) rfl ⟨.slice (some a) 1 1, 1, rfl, hk9, .inr ⟨hB.out, ⟨a, rfl⟩, .inl rfl⟩⟩
      · have hgd : Hid (goodL ⟨ser, 1, rat⟩ = true) := by show _ = _; simp [goodL]; omega
        clear hbad
        go_wp2_with fail
        clear c0 c1 c2
        go_loopw [4] (fun kv wk => CiRel ls i ser wr kv wk) (fun kv _ => i - (intOf kv).toNat)
        case atStart => exact ⟨0, Nat.zero_le _, rfl, fun j hj => by omega, Kept.refl _ _⟩
        case round =>
          obtain ⟨k, hki, rfl, hno, hkk⟩ := hrel
          have Hno := Lib.hid hno
          clear hno
          by_cases hlk : k < i
          · have hk2 := hk.trans hkk
            obtain ⟨d0, d1, d2⟩ := (Hs.out.kept hk2) k (by have := Hn.out; omega)
            obtain ⟨e0, e1, e2⟩ := (Hs.out.kept hk2) i (by have := Hn.out; omega)
            rw [Hy.out] at e0
            obtain ⟨z, hz⟩ : ∃ z, (lgAt ls k).ser = z := ⟨_, rfl⟩
            rw [hz] at d0
            have Hz := Lib.hid hz
            simp only at e0
            obtain ⟨m, hm⟩ : ∃ m, (z == ser) = m := ⟨_, rfl⟩
            have q1 : (0 : Int) ≤ (k : Int) := by omega
            have q2 : (k : Int) < (n : Int) := by omega
            clear d1 d2 e1 e2 hz
            cases m with
            | true =>
              have hB : Hid (checkB ls = false) := check_bad (i := i) (by have := Hn.out; omega) (.inr (by rw [Hy.out]; exact anyB_true (j := k) (by have := Hn.out; omega) hlk (by rw [Hz.out]; exact hm)))
              go_wp2_with fail
              go_quiet (fail)
              go_wp2_with fail
              refine (at_any _ _ _ _).mono ?_
              rintro e w2 ⟨a, rfl, k2⟩
              have hk3 := (hk2.drewN _).trans k2
              clear d0 e0 hk2
              have hr2 := (hk3.block rb (lt_of_block hrb) (fun h => h)).trans hrb
              have hr20 : w2.cell? ⟨rb, 0, none⟩ = some (.slice none 0 0) := by rw [cell_of_block hr2]; rfl
              have hr21 : w2.cell? ⟨rb, 1, none⟩ = some (.int .i64 0) := by rw [cell_of_block hr2]; rfl
              have hfz := free_of_block hr2
              have hb9 : ((w2.setCell ⟨rb, 0, none⟩ (.slice (some a) 1 1)).setCell ⟨rb, 1, none⟩ (.int .i64 6)).heap[rb]? = some (.cells #[.slice (some a) 1 1, .int .i64 6] 64 (0, 0)) := by
                rw [block_setCell (block_setCell hr2 _ _) _ _]; rfl
              have hk9 : Kept (fun _ => False) w ((w2.setCell ⟨rb, 0, none⟩ (.slice (some a) 1 1)).setCell ⟨rb, 1, none⟩ (.int .i64 6)) := by
                refine Kept.trans' (G := fun j => j = rb) Hk0.out ?_ (fun j hj h => by have h1 := Hrbn.out; omega)
                exact ((hk3.mono (G := fun j => j = rb) (fun j _ h => h.elim)).setCell (p := ⟨rb, 0, none⟩) (fun _ => rfl) _).setCell (p := ⟨rb, 1, none⟩) (fun _ => rfl) _
              go_wp2
              change bodyPost _ _ _ _ _ ((w2.setCell ⟨rb, 0, none⟩ (.slice (some a) 1 1)).setCell ⟨rb, 1, none⟩ (.int .i64 6))
              generalize (w2.setCell ⟨rb, 0, none⟩ (.slice (some a) 1 1)).setCell ⟨rb, 1, none⟩ (.int .i64 6) = wf at hb9 hk9 ⊢
              have r0 : wf.cell? ⟨rb, 0, none⟩ = some (.slice (some a) 1 1) := by rw [cell_of_block hb9]; rfl
              have r1 : wf.cell? ⟨rb, 1, none⟩ = some (.int .i64 6) := by rw [cell_of_block hb9]; rfl
              exact bodyPost_ret (v := .agg #[.slice (some a) 1 1, .int .i64 6]) (by simp [results, Try.results25, go_sem, r0, r1]) rfl ⟨.slice (some a) 1 1, 6, rfl, hk9, .inr ⟨hB.out, ⟨a, rfl⟩, .inr rfl⟩⟩
            | false =>
              go_wp2_with fail
              go_quiet (fail)
              go_wp2
              exact ⟨⟨k + 1, by omega, by push_cast; rfl, fun j hj => by
                by_cases e : j = k
                · subst e; rw [Hz.out]; exact hm
                · exact Hno.out j (by omega), hkk.drewN _⟩, by simp [intOf]; omega⟩
          · obtain rfl : k = i := by omega
            have hup2 : Hid (uptoB ls (k + 1) = true) := by
              show (uptoB ls k && (goodL (lgAt ls k) && !anyB ls k (lgAt ls k).ser)) = true
              rw [Hup.out, Hy.out, hgd.out, anyB_false (by have := Hn.out; omega) Hno.out]; rfl
            have hk2 := hk.trans hkk
            clear hgd Hup Hno hk hkk
            go_wp2
            exact ⟨⟨k + 1, by have := Hn.out; omega, by push_cast; rfl, hup2.out, hk2⟩, by simp [intOf]; omega⟩
      · have hgd : Hid (goodL ⟨ser, (-1), rat⟩ = true) := by show _ = _; simp [goodL]; omega
        clear hbad
        go_wp2_with fail
        clear c0 c1 c2
        go_loopw [4] (fun kv wk => CiRel ls i ser wr kv wk) (fun kv _ => i - (intOf kv).toNat)
        case atStart => exact ⟨0, Nat.zero_le _, rfl, fun j hj => by omega, Kept.refl _ _⟩
        case round =>
          obtain ⟨k, hki, rfl, hno, hkk⟩ := hrel
          have Hno := Lib.hid hno
          clear hno
          by_cases hlk : k < i
          · have hk2 := hk.trans hkk
            obtain ⟨d0, d1, d2⟩ := (Hs.out.kept hk2) k (by have := Hn.out; omega)
            obtain ⟨e0, e1, e2⟩ := (Hs.out.kept hk2) i (by have := Hn.out; omega)
            rw [Hy.out] at e0
            obtain ⟨z, hz⟩ : ∃ z, (lgAt ls k).ser = z := ⟨_, rfl⟩
            rw [hz] at d0
            have Hz := Lib.hid hz
            simp only at e0
            obtain ⟨m, hm⟩ : ∃ m, (z == ser) = m := ⟨_, rfl⟩
            have q1 : (0 : Int) ≤ (k : Int) := by omega
            have q2 : (k : Int) < (n : Int) := by omega
            clear d1 d2 e1 e2 hz
            cases m with
            | true =>
              have hB : Hid (checkB ls = false) := check_bad (i := i) (by have := Hn.out; omega) (.inr (by rw [Hy.out]; exact anyB_true (j := k) (by have := Hn.out; omega) hlk (by rw [Hz.out]; exact hm)))
              go_wp2_with fail
              go_quiet (fail)
              go_wp2_with fail
              refine (at_any _ _ _ _).mono ?_
              rintro e w2 ⟨a, rfl, k2⟩
              have hk3 := (hk2.drewN _).trans k2
              clear d0 e0 hk2
              have hr2 := (hk3.block rb (lt_of_block hrb) (fun h => h)).trans hrb
              have hr20 : w2.cell? ⟨rb, 0, none⟩ = some (.slice none 0 0) := by rw [cell_of_block hr2]; rfl
              have hr21 : w2.cell? ⟨rb, 1, none⟩ = some (.int .i64 0) := by rw [cell_of_block hr2]; rfl
              have hfz := free_of_block hr2
              have hb9 : ((w2.setCell ⟨rb, 0, none⟩ (.slice (some a) 1 1)).setCell ⟨rb, 1, none⟩ (.int .i64 6)).heap[rb]? = some (.cells #[.slice (some a) 1 1, .int .i64 6] 64 (0, 0)) := by
                rw [block_setCell (block_setCell hr2 _ _) _ _]; rfl
              have hk9 : Kept (fun _ => False) w ((w2.setCell ⟨rb, 0, none⟩ (.slice (some a) 1 1)).setCell ⟨rb, 1, none⟩ (.int .i64 6)) := by
                refine Kept.trans' (G := fun j => j = rb) Hk0.out ?_ (fun j hj h => by have h1 := Hrbn.out; omega)
                exact ((hk3.mono (G := fun j => j = rb) (fun j _ h => h.elim)).setCell (p := ⟨rb, 0, none⟩) (fun _ => rfl) _).setCell (p := ⟨rb, 1, none⟩) (fun _ => rfl) _
              go_wp2
              change bodyPost _ _ _ _ _ ((w2.setCell ⟨rb, 0, none⟩ (.slice (some a) 1 1)).setCell ⟨rb, 1, none⟩ (.int .i64 6))
              generalize (w2.setCell ⟨rb, 0, none⟩ (.slice (some a) 1 1)).setCell ⟨rb, 1, none⟩ (.int .i64 6) = wf at hb9 hk9 ⊢
              have r0 : wf.cell? ⟨rb, 0, none⟩ = some (.slice (some a) 1 1) := by rw [cell_of_block hb9]; rfl
              have r1 : wf.cell? ⟨rb, 1, none⟩ = some (.int .i64 6) := by rw [cell_of_block hb9]; rfl
              exact bodyPost_ret (v := .agg #[.slice (some a) 1 1, .int .i64 6]) (by simp [results, Try.results25, go_sem, r0, r1]) rfl ⟨.slice (some a) 1 1, 6, rfl, hk9, .inr ⟨hB.out, ⟨a, rfl⟩, .inr rfl⟩⟩
            | false =>
              go_wp2_with fail
              go_quiet (fail)
              go_wp2
              exact ⟨⟨k + 1, by omega, by push_cast; rfl, fun j hj => by
                by_cases e : j = k
                · subst e; rw [Hz.out]; exact hm
                · exact Hno.out j (by omega), hkk.drewN _⟩, by simp [intOf]; omega⟩
          · obtain rfl : k = i := by omega
            have hup2 : Hid (uptoB ls (k + 1) = true) := by
              show (uptoB ls k && (goodL (lgAt ls k) && !anyB ls k (lgAt ls k).ser)) = true
              rw [Hup.out, Hy.out, hgd.out, anyB_false (by have := Hn.out; omega) Hno.out]; rfl
            have hk2 := hk.trans hkk
            clear hgd Hup Hno hk hkk
            go_wp2
            exact ⟨⟨k + 1, by have := Hn.out; omega, by push_cast; rfl, hup2.out, hk2⟩, by simp [intOf]; omega⟩
    · obtain rfl : i = n := by omega
      have hB : Hid (checkB ls = true) := by
        show checkB ls = true
        unfold checkB
        rw [Hn.out, Hup.out]
        simp; omega
      have hr2 := (hk.block rb (lt_of_block hrb) (fun h => h)).trans hrb
      have hr20 : wr.cell? ⟨rb, 0, none⟩ = some (.slice none 0 0) := by rw [cell_of_block hr2]; rfl
      have hr21 : wr.cell? ⟨rb, 1, none⟩ = some (.int .i64 0) := by rw [cell_of_block hr2]; rfl
      have hfz := free_of_block hr2
      have hb9 : ((wr.setCell ⟨rb, 0, none⟩ (.slice none 0 0)).setCell ⟨rb, 1, none⟩ (.int .i64 0)).heap[rb]? = some (.cells #[.slice none 0 0, .int .i64 0] 64 (0, 0)) := by
        rw [block_setCell (block_setCell hr2 _ _) _ _]; rfl
      have hk9 : Kept (fun _ => False) w ((wr.setCell ⟨rb, 0, none⟩ (.slice none 0 0)).setCell ⟨rb, 1, none⟩ (.int .i64 0)) := by
        refine Kept.trans' (G := fun j => j = rb) Hk0.out ?_ (fun j hj h => by have h1 := Hrbn.out; omega)
        exact ((hk.mono (G := fun j => j = rb) (fun j _ h => h.elim)).setCell (p := ⟨rb, 0, none⟩) (fun _ => rfl) _).setCell (p := ⟨rb, 1, none⟩) (fun _ => rfl) _
      go_wp2
      change bodyPost _ _ _ _ _ ((wr.setCell ⟨rb, 0, none⟩ (.slice none 0 0)).setCell ⟨rb, 1, none⟩ (.int .i64 0))
      generalize (wr.setCell ⟨rb, 0, none⟩ (.slice none 0 0)).setCell ⟨rb, 1, none⟩ (.int .i64 0) = wf at hb9 hk9 ⊢
      have r0 : wf.cell? ⟨rb, 0, none⟩ = some (.slice none 0 0) := by rw [cell_of_block hb9]; rfl
      have r1 : wf.cell? ⟨rb, 1, none⟩ = some (.int .i64 0) := by rw [cell_of_block hb9]; rfl
      exact bodyPost_ret (v := .agg #[.slice none 0 0, .int .i64 0]) (by simp [results, Try.results25, go_sem, r0, r1]) rfl ⟨.slice none 0 0, 0, rfl, hk9, .inl ⟨hB.out, rfl, rfl⟩⟩
end Go.Proofs.Ytgbdnodkbdkaeaa
