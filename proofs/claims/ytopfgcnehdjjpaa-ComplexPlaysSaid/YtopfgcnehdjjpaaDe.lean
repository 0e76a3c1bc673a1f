/- The document's book of complex orders: Remove: the walks. -/
import Derived.Test.YtopfgcnehdjjpaaDd
namespace Go.Proofs.Ytopfgcnehdjjpaa
open Go.RowKit

set_option maxHeartbeats 4000000 in
set_option maxRecDepth 100000 in
theorem rremove_no {w : World} {m : Nat} {R : Nat → List Od} {p : Nat → Option Addr} {c : Nat → Nat} (h : RbAt w m R p c) (id : Int) (hf : findR R id = none) :
    Calls Try.prog 13 #[.pointer (some ⟨m, 0, none⟩), .int .i64 id] w (GPost zeroOd false w) := by
  have Hf := Lib.hid hf
  clear hf
  have h0 := h.keptF ((Kept.refl _ w).alloc (.cells #[.int .i64 0, .int .i64 0, .int .i64 0, .int .i64 0, .int .i64 0] 37))
  have hk0 : Kept (fun _ => False) w (w.alloc (.cells #[.int .i64 0, .int .i64 0, .int .i64 0, .int .i64 0, .int .i64 0] 37)) := (Kept.refl _ w).alloc _
  have hb0 : (w.alloc (.cells #[.int .i64 0, .int .i64 0, .int .i64 0, .int .i64 0, .int .i64 0] 37)).heap[w.heap.size]? = some (.cells #[.int .i64 0, .int .i64 0, .int .i64 0, .int .i64 0, .int .i64 0] 37 (0, 0)) := block_alloc_new _ _
  have hmw := lt_of_block h.st
  have hold : ∀ j, j < 2 → ∀ t, p j = some t → t.block < w.heap.size := fun j hj t ht => (h.sl j hj).lt t ht
  have Hold := Lib.hid hold
  clear hold h
  go_enter Try.func13, Try.ntmps13
  go_wp2_with fail
  generalize hrb : w.heap.size = rb at hb0 hmw ⊢
  have Hrb := Lib.hid hrb
  clear hrb
  generalize w.alloc (.cells #[.int .i64 0, .int .i64 0, .int .i64 0, .int .i64 0, .int .i64 0] 37) = w0 at h0 hk0 hb0 ⊢
  refine (rget_any h0 id).mono ?_
  rintro e w1 hp
  obtain ⟨rfl, hk1⟩ := hp.2 Hf.out
  clear hp
  go_upto_region 2 with fail
  have hk2 : Kept (fun _ => False) w0 (w1.alloc (.cells #[.int .i64 0, .int .i64 0, .int .i64 0, .int .i64 0, .int .i64 0] 37)) := hk1.alloc _
  have hb2 : (w1.alloc (.cells #[.int .i64 0, .int .i64 0, .int .i64 0, .int .i64 0, .int .i64 0] 37)).heap[rb]? = some (.cells #[.int .i64 0, .int .i64 0, .int .i64 0, .int .i64 0, .int .i64 0] 37 (0, 0)) := (hk2.block rb (lt_of_block hb0) (fun h => h)).trans hb0
  generalize w1.alloc (.cells #[.int .i64 0, .int .i64 0, .int .i64 0, .int .i64 0, .int .i64 0] 37) = w2 at hk2 hb2 ⊢
  clear hk1 hb0
  have c0 : w2.cell? ⟨rb, 0, none⟩ = some (.int .i64 0) := by rw [cell_of_block hb2]; rfl
  have c1 : w2.cell? ⟨rb, 1, none⟩ = some (.int .i64 0) := by rw [cell_of_block hb2]; rfl
  have c2 : w2.cell? ⟨rb, 2, none⟩ = some (.int .i64 0) := by rw [cell_of_block hb2]; rfl
  have c3 : w2.cell? ⟨rb, 3, none⟩ = some (.int .i64 0) := by rw [cell_of_block hb2]; rfl
  have c4 : w2.cell? ⟨rb, 4, none⟩ = some (.int .i64 0) := by rw [cell_of_block hb2]; rfl
  have f0 := free_of_block hb2
  have hs0 := lt_of_block hb2
  go_wp2
  obtain ⟨hb5, hk5⟩ := put5_law2 hb2 zeroOd
  change bodyPost _ _ _ _ _ (put5 w2 rb zeroOd)
  generalize put5 w2 rb zeroOd = wf at hb5 hk5 ⊢
  clear c0 c1 c2 c3 c4 f0
  have c0 : wf.cell? ⟨rb, 0, none⟩ = some (.int .i64 0) := by rw [cell_of_block hb5]; rfl
  have c1 : wf.cell? ⟨rb, 1, none⟩ = some (.int .i64 0) := by rw [cell_of_block hb5]; rfl
  have c2 : wf.cell? ⟨rb, 2, none⟩ = some (.int .i64 0) := by rw [cell_of_block hb5]; rfl
  have c3 : wf.cell? ⟨rb, 3, none⟩ = some (.int .i64 0) := by rw [cell_of_block hb5]; rfl
  have c4 : wf.cell? ⟨rb, 4, none⟩ = some (.int .i64 0) := by rw [cell_of_block hb5]; rfl
  refine bodyPost_ret (v := .tuple #[.agg #[.int .i64 0, .int .i64 0, .int .i64 0, .int .i64 0, .int .i64 0], .bool false]) (by simp [results, Try.results13, go_sem, c0, c1, c2, c3, c4]) rfl ⟨rfl, ?_⟩
  exact (hk0.trans hk2).trans' (G := fun i => i = rb) hk5 (fun i hi e => by have := Hrb.out; omega)

def RRemPost (m : Nat) (R' : Nat → List Od) (p : Nat → Option Addr) (d : Od) (v : Value) (w : World) (e : Ending) (w' : World) : Prop :=
  ∃ p' c', e = .returned (.tuple #[.agg #[.int .i64 d.id, .int .i64 d.owner, .int .i64 d.side, .int .i64 d.net, .int .i64 d.units], v]) ∧ RbAt w' m R' p' c' ∧ Kept (fun b => b = m) w w' ∧ Newer p p' w
theorem notAt {W w : World} {k rb : Nat} {p : Nat → Option Addr} {q : Option Addr} (hq : ∀ t, q = some t → W.heap.size ≤ t.block) (hrb : rb < W.heap.size) (hold : ∀ j, j < 2 → ∀ t, p j = some t → t.block < w.heap.size) (he : w.heap.size = rb) :
    ∀ j, j < 2 → ∀ t, upd p k q j = some t → t.block ≠ rb := by
  intro j hj t ht
  by_cases e : j = k
  · subst e; rw [upd_same] at ht; have := hq t ht; omega
  · rw [upd_other _ _ e] at ht; have := hold j hj t ht; omega
def killRm (k j : Nat) : Bool := (k == 7 && j == 3) || (k == 12 && (j == 3 || j == 7)) || (k == 13 && (j == 3 || j == 7 || j == 12))
set_option maxHeartbeats 4000000 in
set_option maxRecDepth 100000 in
theorem rremove_yes {w : World} {m : Nat} {R : Nat → List Od} {p : Nat → Option Addr} {c : Nat → Nat} (h : RbAt w m R p c) (id : Int) {k i : Nat} {d : Od} (hf : findR R id = some (k, i)) (hd : (R k)[i]? = some d) (hsd : d.side = (k : Int) + 1) :
    Calls Try.prog 13 #[.pointer (some ⟨m, 0, none⟩), .int .i64 id] w (RRemPost m (upd R k (delAt (R k) i)) p d (.bool true) w) := by
  obtain ⟨i0, hi0, hz0, hz1, hz2⟩ := info_parts Try.info37'
  obtain ⟨hk, _, _, _, hil⟩ := findR_some hf
  have hfew := h.few
  have Hf := Lib.hid hf
  have Hd := Lib.hid hd
  have Hsd := Lib.hid hsd
  clear hf hd hsd
  have h0 := h.keptF ((Kept.refl _ w).alloc (.cells #[.int .i64 0, .int .i64 0, .int .i64 0, .int .i64 0, .int .i64 0] 37))
  have hk0 : Kept (fun _ => False) w (w.alloc (.cells #[.int .i64 0, .int .i64 0, .int .i64 0, .int .i64 0, .int .i64 0] 37)) := (Kept.refl _ w).alloc _
  have hb0 : (w.alloc (.cells #[.int .i64 0, .int .i64 0, .int .i64 0, .int .i64 0, .int .i64 0] 37)).heap[w.heap.size]? = some (.cells #[.int .i64 0, .int .i64 0, .int .i64 0, .int .i64 0, .int .i64 0] 37 (0, 0)) := block_alloc_new _ _
  have hmw := lt_of_block h.st
  have hold : ∀ j, j < 2 → ∀ t, p j = some t → t.block < w.heap.size := fun j hj t ht => (h.sl j hj).lt t ht
  have Hold := Lib.hid hold
  clear hold h
  go_enter Try.func13, Try.ntmps13
  go_wp2_with fail
  generalize hrb : w.heap.size = rb at hb0 hmw ⊢
  have Hrb := Lib.hid hrb
  clear hrb
  generalize w.alloc (.cells #[.int .i64 0, .int .i64 0, .int .i64 0, .int .i64 0, .int .i64 0] 37) = w0 at h0 hk0 hb0 ⊢
  refine (rget_any h0 id).mono ?_
  rintro e w1 hp
  obtain ⟨rfl, hk1⟩ := hp.1 k i d Hf.out Hd.out
  clear hp
  go_upto_region 2 with fail
  have hk2 : Kept (fun _ => False) w0 (w1.alloc (.cells #[.int .i64 d.id, .int .i64 d.owner, .int .i64 d.side, .int .i64 d.net, .int .i64 d.units] 37)) := hk1.alloc _
  have hb2 : (w1.alloc (.cells #[.int .i64 d.id, .int .i64 d.owner, .int .i64 d.side, .int .i64 d.net, .int .i64 d.units] 37)).heap[rb]? = some (.cells #[.int .i64 0, .int .i64 0, .int .i64 0, .int .i64 0, .int .i64 0] 37 (0, 0)) := (hk2.block rb (lt_of_block hb0) (fun h => h)).trans hb0
  have hq2 : (w1.alloc (.cells #[.int .i64 d.id, .int .i64 d.owner, .int .i64 d.side, .int .i64 d.net, .int .i64 d.units] 37)).heap[w1.heap.size]? = some (.cells #[.int .i64 d.id, .int .i64 d.owner, .int .i64 d.side, .int .i64 d.net, .int .i64 d.units] 37 (0, 0)) := block_alloc_new _ _
  have hqr : rb < w1.heap.size := Nat.lt_of_lt_of_le (lt_of_block hb0) hk1.size
  generalize w1.heap.size = q at hq2 hqr ⊢
  have h2 := h0.keptF hk2
  generalize w1.alloc (.cells #[.int .i64 d.id, .int .i64 d.owner, .int .i64 d.side, .int .i64 d.net, .int .i64 d.units] 37) = w2 at hk2 hb2 hq2 h2 ⊢
  have hk02 := hk0.trans hk2
  clear hk1 hb0 h0 hk0 hk2
  have q0 : w2.cell? ⟨q, 0, none⟩ = some (.int .i64 d.id) := by rw [cell_of_block hq2]; rfl
  have q1 : w2.cell? ⟨q, 1, none⟩ = some (.int .i64 d.owner) := by rw [cell_of_block hq2]; rfl
  have q2 : w2.cell? ⟨q, 2, none⟩ = some (.int .i64 d.side) := by rw [cell_of_block hq2]; rfl
  have q3 : w2.cell? ⟨q, 3, none⟩ = some (.int .i64 d.net) := by rw [cell_of_block hq2]; rfl
  have q4 : w2.cell? ⟨q, 4, none⟩ = some (.int .i64 d.units) := by rw [cell_of_block hq2]; rfl
  have hib : decide ((i : Int) < 0) = false := decide_eq_false (by omega)
  go_wp2_with fail
  refine (side_any h2 _ k hk Hsd.out).mono ?_
  rintro e w' ⟨rfl, rfl⟩
  generalize hn : (R k).length = n at hil ⊢
  have Hn := Lib.hid hn
  have hn256 : n ≤ 256 := by have h3 : k = 0 ∨ k = 1 := by omega
                             rcases h3 with e | e <;> (subst e; omega)
  have hsl := h2.sl k hk
  rw [hn] at hsl
  obtain ⟨t, o, hpk⟩ := sl_some hsl (by omega)
  rw [hpk] at hsl ⊢
  have Hpk := Lib.hid hpk
  have hlc := hsl.2.1
  have htn : t ≠ m := fun e => h2.ne hk hpk (by rw [e])
  clear hn hpk
  have Hst : Hid (SlAt w2 37 5 (some ⟨t, o, none⟩) i (c k) (((R k).take i).flatMap odC)) := by rw [← fm_take odC_len]; exact hsl.take (by omega)
  have Hdd : Hid (SlAt w2 37 5 (some ⟨t, o + (i + 1) * 5, none⟩) (n - (i + 1)) (c k - (i + 1)) (((R k).drop (i + 1)).flatMap odC)) := by rw [← fm_drop odC_len]; exact hsl.drop (by omega)
  have Hda : Hid (c k = i + 1 → SlAt w2 37 5 (some ⟨t, o, none⟩) (n - (i + 1)) (c k - (i + 1)) (((R k).drop (i + 1)).flatMap odC)) := fun h => by
    have h1 := hsl.drop_all
    rw [show n - (i + 1) = 0 by omega, show c k - (i + 1) = 0 by omega, List.drop_of_length_le (by rw [Hn.out]; omega)]; exact h1
  have HR3 := Lib.hid h2
  have Hq := Lib.hid hq2
  have hqs := lt_of_block hq2
  have hb3 := hb2
  have hrb2 := lt_of_block hb2
  have Hys : Hid (i + (n - (i + 1)) = (delAt (R k) i).length) := by show _ = _; rw [delAt, List.length_append, List.length_take, List.length_drop, Hn.out]; omega
  have Hyf : Hid ((((R k).take i).flatMap odC) ++ (((R k).drop (i + 1)).flatMap odC) = (delAt (R k) i).flatMap odC) := by show _ = _; rw [delAt, List.flatMap_append]
  have Hfw : Hid (∀ j, j < 2 → j ≠ k → (R j).length + (delAt (R k) i).length ≤ 256) := fun j hj hne => by
    have h1 := Hys.out; have h2 := Hn.out
    have h3 : (k = 0 ∧ j = 1) ∨ (k = 1 ∧ j = 0) := by omega
    rcases h3 with ⟨e1, e2⟩ | ⟨e1, e2⟩ <;> (subst e1; subst e2; omega)
  have b1 : (0 : Int) ≤ (i : Int) := by omega
  have b2 : (i : Int) ≤ ((c k : Nat) : Int) := by omega
  have b3 : (i : Int) + 1 ≤ (n : Int) := by omega
  have b4 : (n : Int) ≤ ((c k : Nat) : Int) := by omega
  have b5 : (0 : Int) ≤ (i : Int) + 1 := by omega
  clear hsl h2 hq2 hb2 hil hfew hib q0 q1 q2 q3 q4
  go_upto_region 5 with fail
  refine wp_region_vals (by kernel_rfl) (by kernel_rfl) (by kernel_rfl) (by kernel_rfl) (Kept (fun b => b = m) w2) killRm
    (fun j => (([.val (.pointer (some ⟨m, 0, none⟩)), .val (.pointer (some ⟨q, 2, none⟩)), .val (.int .i64 d.side), .emp 37, .val (.slice (some ⟨t, o, none⟩) n (c k)), .val (.int .i64 i), .old 37 5 i (c k) (((R k).take i).flatMap odC), .fr 37 5 i (((R k).take i).flatMap odC), .val (.slice (some ⟨t, o, none⟩) n (c k)), .val (.int .i64 i), .val (.int .i64 ((i : Int) + 1)), .old 37 5 (n - (i + 1)) (c k - (i + 1)) (((R k).drop (i + 1)).flatMap odC), .fr 37 5 (i + (n - (i + 1))) ((((R k).take i).flatMap odC) ++ (((R k).drop (i + 1)).flatMap odC)), .wd (fun w' => ∃ p' c', RbAt w' m (upd R k (delAt (R k) i)) p' c' ∧ (∀ j, j < 2 → ∀ t, p' j = some t → t.block ≠ rb) ∧ Newer p p' w2)] : List Kd).getD j .any).is w2)
    (fun j w' => j = 13 → Kept (fun _ => False) w2 w') ((Kept.refl _ w2).drew) (fun _ _ => (Kept.refl _ w2).drew) ?_ ?_
  · refine ⟨?_, ?_, ?_, ?_, ?_, ?_, ?_, ?_, ?_, ?_, ?_, ?_, ?_, ?_, trivial⟩
    all_goals (intro a w' hC hS hV hF)
    · refine ⟨rfl, fun K hK => ?_⟩
      have hC0 := hS 13 (by kernel_rfl) rfl
      have e1 : _ = Value.pointer (some ⟨m, 0, none⟩) := slotE (hF 0 (by kernel_rfl))
      clear hV hF hS
      go_simp
      exact hK _ _ rfl hC (fun _ _ _ _ _ h => h) (fun _ _ _ h => h)
    · refine ⟨rfl, fun K hK => ?_⟩
      have hC0 := hS 13 (by kernel_rfl) rfl
      have e1 : _ = Value.pointer (some ⟨q, 0, none⟩) := slotE (hF 6 (by kernel_rfl))
      clear hV hF hS
      go_simp
      exact hK _ _ rfl hC (fun _ _ _ _ _ h => h) (fun _ _ _ h => h)
    · refine ⟨rfl, fun K hK => ?_⟩
      have hC0 := hS 13 (by kernel_rfl) rfl
      obtain ⟨_, rfl, e0⟩ := hV 1 (by kernel_rfl) (by kernel_rfl)
      have e0 := slotE (e0 _ rfl)
      have hbq := (hC0.block q hqs (fun h => h)).trans Hq.out
      have q2 : w'.cell? ⟨q, 2, none⟩ = some (.int .i64 d.side) := by rw [cell_of_block hbq]; rfl
      clear hbq
      clear hV hF hS
      go_simp
      exact hK _ _ rfl hC (fun _ _ _ _ _ h => h) (fun _ _ _ h => h)
    · refine ⟨rfl, fun K hK => ?_⟩
      have hC0 := hS 13 (by kernel_rfl) rfl
      clear hV hF hS
      go_simp
      exact hK _ _ ⟨_, rfl, block_alloc_new _ _, hC0.size⟩ ((hC0.alloc _).mono (fun _ _ h => h.elim)) (fun j u hj hk hr h => Kd.mono ((Kept.refl _ _).alloc _) (Kd.rest (kills := killRm) rfl (by kernel_rfl) hj hk hr) h) (fun _ _ _ _ _ => (hC0.alloc _))
    · refine ⟨rfl, fun K hK => ?_⟩
      have hC0 := hS 13 (by kernel_rfl) rfl
      have e1 : _ = Value.slice (some ⟨t, o, none⟩) n (c k) := slotE (hF 8 (by kernel_rfl))
      clear hV hF hS
      go_simp
      exact hK _ _ rfl hC (fun _ _ _ _ _ h => h) (fun _ _ _ h => h)
    · refine ⟨rfl, fun K hK => ?_⟩
      have hC0 := hS 13 (by kernel_rfl) rfl
      have e1 : _ = Value.int .i64 i := slotE (hF 7 (by kernel_rfl))
      clear hV hF hS
      go_simp
      exact hK _ _ rfl hC (fun _ _ _ _ _ h => h) (fun _ _ _ h => h)
    · refine ⟨rfl, fun K hK => ?_⟩
      have hC0 := hS 13 (by kernel_rfl) rfl
      obtain ⟨_, rfl, e0⟩ := hV 4 (by kernel_rfl) (by kernel_rfl)
      have e0 := slotE (e0 _ rfl)
      obtain ⟨_, rfl, e1⟩ := hV 5 (by kernel_rfl) (by kernel_rfl)
      have e1 := slotE (e1 _ rfl)
      clear hV hF hS
      go_simp
      exact hK _ _ ⟨_, rfl, Hst.out⟩ hC (fun _ _ _ _ _ h => h) (fun _ _ _ h => h)
    · refine ⟨rfl, fun K hK => ?_⟩
      have hC0 := hS 13 (by kernel_rfl) rfl
      obtain ⟨_, ⟨b0, rfl, hb0, hn0⟩, e0⟩ := hV 3 (by kernel_rfl) (by kernel_rfl)
      obtain ⟨_, ⟨p0, rfl, hs0⟩, e1⟩ := hV 6 (by kernel_rfl) (by kernel_rfl)
      refine wp_append_emp (.tmp 25) (.tmp 28) 27 rfl 37 i0 _ 5 40 Try.underlying27 hi0 hz0 hz1 hz2 rfl (by decide) hC0 b0 (e0 _ rfl) hb0 hn0 _ _ _ _ (e1 _ rfl) (hs0.kept fun t ht => hC0.block _ (hs0.lt t ht) (fun h => h)) (od_one _) (by unfold maxLen; omega) (by omega) fun v w2 h1 h2 h3 => hK v w2 h1 (h2.mono (fun _ _ h => h.elim)) (fun j u hj hk hr h => Kd.grow h3 hb0 (Kd.rest (kills := killRm) rfl (by kernel_rfl) hj hk hr) h) (fun _ _ _ _ _ => h2)
    · refine ⟨rfl, fun K hK => ?_⟩
      have hC0 := hS 13 (by kernel_rfl) rfl
      have e1 : _ = Value.slice (some ⟨t, o, none⟩) n (c k) := slotE (hF 8 (by kernel_rfl))
      clear hV hF hS
      go_simp
      exact hK _ _ rfl hC (fun _ _ _ _ _ h => h) (fun _ _ _ h => h)
    · refine ⟨rfl, fun K hK => ?_⟩
      have hC0 := hS 13 (by kernel_rfl) rfl
      have e1 : _ = Value.int .i64 i := slotE (hF 7 (by kernel_rfl))
      clear hV hF hS
      go_simp
      exact hK _ _ rfl hC (fun _ _ _ _ _ h => h) (fun _ _ _ h => h)
    · refine ⟨rfl, fun K hK => ?_⟩
      have hC0 := hS 13 (by kernel_rfl) rfl
      obtain ⟨_, rfl, e0⟩ := hV 9 (by kernel_rfl) (by kernel_rfl)
      have e0 := slotE (e0 _ rfl)
      have s1 : IntKind.i64.wrap ((i : Int) + 1) = (i : Int) + 1 := IntWalk.i64_in _ (by omega)
      clear hV hF hS
      go_simp
      exact hK _ _ rfl hC (fun _ _ _ _ _ h => h) (fun _ _ _ h => h)
    · refine ⟨rfl, fun K hK => ?_⟩
      have hC0 := hS 13 (by kernel_rfl) rfl
      obtain ⟨_, rfl, e0⟩ := hV 8 (by kernel_rfl) (by kernel_rfl)
      have e0 := slotE (e0 _ rfl)
      obtain ⟨_, rfl, e1⟩ := hV 10 (by kernel_rfl) (by kernel_rfl)
      have e1 := slotE (e1 _ rfl)
      clear hV hF hS
      by_cases hcap : c k = i + 1
      · have b6 : ((c k : Nat) : Int) = (i : Int) + 1 := by omega
        have Hcap := Lib.hid hcap
        clear hcap
        go_simp
        rw [if_pos Hcap.out]
        exact hK _ _ ⟨_, rfl, Hda.out Hcap.out⟩ hC (fun _ _ _ _ _ h => h) (fun _ _ _ h => h)
      · have b6 : ¬ ((c k : Nat) : Int) = (i : Int) + 1 := by omega
        go_simp
        exact hK _ _ ⟨_, rfl, Hdd.out⟩ hC (fun _ _ _ _ _ h => h) (fun _ _ _ h => h)
    · refine ⟨rfl, fun K hK => ?_⟩
      have hC0 := hS 13 (by kernel_rfl) rfl
      obtain ⟨u0, h0, e0⟩ := hV 7 (by kernel_rfl) (by kernel_rfl)
      obtain ⟨_, ⟨p1, rfl, hs1⟩, e1⟩ := hV 11 (by kernel_rfl) (by kernel_rfl)
      refine wp_append_fr (.tmp 29) (.tmp 33) 27 rfl 37 i0 _ 5 40 Try.underlying27 hi0 hz0 hz1 hz2 rfl (by decide) i _ u0 (e0 _ rfl) h0 _ _ _ _ (e1 _ rfl) (hs1.kept fun t ht => hC0.block _ (hs1.lt t ht) (fun h => h)) (od_one _) (by unfold maxLen; omega) (by omega) fun v w2 h1 h2 => hK v w2 h1 (h2.mono (fun _ _ h => h.elim)) (fun j u hj hk hr h => Kd.stay (Kd.rest (kills := killRm) rfl (by kernel_rfl) hj hk hr) h) (fun _ _ _ _ _ => h2)
    · refine ⟨rfl, fun K hK => ?_⟩
      obtain ⟨_, rfl, e0⟩ := hV 0 (by kernel_rfl) (by kernel_rfl)
      have e0 := slotE (e0 _ rfl)
      obtain ⟨_, rfl, e2⟩ := hV 2 (by kernel_rfl) (by kernel_rfl)
      have e2 := slotE (e2 _ rfl)
      obtain ⟨_, ⟨p4, c4, rfl, F4⟩, e7⟩ := hV 12 (by kernel_rfl) (by kernel_rfl)
      have e7 := slotE (e7 _ rfl)
      have hS1 := hS 13 (by kernel_rfl) rfl
      clear hV hF hS
      rw [Hys.out, Hyf.out] at F4
      rw [Hys.out] at e7
      have Hs4 := Lib.hid F4.sl
      have Hnw4 := Lib.hid F4.nw
      have HR4 := Lib.hid (HR3.out.keptF hS1)
      clear F4 hS1
      go_simp
      refine (put_any HR4.out _ k hk Hsd.out Hs4.out Hfw.out).mono ?_
      rintro e w5 ⟨rfl, hR5, hk5⟩
      exact hK _ _ ⟨_, _, hR5, notAt Hnw4.out hrb2 Hold.out Hrb.out, Newer.upd Hnw4.out⟩ (hC.trans hk5) (fun j u hj hk hr h => Kd.stay (Kd.rest (kills := killRm) rfl (by kernel_rfl) hj hk hr) h) (fun j hj _ _ h => absurd h hj)
  · intro vs wx hl hC hV
    replace hl : vs.length = 14 := hl
    obtain ⟨v0, vs, rfl, hl0⟩ := cons_of hl
    obtain ⟨v1, vs, rfl, hl1⟩ := cons_of hl0
    obtain ⟨v2, vs, rfl, hl2⟩ := cons_of hl1
    obtain ⟨v3, vs, rfl, hl3⟩ := cons_of hl2
    obtain ⟨v4, vs, rfl, hl4⟩ := cons_of hl3
    obtain ⟨v5, vs, rfl, hl5⟩ := cons_of hl4
    obtain ⟨v6, vs, rfl, hl6⟩ := cons_of hl5
    obtain ⟨v7, vs, rfl, hl7⟩ := cons_of hl6
    obtain ⟨v8, vs, rfl, hl8⟩ := cons_of hl7
    obtain ⟨v9, vs, rfl, hl9⟩ := cons_of hl8
    obtain ⟨v10, vs, rfl, hl10⟩ := cons_of hl9
    obtain ⟨v11, vs, rfl, hl11⟩ := cons_of hl10
    obtain ⟨v12, vs, rfl, hl12⟩ := cons_of hl11
    obtain ⟨v13, vs, rfl, hl13⟩ := cons_of hl12
    obtain rfl := nil_of hl13
    obtain ⟨p', c', hR5, hpr, hnw5⟩ := hV 13 (by decide) (by decide)
    clear hV
    simp only [dstsOf, List.map_cons, List.map_nil, puts, Act.put, List.setIfInBounds_toArray, List.set_cons_succ, List.set_cons_zero, Exit.then]
    have hbx := (hC.block rb (lt_of_block hb3) (fun e => by omega)).trans hb3
    have hbq := (hC.block q hqs (fun e => by omega)).trans Hq.out
    have q0 : wx.cell? ⟨q, 0, none⟩ = some (.int .i64 d.id) := by rw [cell_of_block hbq]; rfl
    have q1 : wx.cell? ⟨q, 1, none⟩ = some (.int .i64 d.owner) := by rw [cell_of_block hbq]; rfl
    have q2 : wx.cell? ⟨q, 2, none⟩ = some (.int .i64 d.side) := by rw [cell_of_block hbq]; rfl
    have q3 : wx.cell? ⟨q, 3, none⟩ = some (.int .i64 d.net) := by rw [cell_of_block hbq]; rfl
    have q4 : wx.cell? ⟨q, 4, none⟩ = some (.int .i64 d.units) := by rw [cell_of_block hbq]; rfl
    have c0 : wx.cell? ⟨rb, 0, none⟩ = some (.int .i64 0) := by rw [cell_of_block hbx]; rfl
    have c1 : wx.cell? ⟨rb, 1, none⟩ = some (.int .i64 0) := by rw [cell_of_block hbx]; rfl
    have c2 : wx.cell? ⟨rb, 2, none⟩ = some (.int .i64 0) := by rw [cell_of_block hbx]; rfl
    have c3 : wx.cell? ⟨rb, 3, none⟩ = some (.int .i64 0) := by rw [cell_of_block hbx]; rfl
    have c4 : wx.cell? ⟨rb, 4, none⟩ = some (.int .i64 0) := by rw [cell_of_block hbx]; rfl
    have f0 := free_of_block hbx
    have hs0 := lt_of_block hbx
    go_wp2
    obtain ⟨hb5, hk5⟩ := put5_law2 hbx d
    change bodyPost _ _ _ _ _ (put5 wx rb d)
    generalize put5 wx rb d = wf at hb5 hk5 ⊢
    clear c0 c1 c2 c3 c4 f0
    have c0 : wf.cell? ⟨rb, 0, none⟩ = some (.int .i64 d.id) := by rw [cell_of_block hb5]; rfl
    have c1 : wf.cell? ⟨rb, 1, none⟩ = some (.int .i64 d.owner) := by rw [cell_of_block hb5]; rfl
    have c2 : wf.cell? ⟨rb, 2, none⟩ = some (.int .i64 d.side) := by rw [cell_of_block hb5]; rfl
    have c3 : wf.cell? ⟨rb, 3, none⟩ = some (.int .i64 d.net) := by rw [cell_of_block hb5]; rfl
    have c4 : wf.cell? ⟨rb, 4, none⟩ = some (.int .i64 d.units) := by rw [cell_of_block hb5]; rfl
    refine bodyPost_ret (v := .tuple #[.agg #[.int .i64 d.id, .int .i64 d.owner, .int .i64 d.side, .int .i64 d.net, .int .i64 d.units], .bool true]) (by simp [results, Try.results13, go_sem, c0, c1, c2, c3, c4]) rfl ⟨p', c', rfl, hR5.kept (F := fun i => i = rb) hk5 (by omega) hpr, ?_, hnw5.le hk02.size⟩
    exact ((hk02.mono (fun _ _ h => h.elim)).trans hC).trans' (G := fun i => i = rb) hk5 (fun i hi e => by have := Hrb.out; omega)
end Go.Proofs.Ytopfgcnehdjjpaa
