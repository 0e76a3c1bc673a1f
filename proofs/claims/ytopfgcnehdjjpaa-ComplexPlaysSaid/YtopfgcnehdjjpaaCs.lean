/- The walk of 'ComplexFull'. -/
import Derived.Test.YtopfgcnehdjjpaaCr
namespace Go.Proofs.Ytopfgcnehdjjpaa
open Go.RowKit

def FullPost (w : World) (e : Ending) (w' : World) : Prop := e = .returned (.int .i64 8) ∧ Kept (fun _ => False) w w'
set_option maxHeartbeats 4000000 in
set_option maxRecDepth 100000 in
theorem insert_full {w : World} {a : Nat} {R : Nat → List Od} {p : Nat → Option Addr} {c : Nat → Nat} {O : Nat → Nat} (h : BkAt w a R p c O) (d : Od) (hr : Right d) (hf : findR R d.id = none) (hlen : (R 0).length + (R 1).length = 256) :
    Calls Try.prog 9 #[.pointer (some ⟨a, 0, none⟩), .agg #[.int .i64 d.id, .int .i64 d.owner, .int .i64 d.side, .int .i64 d.net, .int .i64 d.units]] w (FullPost w) := by
  have hk := sideN_lt d
  have hpl := hr.place
  have hin1 : inI d.units 1 1000000 = true := by simp [inI, hr.u1, hr.u2]
  have hin2 : inI d.net (-16000000) 16000000 = true := by simp [inI, hr.n1, hr.n2]
  have hid : 1 ≤ d.id := hr.id
  have hidb : decide (d.id < 1) = false := by simp; omega
  generalize sideN d = k at hk hpl
  have Hpl := Lib.hid hpl
  have Hin1 := Lib.hid hin1
  have Hin2 := Lib.hid hin2
  have Hf := Lib.hid hf
  have Hlen := Lib.hid hlen
  clear hpl hin1 hin2 hf hlen hr
  have h0 := h.keptF ((Kept.refl _ w).alloc (.cells #[.int .i64 d.id, .int .i64 d.owner, .int .i64 d.side, .int .i64 d.net, .int .i64 d.units] 31))
  have hk0 : Kept (fun _ => False) w (w.alloc (.cells #[.int .i64 d.id, .int .i64 d.owner, .int .i64 d.side, .int .i64 d.net, .int .i64 d.units] 31)) := (Kept.refl _ w).alloc _
  have hq : (w.alloc (.cells #[.int .i64 d.id, .int .i64 d.owner, .int .i64 d.side, .int .i64 d.net, .int .i64 d.units] 31)).heap[w.heap.size]? = some (boxO d) := block_alloc_new _ _
  go_enter Try.func9, Try.ntmps9
  go_wp2_with fail
  refine (place_any _ _).mono ?_
  rintro e w' ⟨rfl, rfl⟩
  rw [Hpl.out]
  generalize w.heap.size = q at hq ⊢
  generalize w.alloc (.cells #[.int .i64 d.id, .int .i64 d.owner, .int .i64 d.side, .int .i64 d.net, .int .i64 d.units] 31) = w0 at h0 hk0 hq ⊢
  have q0 : w0.cell? ⟨q, 0, none⟩ = some (.int .i64 d.id) := by rw [cell_of_block hq]; rfl
  go_wp2_with fail
  refine (get_no h0 d.id Hf.out).mono ?_
  rintro e w1 ⟨rfl, hk1⟩
  simp only [zeroOd]
  clear q0
  have h1 := h0.keptF hk1
  have hq1 := (hk1.block q (lt_of_block hq) (fun h => h)).trans hq
  have hk01 := hk0.trans hk1
  go_upto_region 3 with fail
  have hk2 : Kept (fun _ => False) w (w1.alloc (.cells #[.int .i64 0, .int .i64 0, .int .i64 0, .int .i64 0, .int .i64 0] 31)) := hk01.alloc _
  have h2 := h1.keptF ((Kept.refl _ w1).alloc (.cells #[.int .i64 0, .int .i64 0, .int .i64 0, .int .i64 0, .int .i64 0] 31))
  have hq2 : (w1.alloc (.cells #[.int .i64 0, .int .i64 0, .int .i64 0, .int .i64 0, .int .i64 0] 31)).heap[q]? = some (boxO d) := block_alloc hq1
  generalize w1.alloc (.cells #[.int .i64 0, .int .i64 0, .int .i64 0, .int .i64 0, .int .i64 0] 31) = w2 at h2 hk2 hq2 ⊢
  clear h0 hk0 hq hk1 h1 hq1 hk01
  have q0 : w2.cell? ⟨q, 0, none⟩ = some (.int .i64 d.id) := by rw [cell_of_block hq2]; rfl
  have q1 : w2.cell? ⟨q, 1, none⟩ = some (.int .i64 d.owner) := by rw [cell_of_block hq2]; rfl
  have q2 : w2.cell? ⟨q, 2, none⟩ = some (.int .i64 d.side) := by rw [cell_of_block hq2]; rfl
  have q3 : w2.cell? ⟨q, 3, none⟩ = some (.int .i64 d.net) := by rw [cell_of_block hq2]; rfl
  have q4 : w2.cell? ⟨q, 4, none⟩ = some (.int .i64 d.units) := by rw [cell_of_block hq2]; rfl
  go_wp2_with fail
  refine (inI_any _ _ _ _).mono ?_
  rintro e w' ⟨rfl, rfl⟩
  rw [Hin1.out]
  go_wp2_with fail
  refine (inI_any _ _ _ _).mono ?_
  rintro e w' ⟨rfl, rfl⟩
  rw [Hin2.out]
  go_wp2_with fail
  refine (len_any h2).mono ?_
  rintro e w' ⟨rfl, n3, rfl⟩
  rw [Hlen.out]
  clear q0 q1 q2 q3 q4
  go_wp2_with fail
  go_ret
  exact ⟨rfl, hk2.drewN n3⟩

theorem insert_full' {w : World} {a : Nat} {R : Nat → List Od} {p : Nat → Option Addr} {c : Nat → Nat} {O : Nat → Nat} (h : BkAt w a R p c O) (d : Od) (hr : Right d) (hf : findR R d.id = none) (hlen : (R 0).length + (R 1).length = 256)
    (i0 i1 i2 i3 i4 : Int) (e0 : i0 = d.id) (e1 : i1 = d.owner) (e2 : i2 = d.side) (e3 : i3 = d.net) (e4 : i4 = d.units) :
    Calls Try.prog 9 #[.pointer (some ⟨a, 0, none⟩), .agg #[.int .i64 i0, .int .i64 i1, .int .i64 i2, .int .i64 i3, .int .i64 i4]] w (FullPost w) := by
  subst e0 e1 e2 e3 e4; exact insert_full h d hr hf hlen
/-- A book in order: each row of its side, no two orders of one id. -/
structure Good (R : Nat → List Od) : Prop where
  buy : Srt 1 (R 0)
  sell : Srt 2 (R 1)
theorem Good.row {R : Nat → List Od} (h : Good R) (d : Od) (hd : d.side = 1 ∨ d.side = 2) : Srt d.side (R (sideN d)) := by
  rcases hd with e | e
  · rw [e, show sideN d = 0 by simp [sideN, e]]; exact h.buy
  · rw [e, show sideN d = 1 by simp [sideN, e]]; exact h.sell
theorem Good.ins {R : Nat → List Od} (h : Good R) (d : Od) (hd : d.side = 1 ∨ d.side = 2) (hid : ∀ k, k < 2 → ∀ x ∈ R k, x.id ≠ d.id) : Good (upd R (sideN d) (insAt (R (sideN d)) (posOf (R (sideN d)) d) d)) := by
  have h1 := (h.row d hd).ins (hid _ (sideN_lt d))
  rcases hd with e | e
  · have hs : sideN d = 0 := by simp [sideN, e]
    rw [hs] at h1 ⊢
    rw [e] at h1
    exact ⟨by rw [upd_same]; exact h1, by rw [upd_other _ _ (by decide)]; exact h.sell⟩
  · have hs : sideN d = 1 := by simp [sideN, e]
    rw [hs] at h1 ⊢
    rw [e] at h1
    exact ⟨by rw [upd_other _ _ (by decide)]; exact h.buy, by rw [upd_same]; exact h1⟩
theorem findR_none {R : Nat → List Od} {id : Int} (h : ∀ k, k < 2 → ∀ x ∈ R k, x.id ≠ id) : findR R id = none := by
  unfold findR
  rw [idxN_none (h 0 (by decide))]
  show (match idxN (R 1) id with | some i => some (1, i) | none => none) = none
  rw [idxN_none (h 1 (by decide))]
theorem ins_size {R : Nat → List Od} {d : Od} {pos : Nat} (hp : pos ≤ (R (sideN d)).length) : (upd R (sideN d) (insAt (R (sideN d)) pos d) 0).length + (upd R (sideN d) (insAt (R (sideN d)) pos d) 1).length = (R 0).length + (R 1).length + 1 := by
  have hl := insAt_len d hp
  have h : sideN d = 0 ∨ sideN d = 1 := by have := sideN_lt d; omega
  rcases h with h | h <;> rw [h] at hl ⊢
  · rw [upd_same, upd_other _ _ (by decide), hl]; omega
  · rw [upd_same, upd_other _ _ (by decide), hl]; omega
theorem ins_mem {R : Nat → List Od} {d : Od} {k : Nat} {x : Od} (hx : x ∈ upd R (sideN d) (insAt (R (sideN d)) (posOf (R (sideN d)) d) d) k) : x = d ∨ x ∈ R k := by
  by_cases e : k = sideN d
  · subst e; rw [upd_same] at hx; exact mem_insAt.1 hx
  · rw [upd_other _ _ e] at hx; exact .inr hx

def odI (j : Nat) : Od := ⟨j, 0, 1 + (j : Int) % 2, j, 1⟩
def FlRel (a : Nat) (O1 : Nat → Nat) (w1 : World) (m : Nat) (iv : Value) (wr : World) : Prop :=
  ∃ (j : Nat) (R : Nat → List Od) (p : Nat → Option Addr) (c : Nat → Nat) (O : Nat → Nat), 1 ≤ j ∧ j ≤ 257 + m ∧ iv = .int .i64 j ∧ BkAt wr a R p c O ∧ Good R ∧ (R 0).length + (R 1).length = min (j - 1) 256 ∧ (∀ k, k < 2 → ∀ x ∈ R k, x.id < j) ∧ Grows3 O1 O w1 wr

set_option maxHeartbeats 4000000 in
theorem full_any (m0 : Int) (w0 : (Lit.int .u8 m0).wf = true) (w : World) : Calls Try.prog 5 #[.int .u8 m0] w (FinPost w) := by
  obtain ⟨l0, u0⟩ := u8_bd w0
  clear w0
  obtain ⟨m, hm⟩ : ∃ m : Nat, m0 % 4 = m := ⟨(m0 % 4).toNat, by omega⟩
  have hm4 : m < 4 := by omega
  have Hm := Lib.hid hm
  clear hm
  go_enter Try.func5, Try.ntmps5
  go_wp2_with fail
  refine (known_any w).mono ?_
  rintro e w1 ⟨rfl, k1⟩
  go_wp2_with fail
  refine (new_any w1).mono ?_
  rintro e w2 ⟨a, O, rfl, h2, hk, hO⟩
  have HO := Lib.hid hO
  clear hO
  go_wp2_with fail
  have hstart : FlRel a O w2 m (.int .i64 1) w2 := ⟨1, _, _, _, O, by omega, by omega, rfl, h2, ⟨Srt.nil _, Srt.nil _⟩, rfl, (fun k _ x hx => by cases hx), Grows3.refl _ _⟩
  clear h2
  go_loopw [4] (fun iv wr => FlRel a O w2 m iv wr) (fun iv _ => 300 - (intOf iv).toNat)
  case atStart => exact hstart
  case round =>
    obtain ⟨j, R, p, c, O3, hj1, hj2, rfl, hB, hG, hlen, hids, hg⟩ := hrel
    clear hstart
    have hmm := Hm.out
    by_cases hlt : j ≤ 256 + m
    · have hside : (odI j).side = 1 ∨ (odI j).side = 2 := by show 1 + (j : Int) % 2 = 1 ∨ 1 + (j : Int) % 2 = 2; omega
      have hid : ∀ k, k < 2 → ∀ x ∈ R k, x.id ≠ (odI j).id := fun k hk x hx e => by have := hids k hk x hx; rw [e] at this; exact absurd this (by show ¬ (j : Int) < j; omega)
      have hright : Right (odI j) := ⟨by show 1 ≤ (j : Int); omega, hside, by show (1 : Int) ≤ 1; decide, by show (1 : Int) ≤ 1000000; decide, by show -16000000 ≤ (j : Int); omega, by show (j : Int) ≤ 16000000; omega⟩
      have Hside := Lib.hid hside
      have Hids := Lib.hid hid
      have Hr := Lib.hid hright
      have HG := Lib.hid hG
      have Hidl := Lib.hid hids
      clear hside hid hright hG hids
      by_cases hj : j ≤ 256
      · have hl : (R 0).length + (R 1).length < 256 := by omega
        have hlb : (R 0).length + (R 1).length = j - 1 := by omega
        have Hlb := Lib.hid hlb
        clear hlen hlb
        have hjb : decide ((j : Int) ≤ 256) = true := decide_eq_true (by omega)
        go_wp2_with fail
        refine (insert_ok' hB (odI j) Hr.out (findR_none Hids.out) hl (splits_of (odI j) (HG.out.row _ Hside.out)) rfl _ _ _ _ _ rfl rfl rfl rfl rfl).mono ?_
        rintro e w3 ⟨p3, c3, O4, rfl, h3, g3⟩
        have hpos := (splits_of (odI j) (HG.out.row _ Hside.out)).1
        have HN : Hid (FlRel a O w2 m (.int .i64 ((j : Int) + 1)) w3) := ⟨j + 1, _, p3, c3, O4, by omega, by omega, by go_num, h3, HG.out.ins _ Hside.out Hids.out, by rw [ins_size hpos, Hlb.out]; omega, fun k hk x hx => by
          rcases ins_mem hx with rfl | hx
          · show (j : Int) < ((j + 1 : Nat) : Int); omega
          · have := Hidl.out k hk x hx; omega, hg.trans g3⟩
        clear hpos
        go_wp2
        exact ⟨HN.out, by simp [intOf]; omega⟩
      · have hl : (R 0).length + (R 1).length = 256 := by omega
        have Hl := Lib.hid hl
        clear hlen hl
        have hjb : decide ((j : Int) ≤ 256) = false := decide_eq_false (by omega)
        go_wp2_with fail
        refine (insert_full' hB (odI j) Hr.out (findR_none Hids.out) Hl.out _ _ _ _ _ rfl rfl rfl rfl rfl).mono ?_
        rintro e w3 ⟨rfl, k3⟩
        have HN : Hid (FlRel a O w2 m (.int .i64 ((j : Int) + 1)) w3) := ⟨j + 1, R, p, c, O3, by omega, by omega, by go_num, hB.keptF k3, HG.out, by rw [Hl.out]; omega, fun k hk x hx => by
          have := Hidl.out k hk x hx; omega, hg.trans (Grows3.ofF k3)⟩
        go_wp2
        exact ⟨HN.out, by simp [intOf]; omega⟩
    · have hl : (R 0).length + (R 1).length = 256 := by omega
      have Hl := Lib.hid hl
      clear hlen hl
      go_wp2_with fail
      refine (len_any hB).mono ?_
      rintro e w3 ⟨rfl, n3, rfl⟩
      rw [Hl.out]
      go_wp2_with fail
      go_ret
      exact ⟨rfl, (k1.trans (kept_new3 hk HO.out hg)).drewN n3⟩
end Go.Proofs.Ytopfgcnehdjjpaa
