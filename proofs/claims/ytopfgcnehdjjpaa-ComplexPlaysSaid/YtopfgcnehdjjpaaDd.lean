/- The document's book of complex orders: what Insert refuses: the walks. -/
import Derived.Test.YtopfgcnehdjjpaaDc
namespace Go.Proofs.Ytopfgcnehdjjpaa
open Go.RowKit

theorem right_no (d : Od) (hr : ¬ Right d) (w : World) : Calls Try.prog 32 #[.agg #[.int .i64 d.id, .int .i64 d.owner, .int .i64 d.side, .int .i64 d.net, .int .i64 d.units]] w (R1Post false w) := by
  have h : decide (1 ≤ d.id) = false ∨ (decide (1 ≤ d.id) = true ∧ (((d.side == 1) = false ∧ (d.side == 2) = false) ∨
      (((d.side == 1) = true ∨ ((d.side == 1) = false ∧ (d.side == 2) = true)) ∧ (decide (1 ≤ d.units) = false ∨ (decide (1 ≤ d.units) = true ∧ (decide (d.units ≤ 1000000) = false ∨
        (decide (d.units ≤ 1000000) = true ∧ (decide (-16000000 ≤ d.net) = false ∨ (decide (-16000000 ≤ d.net) = true ∧ decide (d.net ≤ 16000000) = false))))))))) := by
    by_cases h1 : 1 ≤ d.id
    · refine .inr ⟨decide_eq_true h1, ?_⟩
      by_cases h2 : d.side = 1 ∨ d.side = 2
      · refine .inr ⟨by rcases h2 with h2 | h2 <;> simp [h2], ?_⟩
        by_cases h3 : 1 ≤ d.units
        · refine .inr ⟨decide_eq_true h3, ?_⟩
          by_cases h4 : d.units ≤ 1000000
          · refine .inr ⟨decide_eq_true h4, ?_⟩
            by_cases h5 : -16000000 ≤ d.net
            · exact .inr ⟨decide_eq_true h5, decide_eq_false fun h6 => hr ⟨h1, h2, h3, h4, h5, h6⟩⟩
            · exact .inl (decide_eq_false h5)
          · exact .inl (decide_eq_false h4)
        · exact .inl (decide_eq_false h3)
      · exact .inl (by simp; omega)
    · exact .inl (decide_eq_false h1)
  clear hr
  rcases h with h | ⟨h, ⟨h1, h2⟩ | ⟨h1 | ⟨h1, h2⟩, h3 | ⟨h3, h4 | ⟨h4, h5 | ⟨h5, h6⟩⟩⟩⟩⟩
  all_goals
    go_enter Try.func32, Try.ntmps32
    go_wp2
    go_ret
    exact ⟨rfl, (Kept.refl _ _).alloc _⟩
theorem rget_ex {w : World} {m : Nat} {R : Nat → List Od} {p : Nat → Option Addr} {c : Nat → Nat} (h : RbAt w m R p c) (id : Int) : ∃ (x : Od) (n : Int), (findR R id = none → n = -1) ∧ (findR R id ≠ none → 0 ≤ n) ∧
    Calls Try.prog 20 #[.pointer (some ⟨m, 0, none⟩), .int .i64 id] w fun e w' => e = .returned (.tuple #[.agg #[.int .i64 x.id, .int .i64 x.owner, .int .i64 x.side, .int .i64 x.net, .int .i64 x.units], .int .i64 n]) ∧ Kept (fun _ => False) w w' := by
  cases hf : findR R id with
  | none => exact ⟨zeroOd, -1, fun _ => rfl, fun h => absurd rfl h, (rget_any h id).mono fun e w' hp => hp.2 hf⟩
  | some ki =>
    obtain ⟨k, i⟩ := ki
    obtain ⟨_, d, hd, _⟩ := findR_some hf
    exact ⟨d, i, (fun h => by cases h), (fun _ => by omega), (rget_any h id).mono fun e w' hp => hp.1 k i d hf hd⟩
def NPost (v : Int) (w : World) (e : Ending) (w' : World) : Prop := e = .returned (.int .i64 v) ∧ Kept (fun _ => False) w w'

set_option maxHeartbeats 4000000 in
set_option maxRecDepth 100000 in
theorem rinsert_arg {w : World} {m : Nat} {R : Nat → List Od} {p : Nat → Option Addr} {c : Nat → Nat} (h : RbAt w m R p c) (d : Od) (hr : ¬ Right d) :
    Calls Try.prog 10 #[.pointer (some ⟨m, 0, none⟩), .agg #[.int .i64 d.id, .int .i64 d.owner, .int .i64 d.side, .int .i64 d.net, .int .i64 d.units]] w (NPost 1 w) := by
  have h0 := h.keptF ((Kept.refl _ w).alloc (.cells #[.int .i64 d.id, .int .i64 d.owner, .int .i64 d.side, .int .i64 d.net, .int .i64 d.units] 37))
  have hk0 : Kept (fun _ => False) w (w.alloc (.cells #[.int .i64 d.id, .int .i64 d.owner, .int .i64 d.side, .int .i64 d.net, .int .i64 d.units] 37)) := (Kept.refl _ w).alloc _
  have hq : (w.alloc (.cells #[.int .i64 d.id, .int .i64 d.owner, .int .i64 d.side, .int .i64 d.net, .int .i64 d.units] 37)).heap[w.heap.size]? = some (.cells #[.int .i64 d.id, .int .i64 d.owner, .int .i64 d.side, .int .i64 d.net, .int .i64 d.units] 37 (0, 0)) := block_alloc_new _ _
  obtain ⟨x, n, hn1, hn2, hg⟩ := rget_ex h0 d.id
  have Hr := Lib.hid hr
  clear hr
  clear hn1 hn2
  go_enter Try.func10, Try.ntmps10
  go_wp2_with fail
  generalize w.heap.size = q at hq ⊢
  generalize w.alloc (.cells #[.int .i64 d.id, .int .i64 d.owner, .int .i64 d.side, .int .i64 d.net, .int .i64 d.units] 37) = w0 at h0 hk0 hq hg ⊢
  refine hg.mono ?_
  rintro e w1 ⟨rfl, hk1⟩
  clear hg
  have h1 := h0.keptF hk1
  have hq1 := (hk1.block q (lt_of_block hq) (fun h => h)).trans hq
  have hk01 := hk0.trans hk1
  go_upto_region 2 with fail
  have hk2 : Kept (fun _ => False) w (w1.alloc (.cells #[.int .i64 x.id, .int .i64 x.owner, .int .i64 x.side, .int .i64 x.net, .int .i64 x.units] 37)) := hk01.alloc _
  have h2 := h1.keptF ((Kept.refl _ w1).alloc (.cells #[.int .i64 x.id, .int .i64 x.owner, .int .i64 x.side, .int .i64 x.net, .int .i64 x.units] 37))
  have hq2 : (w1.alloc (.cells #[.int .i64 x.id, .int .i64 x.owner, .int .i64 x.side, .int .i64 x.net, .int .i64 x.units] 37)).heap[q]? = some (.cells #[.int .i64 d.id, .int .i64 d.owner, .int .i64 d.side, .int .i64 d.net, .int .i64 d.units] 37 (0, 0)) := block_alloc hq1
  generalize w1.alloc (.cells #[.int .i64 x.id, .int .i64 x.owner, .int .i64 x.side, .int .i64 x.net, .int .i64 x.units] 37) = w2 at h2 hk2 hq2 ⊢
  clear h0 hk0 hq hk1 h1 hq1 hk01
  have q0 : w2.cell? ⟨q, 0, none⟩ = some (.int .i64 d.id) := by rw [cell_of_block hq2]; rfl
  have q1 : w2.cell? ⟨q, 1, none⟩ = some (.int .i64 d.owner) := by rw [cell_of_block hq2]; rfl
  have q2 : w2.cell? ⟨q, 2, none⟩ = some (.int .i64 d.side) := by rw [cell_of_block hq2]; rfl
  have q3 : w2.cell? ⟨q, 3, none⟩ = some (.int .i64 d.net) := by rw [cell_of_block hq2]; rfl
  have q4 : w2.cell? ⟨q, 4, none⟩ = some (.int .i64 d.units) := by rw [cell_of_block hq2]; rfl
  go_wp2_with fail
  refine (right_no d Hr.out _).mono ?_
  rintro e w3 ⟨rfl, k3⟩
  have hk3 := hk2.trans k3
  go_wp2_with fail
  go_ret
  exact ⟨rfl, hk3⟩

set_option maxHeartbeats 4000000 in
set_option maxRecDepth 100000 in
theorem rinsert_twice {w : World} {m : Nat} {R : Nat → List Od} {p : Nat → Option Addr} {c : Nat → Nat} (h : RbAt w m R p c) (d : Od) (hr : Right d) (hf : findR R d.id ≠ none) :
    Calls Try.prog 10 #[.pointer (some ⟨m, 0, none⟩), .agg #[.int .i64 d.id, .int .i64 d.owner, .int .i64 d.side, .int .i64 d.net, .int .i64 d.units]] w (NPost 6 w) := by
  have h0 := h.keptF ((Kept.refl _ w).alloc (.cells #[.int .i64 d.id, .int .i64 d.owner, .int .i64 d.side, .int .i64 d.net, .int .i64 d.units] 37))
  have hk0 : Kept (fun _ => False) w (w.alloc (.cells #[.int .i64 d.id, .int .i64 d.owner, .int .i64 d.side, .int .i64 d.net, .int .i64 d.units] 37)) := (Kept.refl _ w).alloc _
  have hq : (w.alloc (.cells #[.int .i64 d.id, .int .i64 d.owner, .int .i64 d.side, .int .i64 d.net, .int .i64 d.units] 37)).heap[w.heap.size]? = some (.cells #[.int .i64 d.id, .int .i64 d.owner, .int .i64 d.side, .int .i64 d.net, .int .i64 d.units] 37 (0, 0)) := block_alloc_new _ _
  obtain ⟨x, n, hn1, hn2, hg⟩ := rget_ex h0 d.id
  have Hr := Lib.hid hr
  have hn := hn2 hf
  clear hr hf
  clear hn1 hn2
  go_enter Try.func10, Try.ntmps10
  go_wp2_with fail
  generalize w.heap.size = q at hq ⊢
  generalize w.alloc (.cells #[.int .i64 d.id, .int .i64 d.owner, .int .i64 d.side, .int .i64 d.net, .int .i64 d.units] 37) = w0 at h0 hk0 hq hg ⊢
  refine hg.mono ?_
  rintro e w1 ⟨rfl, hk1⟩
  clear hg
  have h1 := h0.keptF hk1
  have hq1 := (hk1.block q (lt_of_block hq) (fun h => h)).trans hq
  have hk01 := hk0.trans hk1
  go_upto_region 2 with fail
  have hk2 : Kept (fun _ => False) w (w1.alloc (.cells #[.int .i64 x.id, .int .i64 x.owner, .int .i64 x.side, .int .i64 x.net, .int .i64 x.units] 37)) := hk01.alloc _
  have h2 := h1.keptF ((Kept.refl _ w1).alloc (.cells #[.int .i64 x.id, .int .i64 x.owner, .int .i64 x.side, .int .i64 x.net, .int .i64 x.units] 37))
  have hq2 : (w1.alloc (.cells #[.int .i64 x.id, .int .i64 x.owner, .int .i64 x.side, .int .i64 x.net, .int .i64 x.units] 37)).heap[q]? = some (.cells #[.int .i64 d.id, .int .i64 d.owner, .int .i64 d.side, .int .i64 d.net, .int .i64 d.units] 37 (0, 0)) := block_alloc hq1
  generalize w1.alloc (.cells #[.int .i64 x.id, .int .i64 x.owner, .int .i64 x.side, .int .i64 x.net, .int .i64 x.units] 37) = w2 at h2 hk2 hq2 ⊢
  clear h0 hk0 hq hk1 h1 hq1 hk01
  have q0 : w2.cell? ⟨q, 0, none⟩ = some (.int .i64 d.id) := by rw [cell_of_block hq2]; rfl
  have q1 : w2.cell? ⟨q, 1, none⟩ = some (.int .i64 d.owner) := by rw [cell_of_block hq2]; rfl
  have q2 : w2.cell? ⟨q, 2, none⟩ = some (.int .i64 d.side) := by rw [cell_of_block hq2]; rfl
  have q3 : w2.cell? ⟨q, 3, none⟩ = some (.int .i64 d.net) := by rw [cell_of_block hq2]; rfl
  have q4 : w2.cell? ⟨q, 4, none⟩ = some (.int .i64 d.units) := by rw [cell_of_block hq2]; rfl
  go_wp2_with fail
  refine (right_yes d Hr.out _).mono ?_
  rintro e w3 ⟨rfl, k3⟩
  have hk3 := hk2.trans k3
  go_wp2_with fail
  go_ret
  exact ⟨rfl, hk3⟩

set_option maxHeartbeats 4000000 in
set_option maxRecDepth 100000 in
theorem rinsert_full {w : World} {m : Nat} {R : Nat → List Od} {p : Nat → Option Addr} {c : Nat → Nat} (h : RbAt w m R p c) (d : Od) (hr : Right d) (hf : findR R d.id = none) (hlen : (R 0).length + (R 1).length = 256) :
    Calls Try.prog 10 #[.pointer (some ⟨m, 0, none⟩), .agg #[.int .i64 d.id, .int .i64 d.owner, .int .i64 d.side, .int .i64 d.net, .int .i64 d.units]] w (NPost 8 w) := by
  have h0 := h.keptF ((Kept.refl _ w).alloc (.cells #[.int .i64 d.id, .int .i64 d.owner, .int .i64 d.side, .int .i64 d.net, .int .i64 d.units] 37))
  have hk0 : Kept (fun _ => False) w (w.alloc (.cells #[.int .i64 d.id, .int .i64 d.owner, .int .i64 d.side, .int .i64 d.net, .int .i64 d.units] 37)) := (Kept.refl _ w).alloc _
  have hq : (w.alloc (.cells #[.int .i64 d.id, .int .i64 d.owner, .int .i64 d.side, .int .i64 d.net, .int .i64 d.units] 37)).heap[w.heap.size]? = some (.cells #[.int .i64 d.id, .int .i64 d.owner, .int .i64 d.side, .int .i64 d.net, .int .i64 d.units] 37 (0, 0)) := block_alloc_new _ _
  obtain ⟨x, n, hn1, hn2, hg⟩ := rget_ex h0 d.id
  have Hr := Lib.hid hr
  obtain rfl := hn1 hf
  clear hr hf
  clear hn1 hn2
  go_enter Try.func10, Try.ntmps10
  go_wp2_with fail
  generalize w.heap.size = q at hq ⊢
  generalize w.alloc (.cells #[.int .i64 d.id, .int .i64 d.owner, .int .i64 d.side, .int .i64 d.net, .int .i64 d.units] 37) = w0 at h0 hk0 hq hg ⊢
  refine hg.mono ?_
  rintro e w1 ⟨rfl, hk1⟩
  clear hg
  have h1 := h0.keptF hk1
  have hq1 := (hk1.block q (lt_of_block hq) (fun h => h)).trans hq
  have hk01 := hk0.trans hk1
  go_upto_region 2 with fail
  have hk2 : Kept (fun _ => False) w (w1.alloc (.cells #[.int .i64 x.id, .int .i64 x.owner, .int .i64 x.side, .int .i64 x.net, .int .i64 x.units] 37)) := hk01.alloc _
  have h2 := h1.keptF ((Kept.refl _ w1).alloc (.cells #[.int .i64 x.id, .int .i64 x.owner, .int .i64 x.side, .int .i64 x.net, .int .i64 x.units] 37))
  have hq2 : (w1.alloc (.cells #[.int .i64 x.id, .int .i64 x.owner, .int .i64 x.side, .int .i64 x.net, .int .i64 x.units] 37)).heap[q]? = some (.cells #[.int .i64 d.id, .int .i64 d.owner, .int .i64 d.side, .int .i64 d.net, .int .i64 d.units] 37 (0, 0)) := block_alloc hq1
  generalize w1.alloc (.cells #[.int .i64 x.id, .int .i64 x.owner, .int .i64 x.side, .int .i64 x.net, .int .i64 x.units] 37) = w2 at h2 hk2 hq2 ⊢
  clear h0 hk0 hq hk1 h1 hq1 hk01
  have q0 : w2.cell? ⟨q, 0, none⟩ = some (.int .i64 d.id) := by rw [cell_of_block hq2]; rfl
  have q1 : w2.cell? ⟨q, 1, none⟩ = some (.int .i64 d.owner) := by rw [cell_of_block hq2]; rfl
  have q2 : w2.cell? ⟨q, 2, none⟩ = some (.int .i64 d.side) := by rw [cell_of_block hq2]; rfl
  have q3 : w2.cell? ⟨q, 3, none⟩ = some (.int .i64 d.net) := by rw [cell_of_block hq2]; rfl
  have q4 : w2.cell? ⟨q, 4, none⟩ = some (.int .i64 d.units) := by rw [cell_of_block hq2]; rfl
  go_wp2_with fail
  refine (right_yes d Hr.out _).mono ?_
  rintro e w3 ⟨rfl, k3⟩
  have hk3 := hk2.trans k3
  have h3 := h2.keptF k3
  have r0 := h3.row (k := 0) (by decide)
  have r1 := h3.row (k := 1) (by decide)
  have s1 : IntKind.i64.wrap (((R 0).length : Int) + (R 1).length) = (R 0).length + (R 1).length := IntWalk.i64_in _ (by omega)
  have hge : decide (256 ≤ ((R 0).length : Int) + (R 1).length) = true := decide_eq_true (by omega)
  clear q0 q1 q2 q3 q4
  go_wp2_with fail
  go_quiet (fail)
  clear s1 hge r0 r1
  go_wp2_with fail
  go_ret
  exact ⟨rfl, hk3.drewN nq⟩
theorem get_ex {w : World} {a : Nat} {R : Nat → List Od} {p : Nat → Option Addr} {c : Nat → Nat} {O : Nat → Nat} (h : BkAt w a R p c O) (id : Int) : ∃ (x : Od) (b : Bool), (findR R id = none → b = false) ∧ (findR R id ≠ none → b = true) ∧
    Calls Try.prog 19 #[.pointer (some ⟨a, 0, none⟩), .int .i64 id] w fun e w' => e = .returned (.tuple #[.agg #[.int .i64 x.id, .int .i64 x.owner, .int .i64 x.side, .int .i64 x.net, .int .i64 x.units], .bool b]) ∧ Kept (fun _ => False) w w' := by
  cases hf : findR R id with
  | none => exact ⟨zeroOd, false, fun _ => rfl, fun h => absurd rfl h, get_no h id hf⟩
  | some ki =>
    obtain ⟨k, i⟩ := ki
    obtain ⟨_, d, hd, _⟩ := findR_some hf
    exact ⟨d, true, (fun h => by cases h), (fun _ => rfl), get_yes h id hf hd⟩

set_option maxHeartbeats 4000000 in
set_option maxRecDepth 100000 in
theorem insert_arg1 {w : World} {a : Nat} {R : Nat → List Od} {p : Nat → Option Addr} {c : Nat → Nat} {O : Nat → Nat} (h : BkAt w a R p c O) (d : Od) (h1 : d.id < 1) :
    Calls Try.prog 9 #[.pointer (some ⟨a, 0, none⟩), .agg #[.int .i64 d.id, .int .i64 d.owner, .int .i64 d.side, .int .i64 d.net, .int .i64 d.units]] w (NPost 1 w) := by
  have hb : decide (d.id < 1) = true := decide_eq_true h1
  have Hpl : Hid (placeI d.side = placeI d.side) := rfl
  clear h1
  have h0 := h.keptF ((Kept.refl _ w).alloc (.cells #[.int .i64 d.id, .int .i64 d.owner, .int .i64 d.side, .int .i64 d.net, .int .i64 d.units] 31))
  have hk0 : Kept (fun _ => False) w (w.alloc (.cells #[.int .i64 d.id, .int .i64 d.owner, .int .i64 d.side, .int .i64 d.net, .int .i64 d.units] 31)) := (Kept.refl _ w).alloc _
  have hq : (w.alloc (.cells #[.int .i64 d.id, .int .i64 d.owner, .int .i64 d.side, .int .i64 d.net, .int .i64 d.units] 31)).heap[w.heap.size]? = some (boxO d) := block_alloc_new _ _
  obtain ⟨x, b, hb1, hb2, hg⟩ := get_ex h0 d.id
  clear hb1 hb2
  go_enter Try.func9, Try.ntmps9
  go_wp2_with fail
  refine (place_any _ _).mono ?_
  rintro e w' ⟨rfl, rfl⟩
  generalize placeI d.side = pl
  generalize w.heap.size = q at hq ⊢
  generalize w.alloc (.cells #[.int .i64 d.id, .int .i64 d.owner, .int .i64 d.side, .int .i64 d.net, .int .i64 d.units] 31) = w0 at h0 hk0 hq hg ⊢
  have q0 : w0.cell? ⟨q, 0, none⟩ = some (.int .i64 d.id) := by rw [cell_of_block hq]; rfl
  go_wp2_with fail
  refine hg.mono ?_
  rintro e w1 ⟨rfl, hk1⟩
  clear q0 hg
  have h1 := h0.keptF hk1
  have hq1 := (hk1.block q (lt_of_block hq) (fun h => h)).trans hq
  have hk01 := hk0.trans hk1
  go_upto_region 3 with fail
  have hk2 : Kept (fun _ => False) w (w1.alloc (.cells #[.int .i64 x.id, .int .i64 x.owner, .int .i64 x.side, .int .i64 x.net, .int .i64 x.units] 31)) := hk01.alloc _
  have h2 := h1.keptF ((Kept.refl _ w1).alloc (.cells #[.int .i64 x.id, .int .i64 x.owner, .int .i64 x.side, .int .i64 x.net, .int .i64 x.units] 31))
  have hq2 : (w1.alloc (.cells #[.int .i64 x.id, .int .i64 x.owner, .int .i64 x.side, .int .i64 x.net, .int .i64 x.units] 31)).heap[q]? = some (boxO d) := block_alloc hq1
  generalize w1.alloc (.cells #[.int .i64 x.id, .int .i64 x.owner, .int .i64 x.side, .int .i64 x.net, .int .i64 x.units] 31) = w2 at h2 hk2 hq2 ⊢
  clear h0 hk0 hq hk1 h1 hq1 hk01
  have q0 : w2.cell? ⟨q, 0, none⟩ = some (.int .i64 d.id) := by rw [cell_of_block hq2]; rfl
  have q1 : w2.cell? ⟨q, 1, none⟩ = some (.int .i64 d.owner) := by rw [cell_of_block hq2]; rfl
  have q2 : w2.cell? ⟨q, 2, none⟩ = some (.int .i64 d.side) := by rw [cell_of_block hq2]; rfl
  have q3 : w2.cell? ⟨q, 3, none⟩ = some (.int .i64 d.net) := by rw [cell_of_block hq2]; rfl
  have q4 : w2.cell? ⟨q, 4, none⟩ = some (.int .i64 d.units) := by rw [cell_of_block hq2]; rfl
  go_wp2_with fail
  go_ret
  exact ⟨rfl, hk2⟩

set_option maxHeartbeats 4000000 in
set_option maxRecDepth 100000 in
theorem insert_arg2 {w : World} {a : Nat} {R : Nat → List Od} {p : Nat → Option Addr} {c : Nat → Nat} {O : Nat → Nat} (h : BkAt w a R p c O) (d : Od) (h1 : 1 ≤ d.id) (h2 : d.side ≠ 1 ∧ d.side ≠ 2) :
    Calls Try.prog 9 #[.pointer (some ⟨a, 0, none⟩), .agg #[.int .i64 d.id, .int .i64 d.owner, .int .i64 d.side, .int .i64 d.net, .int .i64 d.units]] w (NPost 1 w) := by
  have hb : decide (d.id < 1) = false := decide_eq_false (by omega)
  have hpl : placeI d.side = -1 := by simp [placeI, h2.1, h2.2]
  have Hpl := Lib.hid hpl
  clear hpl
  clear h2
  have h0 := h.keptF ((Kept.refl _ w).alloc (.cells #[.int .i64 d.id, .int .i64 d.owner, .int .i64 d.side, .int .i64 d.net, .int .i64 d.units] 31))
  have hk0 : Kept (fun _ => False) w (w.alloc (.cells #[.int .i64 d.id, .int .i64 d.owner, .int .i64 d.side, .int .i64 d.net, .int .i64 d.units] 31)) := (Kept.refl _ w).alloc _
  have hq : (w.alloc (.cells #[.int .i64 d.id, .int .i64 d.owner, .int .i64 d.side, .int .i64 d.net, .int .i64 d.units] 31)).heap[w.heap.size]? = some (boxO d) := block_alloc_new _ _
  obtain ⟨x, b, hb1, hb2, hg⟩ := get_ex h0 d.id
  clear hb1 hb2
  go_enter Try.func9, Try.ntmps9
  go_wp2_with fail
  refine (place_any _ _).mono ?_
  rintro e w' ⟨rfl, rfl⟩
  try rw [Hpl.out]
  generalize w.heap.size = q at hq ⊢
  generalize w.alloc (.cells #[.int .i64 d.id, .int .i64 d.owner, .int .i64 d.side, .int .i64 d.net, .int .i64 d.units] 31) = w0 at h0 hk0 hq hg ⊢
  have q0 : w0.cell? ⟨q, 0, none⟩ = some (.int .i64 d.id) := by rw [cell_of_block hq]; rfl
  go_wp2_with fail
  refine hg.mono ?_
  rintro e w1 ⟨rfl, hk1⟩
  clear q0 hg
  have h1 := h0.keptF hk1
  have hq1 := (hk1.block q (lt_of_block hq) (fun h => h)).trans hq
  have hk01 := hk0.trans hk1
  go_upto_region 3 with fail
  have hk2 : Kept (fun _ => False) w (w1.alloc (.cells #[.int .i64 x.id, .int .i64 x.owner, .int .i64 x.side, .int .i64 x.net, .int .i64 x.units] 31)) := hk01.alloc _
  have h2 := h1.keptF ((Kept.refl _ w1).alloc (.cells #[.int .i64 x.id, .int .i64 x.owner, .int .i64 x.side, .int .i64 x.net, .int .i64 x.units] 31))
  have hq2 : (w1.alloc (.cells #[.int .i64 x.id, .int .i64 x.owner, .int .i64 x.side, .int .i64 x.net, .int .i64 x.units] 31)).heap[q]? = some (boxO d) := block_alloc hq1
  generalize w1.alloc (.cells #[.int .i64 x.id, .int .i64 x.owner, .int .i64 x.side, .int .i64 x.net, .int .i64 x.units] 31) = w2 at h2 hk2 hq2 ⊢
  clear h0 hk0 hq hk1 h1 hq1 hk01
  have q0 : w2.cell? ⟨q, 0, none⟩ = some (.int .i64 d.id) := by rw [cell_of_block hq2]; rfl
  have q1 : w2.cell? ⟨q, 1, none⟩ = some (.int .i64 d.owner) := by rw [cell_of_block hq2]; rfl
  have q2 : w2.cell? ⟨q, 2, none⟩ = some (.int .i64 d.side) := by rw [cell_of_block hq2]; rfl
  have q3 : w2.cell? ⟨q, 3, none⟩ = some (.int .i64 d.net) := by rw [cell_of_block hq2]; rfl
  have q4 : w2.cell? ⟨q, 4, none⟩ = some (.int .i64 d.units) := by rw [cell_of_block hq2]; rfl
  go_wp2_with fail
  go_ret
  exact ⟨rfl, hk2⟩

set_option maxHeartbeats 4000000 in
set_option maxRecDepth 100000 in
theorem insert_arg3 {w : World} {a : Nat} {R : Nat → List Od} {p : Nat → Option Addr} {c : Nat → Nat} {O : Nat → Nat} (h : BkAt w a R p c O) (d : Od) (h1 : 1 ≤ d.id) (h2 : d.side = 1 ∨ d.side = 2) (h3 : inI d.units 1 1000000 = false) :
    Calls Try.prog 9 #[.pointer (some ⟨a, 0, none⟩), .agg #[.int .i64 d.id, .int .i64 d.owner, .int .i64 d.side, .int .i64 d.net, .int .i64 d.units]] w (NPost 1 w) := by
  have hb : decide (d.id < 1) = false := decide_eq_false (by omega)
  obtain ⟨k, hk, hpl⟩ : ∃ k : Nat, k < 2 ∧ placeI d.side = k := by rcases h2 with h2 | h2 <;> (rw [h2]; first | exact ⟨0, by omega, rfl⟩ | exact ⟨1, by omega, rfl⟩)
  have Hpl := Lib.hid hpl
  clear hpl
  have hkb : decide ((k : Int) < 0) = false := decide_eq_false (by omega)
  clear h2
  have Hin1 := Lib.hid h3
  clear h3
  have h0 := h.keptF ((Kept.refl _ w).alloc (.cells #[.int .i64 d.id, .int .i64 d.owner, .int .i64 d.side, .int .i64 d.net, .int .i64 d.units] 31))
  have hk0 : Kept (fun _ => False) w (w.alloc (.cells #[.int .i64 d.id, .int .i64 d.owner, .int .i64 d.side, .int .i64 d.net, .int .i64 d.units] 31)) := (Kept.refl _ w).alloc _
  have hq : (w.alloc (.cells #[.int .i64 d.id, .int .i64 d.owner, .int .i64 d.side, .int .i64 d.net, .int .i64 d.units] 31)).heap[w.heap.size]? = some (boxO d) := block_alloc_new _ _
  obtain ⟨x, b, hb1, hb2, hg⟩ := get_ex h0 d.id
  clear hb1 hb2
  go_enter Try.func9, Try.ntmps9
  go_wp2_with fail
  refine (place_any _ _).mono ?_
  rintro e w' ⟨rfl, rfl⟩
  try rw [Hpl.out]
  generalize w.heap.size = q at hq ⊢
  generalize w.alloc (.cells #[.int .i64 d.id, .int .i64 d.owner, .int .i64 d.side, .int .i64 d.net, .int .i64 d.units] 31) = w0 at h0 hk0 hq hg ⊢
  have q0 : w0.cell? ⟨q, 0, none⟩ = some (.int .i64 d.id) := by rw [cell_of_block hq]; rfl
  go_wp2_with fail
  refine hg.mono ?_
  rintro e w1 ⟨rfl, hk1⟩
  clear q0 hg
  have h1 := h0.keptF hk1
  have hq1 := (hk1.block q (lt_of_block hq) (fun h => h)).trans hq
  have hk01 := hk0.trans hk1
  go_upto_region 3 with fail
  have hk2 : Kept (fun _ => False) w (w1.alloc (.cells #[.int .i64 x.id, .int .i64 x.owner, .int .i64 x.side, .int .i64 x.net, .int .i64 x.units] 31)) := hk01.alloc _
  have h2 := h1.keptF ((Kept.refl _ w1).alloc (.cells #[.int .i64 x.id, .int .i64 x.owner, .int .i64 x.side, .int .i64 x.net, .int .i64 x.units] 31))
  have hq2 : (w1.alloc (.cells #[.int .i64 x.id, .int .i64 x.owner, .int .i64 x.side, .int .i64 x.net, .int .i64 x.units] 31)).heap[q]? = some (boxO d) := block_alloc hq1
  generalize w1.alloc (.cells #[.int .i64 x.id, .int .i64 x.owner, .int .i64 x.side, .int .i64 x.net, .int .i64 x.units] 31) = w2 at h2 hk2 hq2 ⊢
  clear h0 hk0 hq hk1 h1 hq1 hk01
  have q0 : w2.cell? ⟨q, 0, none⟩ = some (.int .i64 d.id) := by rw [cell_of_block hq2]; rfl
  have q1 : w2.cell? ⟨q, 1, none⟩ = some (.int .i64 d.owner) := by rw [cell_of_block hq2]; rfl
  have q2 : w2.cell? ⟨q, 2, none⟩ = some (.int .i64 d.side) := by rw [cell_of_block hq2]; rfl
  have q3 : w2.cell? ⟨q, 3, none⟩ = some (.int .i64 d.net) := by rw [cell_of_block hq2]; rfl
  have q4 : w2.cell? ⟨q, 4, none⟩ = some (.int .i64 d.units) := by rw [cell_of_block hq2]; rfl
  go_wp2_with fail
  refine (inI_any _ _ _ _).mono ?_
  rintro e w' ⟨rfl, rfl⟩
  rw [Hin1.out]
  go_wp2_with fail
  go_ret
  exact ⟨rfl, hk2⟩

set_option maxHeartbeats 4000000 in
set_option maxRecDepth 100000 in
theorem insert_arg4 {w : World} {a : Nat} {R : Nat → List Od} {p : Nat → Option Addr} {c : Nat → Nat} {O : Nat → Nat} (h : BkAt w a R p c O) (d : Od) (h1 : 1 ≤ d.id) (h2 : d.side = 1 ∨ d.side = 2) (h3 : inI d.units 1 1000000 = true) (h4 : inI d.net (-16000000) 16000000 = false) :
    Calls Try.prog 9 #[.pointer (some ⟨a, 0, none⟩), .agg #[.int .i64 d.id, .int .i64 d.owner, .int .i64 d.side, .int .i64 d.net, .int .i64 d.units]] w (NPost 1 w) := by
  have hb : decide (d.id < 1) = false := decide_eq_false (by omega)
  obtain ⟨k, hk, hpl⟩ : ∃ k : Nat, k < 2 ∧ placeI d.side = k := by rcases h2 with h2 | h2 <;> (rw [h2]; first | exact ⟨0, by omega, rfl⟩ | exact ⟨1, by omega, rfl⟩)
  have Hpl := Lib.hid hpl
  clear hpl
  have hkb : decide ((k : Int) < 0) = false := decide_eq_false (by omega)
  clear h2
  have Hin1 := Lib.hid h3
  have Hin2 := Lib.hid h4
  clear h3 h4
  have h0 := h.keptF ((Kept.refl _ w).alloc (.cells #[.int .i64 d.id, .int .i64 d.owner, .int .i64 d.side, .int .i64 d.net, .int .i64 d.units] 31))
  have hk0 : Kept (fun _ => False) w (w.alloc (.cells #[.int .i64 d.id, .int .i64 d.owner, .int .i64 d.side, .int .i64 d.net, .int .i64 d.units] 31)) := (Kept.refl _ w).alloc _
  have hq : (w.alloc (.cells #[.int .i64 d.id, .int .i64 d.owner, .int .i64 d.side, .int .i64 d.net, .int .i64 d.units] 31)).heap[w.heap.size]? = some (boxO d) := block_alloc_new _ _
  obtain ⟨x, b, hb1, hb2, hg⟩ := get_ex h0 d.id
  clear hb1 hb2
  go_enter Try.func9, Try.ntmps9
  go_wp2_with fail
  refine (place_any _ _).mono ?_
  rintro e w' ⟨rfl, rfl⟩
  try rw [Hpl.out]
  generalize w.heap.size = q at hq ⊢
  generalize w.alloc (.cells #[.int .i64 d.id, .int .i64 d.owner, .int .i64 d.side, .int .i64 d.net, .int .i64 d.units] 31) = w0 at h0 hk0 hq hg ⊢
  have q0 : w0.cell? ⟨q, 0, none⟩ = some (.int .i64 d.id) := by rw [cell_of_block hq]; rfl
  go_wp2_with fail
  refine hg.mono ?_
  rintro e w1 ⟨rfl, hk1⟩
  clear q0 hg
  have h1 := h0.keptF hk1
  have hq1 := (hk1.block q (lt_of_block hq) (fun h => h)).trans hq
  have hk01 := hk0.trans hk1
  go_upto_region 3 with fail
  have hk2 : Kept (fun _ => False) w (w1.alloc (.cells #[.int .i64 x.id, .int .i64 x.owner, .int .i64 x.side, .int .i64 x.net, .int .i64 x.units] 31)) := hk01.alloc _
  have h2 := h1.keptF ((Kept.refl _ w1).alloc (.cells #[.int .i64 x.id, .int .i64 x.owner, .int .i64 x.side, .int .i64 x.net, .int .i64 x.units] 31))
  have hq2 : (w1.alloc (.cells #[.int .i64 x.id, .int .i64 x.owner, .int .i64 x.side, .int .i64 x.net, .int .i64 x.units] 31)).heap[q]? = some (boxO d) := block_alloc hq1
  generalize w1.alloc (.cells #[.int .i64 x.id, .int .i64 x.owner, .int .i64 x.side, .int .i64 x.net, .int .i64 x.units] 31) = w2 at h2 hk2 hq2 ⊢
  clear h0 hk0 hq hk1 h1 hq1 hk01
  have q0 : w2.cell? ⟨q, 0, none⟩ = some (.int .i64 d.id) := by rw [cell_of_block hq2]; rfl
  have q1 : w2.cell? ⟨q, 1, none⟩ = some (.int .i64 d.owner) := by rw [cell_of_block hq2]; rfl
  have q2 : w2.cell? ⟨q, 2, none⟩ = some (.int .i64 d.side) := by rw [cell_of_block hq2]; rfl
  have q3 : w2.cell? ⟨q, 3, none⟩ = some (.int .i64 d.net) := by rw [cell_of_block hq2]; rfl
  have q4 : w2.cell? ⟨q, 4, none⟩ = some (.int .i64 d.units) := by rw [cell_of_block hq2]; rfl
  go_wp2_with fail
  refine (inI_any _ _ _ _).mono ?_
  rintro e w' ⟨rfl, rfl⟩
  rw [Hin1.out]
  go_wp2_with fail
  refine (inI_any _ _ _ _).mono ?_
  rintro e w' ⟨rfl, rfl⟩
  rw [Hin2.out]
  go_wp2_with fail
  go_ret
  exact ⟨rfl, hk2⟩

set_option maxHeartbeats 4000000 in
set_option maxRecDepth 100000 in
theorem insert_twice {w : World} {a : Nat} {R : Nat → List Od} {p : Nat → Option Addr} {c : Nat → Nat} {O : Nat → Nat} (h : BkAt w a R p c O) (d : Od) (hr : Right d) (hf : findR R d.id ≠ none) :
    Calls Try.prog 9 #[.pointer (some ⟨a, 0, none⟩), .agg #[.int .i64 d.id, .int .i64 d.owner, .int .i64 d.side, .int .i64 d.net, .int .i64 d.units]] w (NPost 6 w) := by
  have h1 := hr.id
  have h2 := hr.side
  have hin1 : inI d.units 1 1000000 = true := by simp [inI, hr.u1, hr.u2]
  have hin2 : inI d.net (-16000000) 16000000 = true := by simp [inI, hr.n1, hr.n2]
  have hb : decide (d.id < 1) = false := decide_eq_false (by omega)
  obtain ⟨k, hk, hpl⟩ : ∃ k : Nat, k < 2 ∧ placeI d.side = k := by rcases h2 with h2 | h2 <;> (rw [h2]; first | exact ⟨0, by omega, rfl⟩ | exact ⟨1, by omega, rfl⟩)
  have Hpl := Lib.hid hpl
  clear hpl
  have hkb : decide ((k : Int) < 0) = false := decide_eq_false (by omega)
  clear h2
  have Hin1 := Lib.hid hin1
  have Hin2 := Lib.hid hin2
  clear hin1 hin2 hr
  have h0 := h.keptF ((Kept.refl _ w).alloc (.cells #[.int .i64 d.id, .int .i64 d.owner, .int .i64 d.side, .int .i64 d.net, .int .i64 d.units] 31))
  have hk0 : Kept (fun _ => False) w (w.alloc (.cells #[.int .i64 d.id, .int .i64 d.owner, .int .i64 d.side, .int .i64 d.net, .int .i64 d.units] 31)) := (Kept.refl _ w).alloc _
  have hq : (w.alloc (.cells #[.int .i64 d.id, .int .i64 d.owner, .int .i64 d.side, .int .i64 d.net, .int .i64 d.units] 31)).heap[w.heap.size]? = some (boxO d) := block_alloc_new _ _
  obtain ⟨x, b, hb1, hb2, hg⟩ := get_ex h0 d.id
  obtain rfl := hb2 hf
  clear hf
  clear hb1 hb2
  go_enter Try.func9, Try.ntmps9
  go_wp2_with fail
  refine (place_any _ _).mono ?_
  rintro e w' ⟨rfl, rfl⟩
  try rw [Hpl.out]
  generalize w.heap.size = q at hq ⊢
  generalize w.alloc (.cells #[.int .i64 d.id, .int .i64 d.owner, .int .i64 d.side, .int .i64 d.net, .int .i64 d.units] 31) = w0 at h0 hk0 hq hg ⊢
  have q0 : w0.cell? ⟨q, 0, none⟩ = some (.int .i64 d.id) := by rw [cell_of_block hq]; rfl
  go_wp2_with fail
  refine hg.mono ?_
  rintro e w1 ⟨rfl, hk1⟩
  clear q0 hg
  have h1 := h0.keptF hk1
  have hq1 := (hk1.block q (lt_of_block hq) (fun h => h)).trans hq
  have hk01 := hk0.trans hk1
  go_upto_region 3 with fail
  have hk2 : Kept (fun _ => False) w (w1.alloc (.cells #[.int .i64 x.id, .int .i64 x.owner, .int .i64 x.side, .int .i64 x.net, .int .i64 x.units] 31)) := hk01.alloc _
  have h2 := h1.keptF ((Kept.refl _ w1).alloc (.cells #[.int .i64 x.id, .int .i64 x.owner, .int .i64 x.side, .int .i64 x.net, .int .i64 x.units] 31))
  have hq2 : (w1.alloc (.cells #[.int .i64 x.id, .int .i64 x.owner, .int .i64 x.side, .int .i64 x.net, .int .i64 x.units] 31)).heap[q]? = some (boxO d) := block_alloc hq1
  generalize w1.alloc (.cells #[.int .i64 x.id, .int .i64 x.owner, .int .i64 x.side, .int .i64 x.net, .int .i64 x.units] 31) = w2 at h2 hk2 hq2 ⊢
  clear h0 hk0 hq hk1 h1 hq1 hk01
  have q0 : w2.cell? ⟨q, 0, none⟩ = some (.int .i64 d.id) := by rw [cell_of_block hq2]; rfl
  have q1 : w2.cell? ⟨q, 1, none⟩ = some (.int .i64 d.owner) := by rw [cell_of_block hq2]; rfl
  have q2 : w2.cell? ⟨q, 2, none⟩ = some (.int .i64 d.side) := by rw [cell_of_block hq2]; rfl
  have q3 : w2.cell? ⟨q, 3, none⟩ = some (.int .i64 d.net) := by rw [cell_of_block hq2]; rfl
  have q4 : w2.cell? ⟨q, 4, none⟩ = some (.int .i64 d.units) := by rw [cell_of_block hq2]; rfl
  go_wp2_with fail
  refine (inI_any _ _ _ _).mono ?_
  rintro e w' ⟨rfl, rfl⟩
  rw [Hin1.out]
  go_wp2_with fail
  refine (inI_any _ _ _ _).mono ?_
  rintro e w' ⟨rfl, rfl⟩
  rw [Hin2.out]
  go_wp2_with fail
  go_ret
  exact ⟨rfl, hk2⟩
theorem insert_arg {w : World} {a : Nat} {R : Nat → List Od} {p : Nat → Option Addr} {c : Nat → Nat} {O : Nat → Nat} (h : BkAt w a R p c O) (d : Od) (hr : ¬ Right d) :
    Calls Try.prog 9 #[.pointer (some ⟨a, 0, none⟩), .agg #[.int .i64 d.id, .int .i64 d.owner, .int .i64 d.side, .int .i64 d.net, .int .i64 d.units]] w (NPost 1 w) := by
  by_cases h1 : 1 ≤ d.id
  · by_cases h2 : d.side = 1 ∨ d.side = 2
    · cases h3 : inI d.units 1 1000000 with
      | false => exact insert_arg3 h d h1 h2 h3
      | true =>
        cases h4 : inI d.net (-16000000) 16000000 with
        | false => exact insert_arg4 h d h1 h2 h3 h4
        | true =>
          simp [inI] at h3 h4
          exact absurd ⟨h1, h2, h3.1, h3.2, h4.1, h4.2⟩ hr
    · exact insert_arg2 h d h1 (by omega)
  · exact insert_arg1 h d (by omega)
end Go.Proofs.Ytopfgcnehdjjpaa
