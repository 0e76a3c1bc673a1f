/- The walk of the arena: a row's values. -/
import Derived.Test.YtpcoffpdkfbhdaaFg
namespace Go.Proofs.Ytpcoffpdkfbhdaa
open Go.RowKit
variable {w : World} {a bc br fc : Nat} {fa : Option Addr} {S : Ar} {O : Nat → Bool}

/-- From cell c on the cells of l follow each other, to the end. -/
def LinkFrom (S : Ar) : Int → List Nat → Prop
  | c, [] => c = -1
  | c, i :: l => c = i ∧ i < S.N ∧ (S.cell i).row ≠ -1 ∧ LinkFrom S (S.cell i).next l
def vals (S : Ar) (l : List Nat) : List Value := l.map fun i => Value.int .i64 (S.cell i).v

theorem Try.info2' : (Try.prog.info? 2).map (fun i => (i.zero, i.size, i.bytes)) = some (some (.int .i64 0), 1, 8) := by kernel_rfl

def RowPost (a bc br : Nat) (fa : Option Addr) (fc : Nat) (S : Ar) (O : Nat → Bool) (l : List Nat) (w : World) (e : Ending) (w' : World) : Prop :=
  ∃ p, e = .returned (.slice p l.length l.length) ∧ SlAt w' 2 1 p l.length l.length (vals S l) ∧ ArAt w' a bc br fa fc S O ∧ Kept (fun _ => False) w w' ∧ ∀ t, p = some t → w.heap.size ≤ t.block
/-- c and ok, where the cells of l are still to come. -/
def At (l : List Nat) (c ok : Value) : Prop := match l with
  | [] => c = .int .i64 0 ∧ ok = .bool false
  | i :: _ => c = .int .i64 i ∧ ok = .bool true
def RowRel (a bc br : Nat) (fa : Option Addr) (fc : Nat) (S : Ar) (O : Nat → Bool) (l : List Nat) (w : World) (out c ok : Value) (wr : World) : Prop :=
  ∃ (k : Nat) (p : Option Addr) (cap : Nat), k ≤ l.length ∧ At (l.drop k) c ok ∧ (∃ x, LinkFrom S x (l.drop k)) ∧ out = .slice p k cap ∧ SlAt wr 2 1 p k cap (vals S (l.take k)) ∧ ArAt wr a bc br fa fc S O ∧ Kept (fun _ => False) w wr ∧
    ∀ t, p = some t → w.heap.size ≤ t.block ∧ O t.block = false

theorem SlAt.clip {w : World} {E size : Nat} {a : Option Addr} {len cap : Nat} {xs : List Value} (h : SlAt w E size a len cap xs) : SlAt w E size a len len xs := by
  obtain ⟨h1, h2, h3⟩ := h
  refine ⟨h1, Nat.le_refl _, ?_⟩
  rcases h3 with ⟨h3, h4⟩ | ⟨t', o', arr, ha, hb, hs, hx⟩
  · exact .inl ⟨h3, by omega⟩
  · exact .inr ⟨t', o', arr, ha, hb, Nat.le_trans (Nat.add_le_add_left (Nat.mul_le_mul_right _ h2) _) hs, hx⟩

theorem front_at {row : Int} {l : List Nat} (hl : if S.inB row = true then LinkFrom S (S.ends row.toNat).first l else l = []) : At l (.int .i64 (S.frontI row)) (.bool (S.frontB row)) := by
  unfold Ar.frontI Ar.frontB
  cases hi : S.inB row with
  | false => rw [hi] at hl; simp at hl; subst hl; simp [At]
  | true =>
    rw [hi, if_pos rfl] at hl
    cases l with
    | nil => have : (S.ends row.toNat).first = -1 := hl; simp [At, this, toldI, toldB]
    | cons i l => obtain ⟨h1, _⟩ := hl; simp [At, h1, toldI, toldB]
theorem next_at {i : Nat} {l : List Nat} {x : Int} (h : LinkFrom S x (i :: l)) : At l (.int .i64 (S.nextI i)) (.bool (S.nextB i)) := by
  obtain ⟨h1, h2, h3, h4⟩ := h
  have ht : S.takenB i = true := by simp [Ar.takenB, h2, h3]
  unfold Ar.nextI Ar.nextB
  rw [ht, if_pos rfl]
  cases l with
  | nil => have : (S.cell i).next = -1 := h4; simp [At, this, toldI, toldB]
  | cons j l => obtain ⟨h5, _⟩ := h4; simp [At, h5, toldI, toldB]

set_option maxHeartbeats 1000000 in
set_option maxRecDepth 100000 in
theorem row_any (h : ArAt w a bc br fa fc S O) (row : Int) (l : List Nat) (hl : if S.inB row = true then LinkFrom S (S.ends row.toNat).first l else l = []) (hlen : l.length ≤ 4096) :
    Calls Try.prog 10 #[.pointer (some ⟨a, 0, none⟩), .int .i64 row] w (RowPost a bc br fa fc S O l w) := by
  obtain ⟨i0, hi0, hz0, hz1, hz2⟩ := info_parts Try.info2'
  have hat := front_at hl
  have hx : ∃ x, LinkFrom S x l := by
    split at hl
    · exact ⟨_, hl⟩
    · subst hl; exact ⟨-1, rfl⟩
  have hbn := h.bn
  have Hat := Lib.hid hat
  have Hx := Lib.hid hx
  clear hat hx hl
  go_enter Try.func10, Try.ntmps10
  go_wp2_with fail
  refine (front_any h row).mono ?_
  rintro e w' ⟨rfl, rfl⟩
  have hat := Hat.out
  generalize Value.int .i64 (S.frontI row) = c0 at hat ⊢
  generalize Value.bool (S.frontB row) = k0 at hat ⊢
  go_wp2_with fail
  have hstart : RowRel a bc br fa fc S O l w (.slice none 0 0) c0 k0 w := ⟨0, none, 0, Nat.zero_le _, hat, Hx.out, rfl, SlAt.nil _ _ _, h, Kept.refl _ _, fun t ht => by cases ht⟩
  clear hat
  go_loopw [5, 6, 7] (fun out c ok wr => RowRel a bc br fa fc S O l w out c ok wr) (fun out _ _ _ => l.length - (match out with | .slice _ n _ => n | _ => 0))
  case atStart => exact hstart
  case round =>
    obtain ⟨k, p, cap, hk, hat, hlink, rfl, hsl, hA, hkept, hp⟩ := hrel
    clear hstart
    cases hd : l.drop k with
    | nil =>
      rw [hd] at hat
      obtain ⟨rfl, rfl⟩ := hat
      have hkl : k = l.length := by have := List.drop_eq_nil_iff.1 hd; omega
      subst hkl
      have hlc := hsl.2.1
      have Hsl := Lib.hid hsl
      clear hsl hd hlink
      go_wp2_with fail
      refine (clip_any p _ cap hlc wr).mono ?_
      rintro e w' ⟨rfl, rfl⟩
      go_wp2
      go_ret
      exact ⟨p, rfl, by have := Hsl.out.clip; rwa [List.take_length] at this, hA, hkept, fun t ht => (hp t ht).1⟩
    | cons i rest =>
      rw [hd] at hat hlink
      obtain ⟨rfl, rfl⟩ := hat
      obtain ⟨x, hlink⟩ := hlink
      obtain ⟨_, hi, hrow, hlink'⟩ := hlink
      have hkl : k < l.length := by
        rcases Nat.lt_or_ge k l.length with h | h
        · exact h
        · rw [List.drop_eq_nil_iff.2 h] at hd; cases hd
      have hli : l[k]? = some i := by have := List.getElem?_drop (xs := l) (i := k) (j := 0); rw [hd] at this; simpa using this.symm
      have hdk : l.drop (k + 1) = rest := by rw [← List.drop_drop, hd]; rfl
      have htk : vals S (l.take (k + 1)) = vals S (l.take k) ++ [.int .i64 (S.cell i).v] := by
        rw [List.take_add_one, hli]; simp [vals]
      have hnext := next_at (S := S) (i := i) (l := rest) (x := i) ⟨rfl, hi, hrow, hlink'⟩
      have c0 : wr.cell? ⟨a, 0, none⟩ = some (.slice (some ⟨bc, 0, none⟩) S.N S.N) := by rw [cell_of_block hA.st]; rfl
      have v0 : wr.cell? ⟨bc, i * 4, none⟩ = some (.int .i64 (S.cell i).v) := by have := hA.cs.cell (j := i * 4 + 0) (by omega); rw [flatC_at _ _ _ (by decide)] at this; exact this
      have Hd := Lib.hid hdk
      have Htk := Lib.hid htk
      have Hnext := Lib.hid hnext
      have Hlink : Hid (LinkFrom S (S.cell i).next rest) := hlink'
      have hstep : ∀ p' cap' w5, SlAt w5 2 1 p' (k + 1) cap' (vals S (l.take k) ++ [.int .i64 (S.cell i).v]) → (wr.alloc (.cells #[.int .i64 (S.cell i).v] 2)).grownBy w5 (p.map (·.block)) → (∀ t, p' = some t → p.map (·.block) = some t.block ∨ (wr.alloc (.cells #[.int .i64 (S.cell i).v] 2)).heap.size ≤ t.block) →
          SlAt w5 2 1 p' (k + 1) cap' (vals S (l.take (k + 1))) ∧ ArAt w5 a bc br fa fc S O ∧ Kept (fun _ => False) w w5 ∧ ∀ t, p' = some t → w.heap.size ≤ t.block ∧ O t.block = false := by
        intro p' cap' w5 h1 h2 h3
        have hz : (wr.alloc (.cells #[.int .i64 (S.cell i).v] 2)).heap.size = wr.heap.size + 1 := by simp
        have hs := h2.size
        have hks := hkept.size
        have hold : ∀ j, j < wr.heap.size → (∀ t, p = some t → j ≠ t.block) → w5.heap[j]? = wr.heap[j]? := fun j hj hne =>
          (h2.block j (by omega) (fun e => by
            cases hp' : p with
            | none => rw [hp'] at e; cases e
            | some t => rw [hp'] at e; exact hne t hp' (by simpa using e))).trans (Below.heap_alloc _ _ _ hj)
        refine ⟨by rw [htk]; exact h1, hA.same (fun j hj hO => hold j hj fun t ht e => ?_) (fun _ _ => rfl) (fun j hj => hA.new j (by omega)), hkept.trans' (G := fun j => ∃ t, p = some t ∧ j = t.block) ⟨h2.os, h2.tape, h2.output, by omega, fun j hj hne => hold j hj fun t ht e => hne ⟨t, ht, e⟩⟩ (fun j hj ⟨t, ht, e⟩ => ?_), fun t ht => ?_⟩
        · rw [e, (hp t ht).2] at hO; cases hO
        · have := (hp t ht).1; omega
        · rcases h3 t ht with h | h
          · cases hp' : p with
            | none => rw [hp'] at h; cases h
            | some u =>
              rw [hp'] at h
              have hu : u.block = t.block := by simpa using h
              rw [← hu]; exact hp u hp'
          · exact ⟨by omega, hA.new _ (by omega)⟩
      have Hstep := Lib.hid hstep
      have Hd' := Lib.hid hd
      clear hdk htk hnext hlink' hli hd hstep
      go_wp2_with (at_builtin; refine wpList_append_sl rfl (.tmp 21) (.tmp 30) 37 rfl 2 i0 (.int .i64 0) 1 8 Try.underlying37 hi0 hz0 hz1 hz2 rfl (by decide) p k cap (vals S (l.take k)) rfl (hsl.kept fun t ht => Below.heap_alloc _ _ _ (hsl.lt t ht)) ⟨wr.heap.size, 0, none⟩ 1 1 [.int .i64 (S.cell i).v] rfl rfl (World.news_of_block (block_alloc_new wr _)) (by intro u hu; simp at hu; subst hu; rfl) (by unfold maxLen; omega) (by omega) (by decide) ?_; intro p' cap' w5 hsl5 hg5 hb5; obtain ⟨s1, s2, s3, s4⟩ := Hstep.out p' cap' w5 hsl5 hg5 hb5; clear hsl5 hg5 hb5)
      refine (next_any s2 i).mono ?_
      rintro e w' ⟨rfl, rfl⟩
      have hn := Hnext.out
      generalize Value.int .i64 (S.nextI i) = c1 at hn ⊢
      generalize Value.bool (S.nextB i) = k1 at hn ⊢
      go_wp2
      exact ⟨⟨k + 1, p', cap', hkl, by rw [Hd.out]; exact hn, ⟨_, by rw [Hd.out]; exact Hlink.out⟩, rfl, s1, s2, s3, s4⟩, by simp; omega⟩
end Go.Proofs.Ytpcoffpdkfbhdaa
