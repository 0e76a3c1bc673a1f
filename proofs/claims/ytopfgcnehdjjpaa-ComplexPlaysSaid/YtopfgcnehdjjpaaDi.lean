/- Both books, side by side: Insert, Remove, Reduce answer alike. -/
import Derived.Test.YtopfgcnehdjjpaaDh
namespace Go.Proofs.Ytopfgcnehdjjpaa
open Go.RowKit

def aggO (d : Od) : Value := .agg #[.int .i64 d.id, .int .i64 d.owner, .int .i64 d.side, .int .i64 d.net, .int .i64 d.units]
theorem PS.of_kept {f : Nat} {args : Nat → Array Value} {v : Value} {R : Nat → List Od} (h : ∀ w bk p c O, BkAt w bk R p c O → Calls Try.prog f (args bk) w fun e w' => e = .returned v ∧ Kept (fun _ => False) w w') : PS f args v R R := fun w bk p c O hb =>
  (h w bk p c O hb).mono fun _ _ ⟨he, hk⟩ => ⟨he, p, c, O, hb.keptF hk, Grows3.ofF hk⟩
theorem RS.of_kept {f : Nat} {args : Nat → Array Value} {v : Value} {R : Nat → List Od} (h : ∀ w m p c, RbAt w m R p c → Calls Try.prog f (args m) w fun e w' => e = .returned v ∧ Kept (fun _ => False) w w') : RS f args v R R := fun w m p c hb =>
  (h w m p c hb).mono fun _ _ ⟨he, hk⟩ => ⟨he, p, c, hb.keptF hk, hk.mono fun _ _ h => h.elim, Newer.same p w⟩
theorem insert_both {R : Nat → List Od} (hR : GI R) (d : Od) : ∃ (v : Int) (R' : Nat → List Od), GI R' ∧ PS 9 (fun bk => #[.pointer (some ⟨bk, 0, none⟩), aggO d]) (.int .i64 v) R R' ∧ RS 10 (fun m => #[.pointer (some ⟨m, 0, none⟩), aggO d]) (.int .i64 v) R R' := by
  by_cases hr : Right d
  · by_cases hf : findR R d.id = none
    · by_cases hl : (R 0).length + (R 1).length < 256
      · have hid := none_ids hf
        have hs := splits_of d (hR.good.row d hr.side)
        have hmem : ∀ (i : Nat) (x : Od), (R (sideN d))[i]? = some x → d.side = x.side ∧ d.id ≠ x.id := fun i x hx =>
          ⟨((hR.good.row d hr.side).2 x (mem_idx hx)).symm, fun e => hid _ (sideN_lt d) x (mem_idx hx) e.symm⟩
        have hlen := ins_size (R := R) (d := d) hs.1
        refine ⟨0, _, ⟨hR.good.ins d hr.side hid, fun k hk x hx => ?_, by omega⟩, fun w bk p c O hb => (insert_ok hb d hr hf hl hs).mono fun e w' ⟨p', c', O', he, h1, h2⟩ => ⟨he, p', c', O', h1, h2⟩,
          fun w m p c hb => (rinsert_ok hb d hr hf hl hs.1 (fun x hp hx => rah_false (hmem _ x hx).1 hr.side (hs.2.1 _ x (by omega) hx)) (fun i x hi hx => rah_true (hmem _ x hx).1 hr.side (hmem _ x hx).2 (by have := hs.2.2 i x hi hx; omega))).mono
            fun e w' ⟨p', c', he, h1, h2, h3⟩ => ⟨he, p', c', h1, h2, h3⟩⟩
        rcases ins_mem hx with rfl | hx
        · exact hr.u2
        · exact hR.units k hk x hx
      · have he : (R 0).length + (R 1).length = 256 := by have := hR.few; omega
        exact ⟨8, R, hR, PS.of_kept fun w bk p c O hb => insert_full hb d hr hf he, RS.of_kept fun w m p c hb => rinsert_full hb d hr hf he⟩
    · exact ⟨6, R, hR, PS.of_kept fun w bk p c O hb => insert_twice hb d hr hf, RS.of_kept fun w m p c hb => rinsert_twice hb d hr hf⟩
  · exact ⟨1, R, hR, PS.of_kept fun w bk p c O hb => insert_arg hb d hr, RS.of_kept fun w m p c hb => rinsert_arg hb d hr⟩
theorem remove_both {R : Nat → List Od} (hR : GI R) (id : Int) : ∃ (d : Od) (b : Bool) (R' : Nat → List Od), GI R' ∧ PS 12 (fun bk => #[.pointer (some ⟨bk, 0, none⟩), .int .i64 id]) (.tuple #[aggO d, .bool b]) R R' ∧ RS 13 (fun m => #[.pointer (some ⟨m, 0, none⟩), .int .i64 id]) (.tuple #[aggO d, .bool b]) R R' := by
  cases hf : findR R id with
  | none => exact ⟨zeroOd, false, R, hR, PS.of_kept fun w bk p c O hb => remove_no hb id hf, RS.of_kept fun w m p c hb => rremove_no hb id hf⟩
  | some ki =>
    obtain ⟨k, i⟩ := ki
    obtain ⟨hk, d, hd, _⟩ := findR_some hf
    exact ⟨d, true, _, hR.del hk i, fun w bk p c O hb => (remove_yes hb id hf hd).mono fun e w' ⟨p', c', O', he, h1, h2⟩ => ⟨he, p', c', O', h1, h2⟩,
      fun w m p c hb => (rremove_yes hb id hf hd (hR.side hk hd)).mono fun e w' ⟨p', c', he, h1, h2, h3⟩ => ⟨he, p', c', h1, h2, h3⟩⟩
theorem reduce_both {R : Nat → List Od} (hR : GI R) (id n : Int) : ∃ (d : Od) (v : Int) (R' : Nat → List Od), GI R' ∧ PS 14 (fun bk => #[.pointer (some ⟨bk, 0, none⟩), .int .i64 id, .int .i64 n]) (.tuple #[aggO d, .int .i64 v]) R R' ∧
    RS 15 (fun m => #[.pointer (some ⟨m, 0, none⟩), .int .i64 id, .int .i64 n]) (.tuple #[aggO d, .int .i64 v]) R R' := by
  cases hf : findR R id with
  | none => exact ⟨zeroOd, 5, R, hR, PS.of_kept fun w bk p c O hb => reduce_no hb id n hf, RS.of_kept fun w m p c hb => rreduce_no hb id n hf⟩
  | some ki =>
    obtain ⟨k, i⟩ := ki
    obtain ⟨hk, d, hd, _⟩ := findR_some hf
    have hu := hR.units k hk d (mem_idx hd)
    by_cases h1 : 1 ≤ n
    · rcases Int.lt_trichotomy n d.units with h2 | h2 | h2
      · exact ⟨_, 0, _, hR.set hk hd (d.units - n) (by omega), fun w bk p c O hb => (reduce_some hb id n hf hd h1 h2 hu).mono fun e w' ⟨p', c', O', he, h1, h2⟩ => ⟨he, p', c', O', h1, h2⟩,
          fun w m p c hb => (rreduce_some hb id n hf hd (hR.side hk hd) h1 h2 hu).mono fun e w' ⟨p', c', he, h1, h2, h3⟩ => ⟨he, p', c', h1, h2, h3⟩⟩
      · exact ⟨_, 0, _, hR.del hk i, fun w bk p c O hb => (reduce_all hb id n hf hd h1 h2 hu).mono fun e w' ⟨p', c', O', he, h1, h2⟩ => ⟨he, p', c', O', h1, h2⟩,
          fun w m p c hb => (rreduce_all hb id n hf hd (hR.side hk hd) h1 h2 hu).mono fun e w' ⟨p', c', he, h1, h2, h3⟩ => ⟨he, p', c', h1, h2, h3⟩⟩
      · exact ⟨zeroOd, 1, R, hR, PS.of_kept fun w bk p c O hb => reduce_bad hb id n hf hd (by simp [inI]; omega), RS.of_kept fun w m p c hb => rreduce_bad hb id n hf hd (.inr h2)⟩
    · exact ⟨zeroOd, 1, R, hR, PS.of_kept fun w bk p c O hb => reduce_bad hb id n hf hd (by simp [inI]; omega), RS.of_kept fun w m p c hb => rreduce_bad hb id n hf hd (.inl (by omega))⟩
theorem front_both {R : Nat → List Od} {k : Nat} (hk : k < 2) : ∃ (d : Od), (∀ x, (R k)[0]? = some x → d = x) ∧ ∀ (w : World) bk p c O, BkAt w bk R p c O →
    Calls Try.prog 17 #[.pointer (some ⟨bk, 0, none⟩), .int .i64 ((k : Int) + 1)] w (GPost d (!(R k).isEmpty) w) := by
  have hpl : placeI ((k : Int) + 1) = k := by
    have h2 : k = 0 ∨ k = 1 := by omega
    rcases h2 with rfl | rfl <;> rfl
  cases hx : R k with
  | nil => exact ⟨zeroOd, fun x h => by simp at h, fun w bk p c O hb => by simpa using front_no hb _ k hk hpl hx⟩
  | cons x xs => exact ⟨x, fun y h => by simp at h; exact h, fun w bk p c O hb => by simpa using front_yes hb _ k hk hpl (d := x) (by rw [hx]; rfl)⟩
theorem get_both (R : Nat → List Od) (id : Int) : ∃ (d : Od) (b : Bool) (n : Int), (decide (0 ≤ n) = b) ∧
    (∀ (w : World) bk p c O, BkAt w bk R p c O → Calls Try.prog 19 #[.pointer (some ⟨bk, 0, none⟩), .int .i64 id] w (GPost d b w)) ∧
    (∀ (w : World) m p c, RbAt w m R p c → Calls Try.prog 20 #[.pointer (some ⟨m, 0, none⟩), .int .i64 id] w fun e w' => e = .returned (.tuple #[aggO d, .int .i64 n]) ∧ Kept (fun _ => False) w w') := by
  cases hf : findR R id with
  | none => exact ⟨zeroOd, false, -1, by decide, fun w bk p c O hb => get_no hb id hf, fun w m p c hb => (rget_any hb id).mono fun e w' hp => hp.2 hf⟩
  | some ki =>
    obtain ⟨k, i⟩ := ki
    obtain ⟨_, d, hd, _⟩ := findR_some hf
    exact ⟨d, true, i, by simp, fun w bk p c O hb => get_yes hb id hf hd, fun w m p c hb => (rget_any hb id).mono fun e w' hp => hp.1 k i d hf hd⟩
end Go.Proofs.Ytopfgcnehdjjpaa
