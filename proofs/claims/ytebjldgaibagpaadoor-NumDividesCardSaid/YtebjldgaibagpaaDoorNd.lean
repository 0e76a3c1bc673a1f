/- Numbers: words read as a number. -/
import Derived.Test.YtebjldgaibagpaaDoorNa
import Derived.Test.YtebjldgaibagpaaDoorShelf
import Derived.Lib.ConvBytes
import Derived.Lib.AtoiErrMem
import Derived.Lib.Strings
import Derived.WalkSpells
namespace Go.Proofs.YtebjldgaibagpaaDoor
open Go Go.RowKit

/-- A digit's byte. -/
def isDig (c : UInt8) : Bool := decide (48 ≤ c.toNat) && decide (c.toNat ≤ 57)
/-- What stands behind the sign. -/
def strip (l : List UInt8) : List UInt8 := if l.head? = some 45 then l.tail else l
/-- Whether some words have a number's form. -/
def form (l : List UInt8) : Bool := !l.isEmpty && (!(strip l).isEmpty && !((strip l).head? == some 48 && !(l == [48])) && (strip l).all isDig)
/-- What Parse tells of some words. -/
def parseRes (l : List UInt8) : Value :=
  if form l then match Lib.parseIntB 64 l with
    | .ok v => .tuple #[.int .i64 v, .int .i64 0]
    | _ => .tuple #[.int .i64 0, .int .i64 9]
  else .tuple #[.int .i64 0, .int .i64 2]

/-- The two sentinels' cells. -/
structure Sents (w : World) : Prop where
  es : ∃ tp p, w.var? Tryd.prog "strconv.ErrSyntax" = some #[.iface tp p]
  er : ∃ tp p, w.var? Tryd.prog "strconv.ErrRange" = some #[.iface tp p]

/-- What strconv.ParseInt tells. -/
def PubPost (l : List UInt8) (w : World) (e : Ending) (w' : World) : Prop :=
  (∃ v er, e = .returned (.tuple #[.int .i64 v, er]) ∧ (match Lib.parseIntB 64 l with | .ok u => v = u ∧ er = .nilIface | _ => ∃ a, er = .iface 54 (.pointer (some a)))) ∧ Below w.heap.size w w'

theorem pub_parse (s : ByteArray) (hlim : s.size ≤ 281474976710656) (w : World) (hS : Sents w) :
    Calls Tryd.prog 27 #[.string s, .int .i64 10, .int .i64 64] w (PubPost s.data.toList w) := by
  obtain ⟨⟨tp, p, hv⟩, ⟨tr, pr, hr⟩⟩ := hS
  rcases h : Lib.parseIntB 64 s.data.toList with v | _ | _
  · refine (Tryd.strconv_ParseInt_10_at64_ok s (by omega) v h w).mono fun e w' he => ?_
    obtain ⟨he, hw⟩ := he
    refine ⟨⟨v, _, he, by rw [h]; exact ⟨rfl, rfl⟩⟩, ?_⟩
    rcases hw with rfl | ⟨t, rfl⟩
    · exact Below.refl _ _
    · exact Lib.bytesWorld_below _ _ _
  · refine (Any.strconv_ParseInt_10_at64_syntax_var Tryd.laysC174 s hlim h tp p w hv).mono fun e w' he => ?_
    obtain ⟨N, he, _, _, hb⟩ := he
    exact ⟨⟨_, _, he, by rw [h]; exact ⟨_, rfl⟩⟩, hb⟩
  · refine (Tryd.strconv_ParseInt_10_at64_range_var s hlim h tr pr w hr).mono fun e w' he => ?_
    obtain ⟨N, he, _, _, hb⟩ := he
    exact ⟨⟨_, _, he, by rw [h]; exact ⟨_, rfl⟩⟩, hb⟩

/-- The loop's state. -/
def DigRel (dl : List UInt8) (n : Nat) (w1 : World) (s32 : Value) (wr : World) : Prop :=
  ∃ i : Nat, s32 = .int .i64 i ∧ i ≤ n ∧ (∀ j, j < i → isDig (dl.getD j 0) = true) ∧ wr = w1

theorem dig_next {dl : List UInt8} {i : Nat} {c : Int} (hc : ((dl.getD i 0).toNat : Int) = c) (h1 : ¬ c < 48) (h2 : ¬ 57 < c)
    (h : ∀ j, j < i → isDig (dl.getD j 0) = true) : ∀ j, j < i + 1 → isDig (dl.getD j 0) = true := by
  intro j hj
  by_cases e : j = i
  · subst e; simp only [isDig, Bool.and_eq_true, decide_eq_true_eq]; omega
  · exact h j (by omega)

theorem not_all {dl : List UInt8} {n i : Nat} {c : Int} (hn : dl.length = n) (hi : i < n) (hc : ((dl.getD i 0).toNat : Int) = c) (h : c < 48 ∨ 57 < c) : dl.all isDig = false := by
  rw [List.all_eq_false]
  refine ⟨dl.getD i 0, ?_, ?_⟩
  · have e : dl.getD i 0 = dl[i]'(by omega) := by simp [List.getD, show i < dl.length by omega]
    rw [e]; exact List.getElem_mem _
  · simp only [isDig, Bool.and_eq_true, decide_eq_true_eq]; omega

theorem all_dig {dl : List UInt8} {n : Nat} (hn : dl.length = n) (h : ∀ j, j < n → isDig (dl.getD j 0) = true) : dl.all isDig = true := by
  rw [List.all_eq_true]
  intro x hx
  obtain ⟨j, hj, rfl⟩ := List.getElem_of_mem hx
  have := h j (by omega)
  have e : dl.getD j 0 = dl[j] := by simp [List.getD, hj]
  rwa [e] at this

theorem sents_on {w w' : World} (h : Sents w) (hb : ∀ n cs, w.var? Tryd.prog n = some cs → w'.var? Tryd.prog n = some cs) : Sents w' :=
  ⟨by obtain ⟨a, b, h⟩ := h.es; exact ⟨a, b, hb _ _ h⟩, by obtain ⟨a, b, h⟩ := h.er; exact ⟨a, b, hb _ _ h⟩⟩

/-- What ParseInt gave makes Parse's answer. -/
theorem parse_end {l : List UInt8} (hf : form l = true) {v : Int} {er : Value}
    (h : match Lib.parseIntB 64 l with | .ok u => v = u ∧ er = .nilIface | _ => ∃ a, er = .iface 54 (.pointer (some a))) :
    (er = .nilIface ∧ parseRes l = .tuple #[.int .i64 v, .int .i64 0]) ∨ ((∃ a, er = .iface 54 (.pointer (some a))) ∧ parseRes l = .tuple #[.int .i64 0, .int .i64 9]) := by
  unfold parseRes
  rw [if_pos hf]
  rcases hp : Lib.parseIntB 64 l with u | _ | _
  · rw [hp] at h; obtain ⟨rfl, h2⟩ := h; exact Or.inl ⟨h2, rfl⟩
  · rw [hp] at h; exact Or.inr ⟨h, rfl⟩
  · rw [hp] at h; exact Or.inr ⟨h, rfl⟩
theorem parse_bad {l : List UInt8} (hf : form l = false) : parseRes l = .tuple #[.int .i64 0, .int .i64 2] := by
  unfold parseRes; rw [hf]; rfl


set_option maxHeartbeats 2000000 in
set_option maxRecDepth 100000 in
theorem parse_neg_a (s : ByteArray) (dl : List UInt8) (n : Nat) (w : World) (hlim : s.size ≤ 281474976710656) (hS : Sents w) (hs : 0 < s.size)
    (e1 : s.toList.isEmpty = false) (e2 : ((s[0].toNat : Int) == 45) = true) (e3 : (s.extract 1 s.size).toList.isEmpty = false) (e4 : 0 < s.size - 1) (hd0 : 0 < (s.extract 1 s.size).size)
    (he5 : ((((s.extract 1 s.size)[0]'(hd0)).toNat : Int) == 48) = false) (hdl : (s.extract 1 s.size).data.toList = dl) (hn : (s.extract 1 s.size).size = n)
    (hform : dl.all isDig = false → form s.data.toList = false) (hform1 : dl.all isDig = true → form s.data.toList = true) :
    Calls Tryd.prog 20 #[.string s] w fun e w' => e = .returned (parseRes s.data.toList) ∧ Below w.heap.size w w' := by
  have hcv := Lib.run_convert_string_bytes (P := Tryd.prog) w 9 43 5 (s.extract 1 s.size) (u := .string) Tryd.underlying9 Tryd.underlying43 Tryd.underlying5
  have Hcell : Hid (∀ i, i < n → (Lib.bytesWorld w 5 (s.extract 1 s.size)).cell? ⟨w.heap.size, i, none⟩ = some (.int .u8 ((dl.getD i 0).toNat : Int))) := fun i hi => by
    have := Lib.bytesWorld_cell w 5 (s.extract 1 s.size) i (by omega); rw [hdl] at this; exact this
  have Hb1 : Hid (Below w.heap.size w (Lib.bytesWorld w 5 (s.extract 1 s.size))) := Lib.bytesWorld_below _ _ _
  have HS : Hid (Sents (Lib.bytesWorld w 5 (s.extract 1 s.size))) := sents_on hS fun _ _ h => Lib.bytesWorld_var w 5 _ h
  have Hdl : Hid (dl.length = n) := by rw [← hdl, ← hn, Lib.size_eq]; rfl
  have Hnl : Hid (n ≤ 281474976710656) := by rw [← hn]; exact Nat.le_trans (by rw [ByteArray.size_extract]; omega) hlim
  rw [hn] at hcv
  have hform := Lib.hid hform
  have hform1 := Lib.hid hform1
  have e5 : ¬ ((((s.extract 1 s.size)[0]).toNat : Int) = 48) := by simpa using he5
  clear hdl hn hS he5
  generalize grownCap w n 0 5 = cap at hcv
  generalize Lib.bytesWorld w 5 (s.extract 1 s.size) = W1 at hcv Hcell Hb1 HS
  go_enter Tryd.func20, Tryd.ntmps20
  go_wp2_with fail
  go_loopw [32] (fun s32 wr => DigRel dl n W1 s32 wr) (fun s32 _ => n - (intOf s32).toNat)
  case atStart => exact ⟨0, rfl, Nat.zero_le _, fun j hj => absurd hj (Nat.not_lt_zero j), rfl⟩
  case round =>
    obtain ⟨i, rfl, hi, hdig, rfl⟩ := hrel
    have HD := Lib.hid hdig
    clear hdig
    by_cases hlt : i < n
    · obtain ⟨c, hc⟩ : ∃ c : Int, ((dl.getD i 0).toNat : Int) = c := ⟨_, rfl⟩
      have hcell := Hcell.out i hlt
      rw [hc] at hcell
      have Hc := Lib.hid hc
      have Hn := Lib.hid hlt
      clear hc
      have hs1 : IntKind.i64.wrap ((i : Int) + 1) = (i : Int) + 1 := IntWalk.i64_in _ (by have := Hnl.out; omega)
      by_cases h1 : c < 48
      · have E := Lib.hid (parse_bad (hform.out (not_all Hdl.out hlt Hc.out (Or.inl h1))))
        go_wp2
        go_ret2
        exact ⟨by rw [E.out]; first | done | rfl, Hb1.out⟩
      · by_cases h2 : 57 < c
        · have E := Lib.hid (parse_bad (hform.out (not_all Hdl.out hlt Hc.out (Or.inr h2))))
          go_wp2
          go_ret2
          exact ⟨by rw [E.out]; first | done | rfl, Hb1.out⟩
        · have hr : Hid (DigRel dl n wr (.int .i64 ((i : Int) + 1)) wr) := ⟨i + 1, by push_cast; rfl, by omega, dig_next Hc.out h1 h2 HD.out, rfl⟩
          go_wp2
          exact ⟨hr.out, by have := Hn.out; simp [intOf]; omega⟩
    · obtain rfl : i = n := by omega
      have Hf := Lib.hid (hform1.out (all_dig Hdl.out HD.out))
      clear HD hlt
      go_wp2_with fail
      refine (pub_parse s hlim _ HS.out).mono ?_
      rintro e w3 ⟨⟨v, er, rfl, hm⟩, hb3⟩
      have Hb3 := Lib.hid (Hb1.out.trans (hb3.mono (by have := Hb1.out.size; omega)))
      clear hb3
      rcases parse_end Hf.out hm with ⟨rfl, hres⟩ | ⟨⟨a, rfl⟩, hres⟩
      · have E := Lib.hid hres
        clear hm hres
        go_wp2
        go_ret2
        exact ⟨by rw [E.out]; first | done | rfl, Hb3.out⟩
      · have E := Lib.hid hres
        clear hm hres
        go_wp2
        go_ret2
        exact ⟨by rw [E.out]; first | done | rfl, Hb3.out⟩

set_option maxHeartbeats 2000000 in
set_option maxRecDepth 100000 in
theorem parse_pos_a (s : ByteArray) (dl : List UInt8) (n : Nat) (w : World) (hlim : s.size ≤ 281474976710656) (hS : Sents w) (hs : 0 < s.size)
    (e1 : s.toList.isEmpty = false) (e2 : ((s[0].toNat : Int) == 45) = false) (e3 : s.toList.isEmpty = false) (e4 : 0 < s.size) (hd0 : 0 < s.size)
    (he5 : (((s[0]'(hd0)).toNat : Int) == 48) = false) (hdl : s.data.toList = dl) (hn : s.size = n)
    (hform : dl.all isDig = false → form s.data.toList = false) (hform1 : dl.all isDig = true → form s.data.toList = true) :
    Calls Tryd.prog 20 #[.string s] w fun e w' => e = .returned (parseRes s.data.toList) ∧ Below w.heap.size w w' := by
  have hcv := Lib.run_convert_string_bytes (P := Tryd.prog) w 9 43 5 s (u := .string) Tryd.underlying9 Tryd.underlying43 Tryd.underlying5
  have Hcell : Hid (∀ i, i < n → (Lib.bytesWorld w 5 s).cell? ⟨w.heap.size, i, none⟩ = some (.int .u8 ((dl.getD i 0).toNat : Int))) := fun i hi => by
    have := Lib.bytesWorld_cell w 5 s i (by omega); rw [hdl] at this; exact this
  have Hb1 : Hid (Below w.heap.size w (Lib.bytesWorld w 5 s)) := Lib.bytesWorld_below _ _ _
  have HS : Hid (Sents (Lib.bytesWorld w 5 s)) := sents_on hS fun _ _ h => Lib.bytesWorld_var w 5 _ h
  have Hdl : Hid (dl.length = n) := by rw [← hdl, ← hn, Lib.size_eq]; rfl
  have Hnl : Hid (n ≤ 281474976710656) := by rw [← hn]; exact hlim
  rw [hn] at hcv
  have hform := Lib.hid hform
  have hform1 := Lib.hid hform1
  
  clear hdl hn hS
  generalize grownCap w n 0 5 = cap at hcv
  generalize Lib.bytesWorld w 5 s = W1 at hcv Hcell Hb1 HS
  go_enter Tryd.func20, Tryd.ntmps20
  go_wp2_with fail
  go_loopw [32] (fun s32 wr => DigRel dl n W1 s32 wr) (fun s32 _ => n - (intOf s32).toNat)
  case atStart => exact ⟨0, rfl, Nat.zero_le _, fun j hj => absurd hj (Nat.not_lt_zero j), rfl⟩
  case round =>
    obtain ⟨i, rfl, hi, hdig, rfl⟩ := hrel
    have HD := Lib.hid hdig
    clear hdig
    by_cases hlt : i < n
    · obtain ⟨c, hc⟩ : ∃ c : Int, ((dl.getD i 0).toNat : Int) = c := ⟨_, rfl⟩
      have hcell := Hcell.out i hlt
      rw [hc] at hcell
      have Hc := Lib.hid hc
      have Hn := Lib.hid hlt
      clear hc
      have hs1 : IntKind.i64.wrap ((i : Int) + 1) = (i : Int) + 1 := IntWalk.i64_in _ (by have := Hnl.out; omega)
      by_cases h1 : c < 48
      · have E := Lib.hid (parse_bad (hform.out (not_all Hdl.out hlt Hc.out (Or.inl h1))))
        go_wp2
        go_ret2
        exact ⟨by rw [E.out]; first | done | rfl, Hb1.out⟩
      · by_cases h2 : 57 < c
        · have E := Lib.hid (parse_bad (hform.out (not_all Hdl.out hlt Hc.out (Or.inr h2))))
          go_wp2
          go_ret2
          exact ⟨by rw [E.out]; first | done | rfl, Hb1.out⟩
        · have hr : Hid (DigRel dl n wr (.int .i64 ((i : Int) + 1)) wr) := ⟨i + 1, by push_cast; rfl, by omega, dig_next Hc.out h1 h2 HD.out, rfl⟩
          go_wp2
          exact ⟨hr.out, by have := Hn.out; simp [intOf]; omega⟩
    · obtain rfl : i = n := by omega
      have Hf := Lib.hid (hform1.out (all_dig Hdl.out HD.out))
      clear HD hlt
      go_wp2_with fail
      refine (pub_parse s hlim _ HS.out).mono ?_
      rintro e w3 ⟨⟨v, er, rfl, hm⟩, hb3⟩
      have Hb3 := Lib.hid (Hb1.out.trans (hb3.mono (by have := Hb1.out.size; omega)))
      clear hb3
      rcases parse_end Hf.out hm with ⟨rfl, hres⟩ | ⟨⟨a, rfl⟩, hres⟩
      · have E := Lib.hid hres
        clear hm hres
        go_wp2
        go_ret2
        exact ⟨by rw [E.out]; first | done | rfl, Hb3.out⟩
      · have E := Lib.hid hres
        clear hm hres
        go_wp2
        go_ret2
        exact ⟨by rw [E.out]; first | done | rfl, Hb3.out⟩

set_option maxHeartbeats 2000000 in
set_option maxRecDepth 100000 in
theorem parse_pos_b (s : ByteArray) (dl : List UInt8) (n : Nat) (w : World) (hlim : s.size ≤ 281474976710656) (hS : Sents w) (hs : 0 < s.size)
    (e1 : s.toList.isEmpty = false) (e2 : ((s[0].toNat : Int) == 45) = false) (e3 : s.toList.isEmpty = false) (e4 : 0 < s.size) (hd0 : 0 < s.size)
    (he5 : (((s[0]'(hd0)).toNat : Int) == 48) = true) (he6 : (s.toList == [48]) = true) (hdl : s.data.toList = dl) (hn : s.size = n)
    (hform : dl.all isDig = false → form s.data.toList = false) (hform1 : dl.all isDig = true → form s.data.toList = true) :
    Calls Tryd.prog 20 #[.string s] w fun e w' => e = .returned (parseRes s.data.toList) ∧ Below w.heap.size w w' := by
  have hcv := Lib.run_convert_string_bytes (P := Tryd.prog) w 9 43 5 s (u := .string) Tryd.underlying9 Tryd.underlying43 Tryd.underlying5
  have Hcell : Hid (∀ i, i < n → (Lib.bytesWorld w 5 s).cell? ⟨w.heap.size, i, none⟩ = some (.int .u8 ((dl.getD i 0).toNat : Int))) := fun i hi => by
    have := Lib.bytesWorld_cell w 5 s i (by omega); rw [hdl] at this; exact this
  have Hb1 : Hid (Below w.heap.size w (Lib.bytesWorld w 5 s)) := Lib.bytesWorld_below _ _ _
  have HS : Hid (Sents (Lib.bytesWorld w 5 s)) := sents_on hS fun _ _ h => Lib.bytesWorld_var w 5 _ h
  have Hdl : Hid (dl.length = n) := by rw [← hdl, ← hn, Lib.size_eq]; rfl
  have Hnl : Hid (n ≤ 281474976710656) := by rw [← hn]; exact hlim
  rw [hn] at hcv
  have hform := Lib.hid hform
  have hform1 := Lib.hid hform1
  
  clear hdl hn hS
  generalize grownCap w n 0 5 = cap at hcv
  generalize Lib.bytesWorld w 5 s = W1 at hcv Hcell Hb1 HS
  go_enter Tryd.func20, Tryd.ntmps20
  go_wp2_with fail
  go_loopw [32] (fun s32 wr => DigRel dl n W1 s32 wr) (fun s32 _ => n - (intOf s32).toNat)
  case atStart => exact ⟨0, rfl, Nat.zero_le _, fun j hj => absurd hj (Nat.not_lt_zero j), rfl⟩
  case round =>
    obtain ⟨i, rfl, hi, hdig, rfl⟩ := hrel
    have HD := Lib.hid hdig
    clear hdig
    by_cases hlt : i < n
    · obtain ⟨c, hc⟩ : ∃ c : Int, ((dl.getD i 0).toNat : Int) = c := ⟨_, rfl⟩
      have hcell := Hcell.out i hlt
      rw [hc] at hcell
      have Hc := Lib.hid hc
      have Hn := Lib.hid hlt
      clear hc
      have hs1 : IntKind.i64.wrap ((i : Int) + 1) = (i : Int) + 1 := IntWalk.i64_in _ (by have := Hnl.out; omega)
      by_cases h1 : c < 48
      · have E := Lib.hid (parse_bad (hform.out (not_all Hdl.out hlt Hc.out (Or.inl h1))))
        go_wp2
        go_ret2
        exact ⟨by rw [E.out]; first | done | rfl, Hb1.out⟩
      · by_cases h2 : 57 < c
        · have E := Lib.hid (parse_bad (hform.out (not_all Hdl.out hlt Hc.out (Or.inr h2))))
          go_wp2
          go_ret2
          exact ⟨by rw [E.out]; first | done | rfl, Hb1.out⟩
        · have hr : Hid (DigRel dl n wr (.int .i64 ((i : Int) + 1)) wr) := ⟨i + 1, by push_cast; rfl, by omega, dig_next Hc.out h1 h2 HD.out, rfl⟩
          go_wp2
          exact ⟨hr.out, by have := Hn.out; simp [intOf]; omega⟩
    · obtain rfl : i = n := by omega
      have Hf := Lib.hid (hform1.out (all_dig Hdl.out HD.out))
      clear HD hlt
      go_wp2_with fail
      refine (pub_parse s hlim _ HS.out).mono ?_
      rintro e w3 ⟨⟨v, er, rfl, hm⟩, hb3⟩
      have Hb3 := Lib.hid (Hb1.out.trans (hb3.mono (by have := Hb1.out.size; omega)))
      clear hb3
      rcases parse_end Hf.out hm with ⟨rfl, hres⟩ | ⟨⟨a, rfl⟩, hres⟩
      · have E := Lib.hid hres
        clear hm hres
        go_wp2
        go_ret2
        exact ⟨by rw [E.out]; first | done | rfl, Hb3.out⟩
      · have E := Lib.hid hres
        clear hm hres
        go_wp2
        go_ret2
        exact ⟨by rw [E.out]; first | done | rfl, Hb3.out⟩

end Go.Proofs.YtebjldgaibagpaaDoor
