/- Alloc: tables, legs, tops as the document's: straddlelaw6.Of 20, straddlelaw17.Of 13, straddlelaw19.All 14. -/
import Derived.Test.YtgbdnodkbdkaeaaBk
namespace Go.Proofs.Ytgbdnodkbdkaeaa
open Go Go.RowKit

theorem Try.info93' : (Try.prog.info? 93).map (fun i => (i.zero, i.size, i.bytes)) = some (some (.agg #[.int .i64 0, .int .i64 0]), 2, 16) := by kernel_rfl
theorem Try.info76' : (Try.prog.info? 76).map (fun i => (i.zero, i.size, i.bytes)) = some (some (.agg #[.int .i64 0, .int .i64 0, .int .i64 0]), 3, 24) := by kernel_rfl
theorem Try.info74' : (Try.prog.info? 74).map (fun i => (i.zero, i.size, i.bytes)) = some (some (.agg #[.int .i64 0, .int .i64 0, .int .i64 0, .int .i64 0, .bool false, .bool false]), 6, 40) := by kernel_rfl
theorem fm_at {α : Type} (f : α → List Value) (k : Nat) (hf : ∀ x, (f x).length = k) (d : α) : ∀ (l : List α) (j r : Nat), r < k → j < l.length → (l.flatMap f)[j * k + r]? = (f (l.getD j d))[r]?
  | [], j, r, _, hj => by simp at hj
  | x :: l, 0, r, hr, _ => by
    rw [List.flatMap_cons, Nat.zero_mul, Nat.zero_add, List.getElem?_append_left (by rw [hf]; exact hr)]
    simp
  | x :: l, j + 1, r, hr, hj => by
    rw [List.flatMap_cons, List.getElem?_append_right (by rw [hf, Nat.add_mul]; omega), hf, show (j + 1) * k + r - k = j * k + r by rw [Nat.add_mul]; omega, fm_at f k hf d l j r hr (by simpa using hj)]
    simp
theorem take_fm {α : Type} (f : α → List Value) (d : α) {l : List α} {i : Nat} (h : i < l.length) : (l.take (i + 1)).flatMap f = (l.take i).flatMap f ++ f (l.getD i d) := by
  rw [List.take_add_one, List.flatMap_append, List.getD_eq_getElem?_getD, List.getElem?_eq_getElem h]
  simp
def stC (s : Int × Int) : List Value := [.int .i64 s.1, .int .i64 s.2]
def lgC (x : Lg) : List Value := [.int .i64 x.ser, .int .i64 x.sgn, .int .i64 x.rat]
theorem SlAt.steps {w : World} {a : Option Addr} {cap : Nat} {xs : Tb} (h : SlAt w 93 2 a xs.length cap (xs.flatMap stC)) : StS w a xs := by
  rcases Nat.eq_zero_or_pos xs.length with h0 | h0
  · exact .inl (List.eq_nil_of_length_eq_zero h0)
  rcases h.plain with h1 | ⟨t, o, rfl⟩
  · rcases h.2.2 with ⟨_, h3⟩ | ⟨t, o, arr, h3, _⟩
    · have := h.2.1; omega
    · rw [h1] at h3; cases h3
  · refine .inr ⟨t, o, rfl, fun j hj => ?_, h.lt _ rfl⟩
    have e0 := h.cell (j := j * 2 + 0) (by omega)
    have e1 := h.cell (j := j * 2 + 1) (by omega)
    rw [fm_at stC 2 (fun _ => rfl) (0, 0) xs j 0 (by omega) hj] at e0
    rw [fm_at stC 2 (fun _ => rfl) (0, 0) xs j 1 (by omega) hj] at e1
    exact ⟨e0, e1⟩
theorem SlAt.legs {w : World} {a : Option Addr} {cap : Nat} {xs : List Lg} (h : SlAt w 76 3 a xs.length cap (xs.flatMap lgC)) : LgS w a xs := by
  rcases Nat.eq_zero_or_pos xs.length with h0 | h0
  · exact .inl (List.eq_nil_of_length_eq_zero h0)
  rcases h.plain with h1 | ⟨t, o, rfl⟩
  · rcases h.2.2 with ⟨_, h3⟩ | ⟨t, o, arr, h3, _⟩
    · have := h.2.1; omega
    · rw [h1] at h3; cases h3
  · refine .inr ⟨t, o, rfl, fun j hj => ?_⟩
    have e0 := h.cell (j := j * 3 + 0) (by omega)
    have e1 := h.cell (j := j * 3 + 1) (by omega)
    have e2 := h.cell (j := j * 3 + 2) (by omega)
    rw [fm_at lgC 3 (fun _ => rfl) ⟨0, 0, 0⟩ xs j 0 (by omega) hj] at e0
    rw [fm_at lgC 3 (fun _ => rfl) ⟨0, 0, 0⟩ xs j 1 (by omega) hj] at e1
    rw [fm_at lgC 3 (fun _ => rfl) ⟨0, 0, 0⟩ xs j 2 (by omega) hj] at e2
    exact ⟨e0, e1, e2⟩
theorem SlAt.tops {w : World} {a : Option Addr} {cap : Nat} {xs : List Tp} (h : SlAt w 74 6 a xs.length cap (xs.flatMap tpC)) : TpS w a xs := by
  rcases Nat.eq_zero_or_pos xs.length with h0 | h0
  · exact .inl (List.eq_nil_of_length_eq_zero h0)
  rcases h.plain with h1 | ⟨t, o, rfl⟩
  · rcases h.2.2 with ⟨_, h3⟩ | ⟨t, o, arr, h3, _⟩
    · have := h.2.1; omega
    · rw [h1] at h3; cases h3
  · refine .inr ⟨t, o, rfl, fun j hj => ?_⟩
    have e0 := h.cell (j := j * 6 + 0) (by omega)
    rw [fm_at tpC 6 (fun _ => rfl) ⟨0, 0, 0, 0, false, false⟩ xs j 0 (by omega) hj] at e0
    have e1 := h.cell (j := j * 6 + 1) (by omega)
    rw [fm_at tpC 6 (fun _ => rfl) ⟨0, 0, 0, 0, false, false⟩ xs j 1 (by omega) hj] at e1
    have e2 := h.cell (j := j * 6 + 2) (by omega)
    rw [fm_at tpC 6 (fun _ => rfl) ⟨0, 0, 0, 0, false, false⟩ xs j 2 (by omega) hj] at e2
    have e3 := h.cell (j := j * 6 + 3) (by omega)
    rw [fm_at tpC 6 (fun _ => rfl) ⟨0, 0, 0, 0, false, false⟩ xs j 3 (by omega) hj] at e3
    have e4 := h.cell (j := j * 6 + 4) (by omega)
    rw [fm_at tpC 6 (fun _ => rfl) ⟨0, 0, 0, 0, false, false⟩ xs j 4 (by omega) hj] at e4
    have e5 := h.cell (j := j * 6 + 5) (by omega)
    rw [fm_at tpC 6 (fun _ => rfl) ⟨0, 0, 0, 0, false, false⟩ xs j 5 (by omega) hj] at e5
    exact ⟨e0, e1, e2, e3, e4, e5⟩
def OxPost (E size : Nat) (n : Nat) (vs : List Value) (w : World) (e : Ending) (w' : World) : Prop := ∃ p cap, e = .returned (.slice p n cap) ∧ Fr E size vs w p n cap w'
def OxRel {α : Type} (E size : Nat) (f : α → List Value) (l : List α) (W : World) (ov iv : Value) (wr : World) : Prop := ∃ (i : Nat) (op : Option Addr) (oc : Nat), i ≤ l.length ∧ iv = .int .i64 i ∧ ov = .slice op i oc ∧ Fr E size ((l.take i).flatMap f) W op i oc wr
set_option maxRecDepth 100000 in
set_option maxHeartbeats 1000000 in
theorem of20_zero {w : World} {a : Option Addr} {c : Nat} : Calls Try.prog 20 #[.slice a 0 c] w (OxPost 93 2 0 [] w) := by
  go_enter Try.func20, Try.ntmps20
  go_wp2_with fail
  go_loopw [3, 4] (fun ov iv wr => ov = .slice none 0 0 ∧ iv = .int .i64 0 ∧ wr = w) (fun _ _ _ => 0)
  case atStart => exact ⟨rfl, rfl, rfl⟩
  case round =>
    obtain ⟨rfl, rfl, rfl⟩ := hrel
    go_wp2
    go_ret
    exact ⟨none, 0, rfl, Fr.nil _ _ _⟩
set_option maxRecDepth 100000 in
set_option maxHeartbeats 2000000 in
theorem of20_some {w : World} {b off c : Nat} {xs : Tb} (hl : xs.length * 16 ≤ reachBytes) (hb : b < w.heap.size) (hs : StAt w b off xs) : Calls Try.prog 20 #[.slice (some ⟨b, off, none⟩) xs.length c] w (OxPost 93 2 xs.length (xs.flatMap stC) w) := by
  obtain ⟨i0, hi0, hz0, hz1, hz2⟩ := info_parts Try.info93'
  unfold reachBytes at hl
  have Hs := Lib.hid hs
  obtain ⟨n, hn⟩ : ∃ n, xs.length = n := ⟨_, rfl⟩
  have Hn := Lib.hid hn
  rw [hn] at hl ⊢
  clear hs hn
  go_enter Try.func20, Try.ntmps20
  go_wp2_with fail
  go_loopw [3, 4] (fun ov iv wr => OxRel 93 2 stC xs w ov iv wr) (fun _ iv _ => n - (intOf iv).toNat)
  case atStart => exact ⟨0, none, 0, Nat.zero_le _, rfl, rfl, Fr.nil _ _ _⟩
  case round =>
    obtain ⟨i, op, oc, hi, rfl, rfl, hF⟩ := hrel
    have hin : i ≤ n := by have := Hn.out; omega
    clear hi
    by_cases hlt : i < n
    · have hb2 : (0 : Int) ≤ (i : Int) := by omega
      have hb3 : (i : Int) < (n : Int) := by omega
      obtain ⟨c0, c1⟩ := (Hs.out.kept hb hF.k) i (by have := Hn.out; omega)
      have htk := take_fm stC (0, 0) (l := xs) (i := i) (by have := Hn.out; omega)
      obtain ⟨⟨f, y⟩, hx⟩ : ∃ s, xs.getD i (0, 0) = s := ⟨_, rfl⟩
      rw [hx] at c0 c1 htk
      simp only at c0 c1
      have HF := Lib.hid hF
      have Htk := Lib.hid htk
      clear hx hF htk
      go_upto_region 5 with fail
      go_region_law ((refine step_append_any rfl (.tmp 11) (.tmp 23) 60 rfl 93 i0 _ 2 16 Try.underlying60 hi0 hz0 hz1 hz2 rfl (by decide) op i oc ((xs.take i).flatMap stC) (by simp [Act.eval, Act.put]) (by first | exact (HF.out.sl.alloc _).drew | exact HF.out.sl.drew.alloc _) (some ⟨wr.heap.size, 0, none⟩) 1 1 [.int .i64 f, .int .i64 y] (by simp [Act.eval, Act.put]) (SlAt.one (by first | exact block_drew (block_new3 wr _) | exact block_new3 wr.drew _) rfl) (by intro u hu; simp at hu; rcases hu with rfl | rfl <;> rfl) (by unfold maxLen; omega) (by omega) ?_; intro p6 c6 w6 hsl6 hg6 hb6))
      all_goals
        have hF6 : Fr 93 2 ((xs.take (i + 1)).flatMap stC) w p6 (i + 1) c6 w6 := by
          rw [Htk.out]
          first | exact ((HF.out.alloc _).drew).app hsl6 hg6 hb6 | exact ((HF.out.drew).alloc _).app hsl6 hg6 hb6
        have HF6 := Lib.hid hF6
        clear hsl6 hg6 hb6 hF6
        go_wp2
        exact ⟨⟨i + 1, p6, c6, by have := Hn.out; omega, by push_cast; rfl, rfl, HF6.out⟩, by simp [intOf]; omega⟩
    · obtain rfl : i = n := by omega
      have HF := Lib.hid hF
      clear hF
      go_wp2
      go_ret
      refine ⟨op, oc, rfl, ?_⟩
      have := HF.out
      rw [List.take_of_length_le (by rw [Hn.out]; exact Nat.le_refl _)] at this
      exact this
theorem of20_any {w : World} {a : Option Addr} {c : Nat} {xs : Tb} (hl : xs.length * 16 ≤ reachBytes) (hs : StS w a xs) : Calls Try.prog 20 #[.slice a xs.length c] w (OxPost 93 2 xs.length (xs.flatMap stC) w) := by
  rcases hs with rfl | ⟨b, o, rfl, h1, h2⟩
  · exact of20_zero
  · exact of20_some hl h2 h1
set_option maxRecDepth 100000 in
set_option maxHeartbeats 1000000 in
theorem of13_zero {w : World} {a : Option Addr} {c : Nat} : Calls Try.prog 13 #[.slice a 0 c] w (OxPost 76 3 0 [] w) := by
  go_enter Try.func13, Try.ntmps13
  go_wp2_with fail
  go_loopw [3, 4] (fun ov iv wr => ov = .slice none 0 0 ∧ iv = .int .i64 0 ∧ wr = w) (fun _ _ _ => 0)
  case atStart => exact ⟨rfl, rfl, rfl⟩
  case round =>
    obtain ⟨rfl, rfl, rfl⟩ := hrel
    go_wp2
    go_ret
    exact ⟨none, 0, rfl, Fr.nil _ _ _⟩
set_option maxRecDepth 100000 in
set_option maxHeartbeats 2000000 in
theorem of13_some {w : World} {b off c : Nat} {xs : List Lg} (hl : xs.length ≤ 10) (hs : LgAt w b off xs) : Calls Try.prog 13 #[.slice (some ⟨b, off, none⟩) xs.length c] w (OxPost 76 3 xs.length (xs.flatMap lgC) w) := by
  obtain ⟨i0, hi0, hz0, hz1, hz2⟩ := info_parts Try.info76'
  have Hs := Lib.hid hs
  obtain ⟨n, hn⟩ : ∃ n, xs.length = n := ⟨_, rfl⟩
  have Hn := Lib.hid hn
  rw [hn] at hl ⊢
  clear hs hn
  go_enter Try.func13, Try.ntmps13
  go_wp2_with fail
  go_loopw [3, 4] (fun ov iv wr => OxRel 76 3 lgC xs w ov iv wr) (fun _ iv _ => n - (intOf iv).toNat)
  case atStart => exact ⟨0, none, 0, Nat.zero_le _, rfl, rfl, Fr.nil _ _ _⟩
  case round =>
    obtain ⟨i, op, oc, hi, rfl, rfl, hF⟩ := hrel
    have hin : i ≤ n := by have := Hn.out; omega
    clear hi
    by_cases hlt : i < n
    · have hb2 : (0 : Int) ≤ (i : Int) := by omega
      have hb3 : (i : Int) < (n : Int) := by omega
      obtain ⟨c0, c1, c2⟩ := (Hs.out.kept hF.k) i (by have := Hn.out; omega)
      have htk := take_fm lgC ⟨0, 0, 0⟩ (l := xs) (i := i) (by have := Hn.out; omega)
      obtain ⟨⟨ser, sgn, rat⟩, hx⟩ : ∃ s, lgAt xs i = s := ⟨_, rfl⟩
      have hx2 : xs.getD i ⟨0, 0, 0⟩ = ⟨ser, sgn, rat⟩ := hx
      rw [hx] at c0 c1 c2
      rw [hx2] at htk
      simp only at c0 c1 c2
      have HF := Lib.hid hF
      have Htk := Lib.hid htk
      clear hx hx2 hF htk
      go_upto_region 5 with fail
      go_region_law ((refine step_append_any rfl (.tmp 11) (.tmp 28) 34 rfl 76 i0 _ 3 24 Try.underlying34 hi0 hz0 hz1 hz2 rfl (by decide) op i oc ((xs.take i).flatMap lgC) (by simp [Act.eval, Act.put]) (by first | exact (HF.out.sl.alloc _).drew | exact HF.out.sl.drew.alloc _) (some ⟨wr.heap.size, 0, none⟩) 1 1 [.int .i64 ser, .int .i64 sgn, .int .i64 rat] (by simp [Act.eval, Act.put]) (SlAt.one (by first | exact block_drew (block_new3 wr _) | exact block_new3 wr.drew _) rfl) (by intro u hu; simp at hu; rcases hu with rfl | rfl | rfl <;> rfl) (by unfold maxLen; omega) (by omega) ?_; intro p6 c6 w6 hsl6 hg6 hb6))
      all_goals
        have hF6 : Fr 76 3 ((xs.take (i + 1)).flatMap lgC) w p6 (i + 1) c6 w6 := by
          rw [Htk.out]
          first | exact ((HF.out.alloc _).drew).app hsl6 hg6 hb6 | exact ((HF.out.drew).alloc _).app hsl6 hg6 hb6
        have HF6 := Lib.hid hF6
        clear hsl6 hg6 hb6 hF6
        go_wp2
        exact ⟨⟨i + 1, p6, c6, by have := Hn.out; omega, by push_cast; rfl, rfl, HF6.out⟩, by simp [intOf]; omega⟩
    · obtain rfl : i = n := by omega
      have HF := Lib.hid hF
      clear hF
      go_wp2
      go_ret
      refine ⟨op, oc, rfl, ?_⟩
      have := HF.out
      rw [List.take_of_length_le (by rw [Hn.out]; exact Nat.le_refl _)] at this
      exact this
theorem of13_any {w : World} {a : Option Addr} {c : Nat} {xs : List Lg} (hl : xs.length ≤ 10) (hs : LgS w a xs) : Calls Try.prog 13 #[.slice a xs.length c] w (OxPost 76 3 xs.length (xs.flatMap lgC) w) := by
  rcases hs with rfl | ⟨b, o, rfl, h1⟩
  · exact of13_zero
  · exact of13_some hl h1
theorem tof_bare (bid bq ask aq : Int) (bc ac : Bool) (w : World) : Calls Try.prog 29 #[.agg #[.int .i64 bid, .int .i64 bq, .int .i64 ask, .int .i64 aq, .bool bc, .bool ac]] w fun e w' => e = .returned (.agg #[.int .i64 bid, .int .i64 bq, .int .i64 ask, .int .i64 aq, .bool bc, .bool ac]) ∧ Kept (fun _ => False) w w' := by
  have h := tof_any (Tp.mk bid bq ask aq bc ac) w
  exact h
set_option maxRecDepth 100000 in
set_option maxHeartbeats 1000000 in
theorem of14_zero {w : World} {a : Option Addr} {c : Nat} : Calls Try.prog 14 #[.slice a 0 c] w (OxPost 74 6 0 [] w) := by
  go_enter Try.func14, Try.ntmps14
  go_wp2_with fail
  go_loopw [3, 4] (fun ov iv wr => ov = .slice none 0 0 ∧ iv = .int .i64 0 ∧ wr = w) (fun _ _ _ => 0)
  case atStart => exact ⟨rfl, rfl, rfl⟩
  case round =>
    obtain ⟨rfl, rfl, rfl⟩ := hrel
    go_wp2
    go_ret
    exact ⟨none, 0, rfl, Fr.nil _ _ _⟩
set_option maxRecDepth 100000 in
set_option maxHeartbeats 2000000 in
theorem of14_some {w : World} {b off c : Nat} {xs : List Tp} (hl : xs.length ≤ 10) (hs : TpAt w b off xs) : Calls Try.prog 14 #[.slice (some ⟨b, off, none⟩) xs.length c] w (OxPost 74 6 xs.length (xs.flatMap tpC) w) := by
  obtain ⟨i0, hi0, hz0, hz1, hz2⟩ := info_parts Try.info74'
  have Hs := Lib.hid hs
  obtain ⟨n, hn⟩ : ∃ n, xs.length = n := ⟨_, rfl⟩
  have Hn := Lib.hid hn
  rw [hn] at hl ⊢
  clear hs hn
  go_enter Try.func14, Try.ntmps14
  go_wp2_with fail
  go_loopw [3, 4] (fun ov iv wr => OxRel 74 6 tpC xs w ov iv wr) (fun _ iv _ => n - (intOf iv).toNat)
  case atStart => exact ⟨0, none, 0, Nat.zero_le _, rfl, rfl, Fr.nil _ _ _⟩
  case round =>
    obtain ⟨i, op, oc, hi, rfl, rfl, hF⟩ := hrel
    have hin : i ≤ n := by have := Hn.out; omega
    clear hi
    by_cases hlt : i < n
    · have hb2 : (0 : Int) ≤ (i : Int) := by omega
      have hb3 : (i : Int) < (n : Int) := by omega
      obtain ⟨c0, c1, c2, c3, c4, c5⟩ := (Hs.out.kept hF.k) i (by have := Hn.out; omega)
      have htk := take_fm tpC ⟨0, 0, 0, 0, false, false⟩ (l := xs) (i := i) (by have := Hn.out; omega)
      obtain ⟨⟨bid, bq, ask, aq, bc, ac⟩, hx⟩ : ∃ s, tpAt xs i = s := ⟨_, rfl⟩
      have hx2 : xs.getD i ⟨0, 0, 0, 0, false, false⟩ = ⟨bid, bq, ask, aq, bc, ac⟩ := hx
      rw [hx] at c0 c1 c2 c3 c4 c5
      rw [hx2] at htk
      simp only at c0 c1 c2 c3 c4 c5
      have HF := Lib.hid hF
      have Htk := Lib.hid htk
      clear hx hx2 hF htk
      go_wp2_with fail
      refine (tof_bare bid bq ask aq bc ac wr).mono ?_
      rintro e w3 ⟨rfl, k3⟩
      have HF3 := Lib.hid (HF.out.mono k3)
      clear c0 c1 c2 c3 c4 c5 k3 HF
      go_wp2_with (at_builtin; refine wpList_append_any rfl (.tmp 11) (.tmp 17) 36 rfl 74 i0 _ 6 40 Try.underlying36 hi0 hz0 hz1 hz2 rfl (by decide) op i oc ((xs.take i).flatMap tpC) rfl (HF3.out.sl.alloc _) (some ⟨w3.heap.size, 0, none⟩) 1 1 [.int .i64 bid, .int .i64 bq, .int .i64 ask, .int .i64 aq, .bool bc, .bool ac] rfl (SlAt.one (block_new3 w3 _) rfl) (by intro u hu; simp at hu; rcases hu with rfl | rfl | rfl | rfl | rfl | rfl <;> rfl) (by unfold maxLen; omega) (by omega) ?_; intro p6 c6 w6 hsl6 hg6 hb6; have HF6 : Hid (Fr 74 6 ((xs.take (i + 1)).flatMap tpC) w p6 (i + 1) c6 w6) := (by show Fr _ _ _ _ _ _ _ _; rw [Htk.out]; exact (HF3.out.alloc _).app hsl6 hg6 hb6); clear hsl6 hg6 hb6)
      exact ⟨⟨i + 1, p6, c6, by have := Hn.out; omega, by push_cast; rfl, rfl, HF6.out⟩, by simp [intOf]; omega⟩
    · obtain rfl : i = n := by omega
      have HF := Lib.hid hF
      clear hF
      go_wp2
      go_ret
      refine ⟨op, oc, rfl, ?_⟩
      have := HF.out
      rw [List.take_of_length_le (by rw [Hn.out]; exact Nat.le_refl _)] at this
      exact this
theorem of14_any {w : World} {a : Option Addr} {c : Nat} {xs : List Tp} (hl : xs.length ≤ 10) (hs : TpS w a xs) : Calls Try.prog 14 #[.slice a xs.length c] w (OxPost 74 6 xs.length (xs.flatMap tpC) w) := by
  rcases hs with rfl | ⟨b, o, rfl, h1⟩
  · exact of14_zero
  · exact of14_some hl h1
end Go.Proofs.Ytgbdnodkbdkaeaa
