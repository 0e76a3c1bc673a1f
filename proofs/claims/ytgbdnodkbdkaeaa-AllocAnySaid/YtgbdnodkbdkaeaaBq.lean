/- Alloc: the document's search, ref.rest 28. -/
import Derived.Test.YtgbdnodkbdkaeaaBp
namespace Go.Proofs.Ytgbdnodkbdkaeaa
open Go Go.RowKit

theorem cf28 : ∀ vals w, (callFunc 28 vals).run Try.prog w = .ok (.enter 28 vals) w := fun vals w => run_cf Try.func28 (by kernel_rfl) rfl vals w
theorem RwA.kept {A : Nat → Option Addr} {C : Nat → Nat} {w w' : World} {b off : Nat} {rows : List (List Int)} (k : Kept (fun _ => False) w w') (h : RwA A C w b off rows) : RwA A C w' b off rows := fun j hj => by
  obtain ⟨h1, h2, h3⟩ := h j hj
  exact ⟨h1, cell_kept2 k h2, h3.kept k⟩
/-- What the document's search tells. -/
def RsPost (r : Option (List Int)) (w : World) (e : Ending) (w' : World) : Prop :=
  Kept (fun _ => False) w w' ∧ ((r = none ∧ e = .returned (.slice none 0 0)) ∨ ∃ l t o c, r = some l ∧ e = .returned (.slice (some ⟨t, o, none⟩) l.length c) ∧ SlAt w' 2 1 (some ⟨t, o, none⟩) l.length c (l.map intC))
theorem RsPost.ret {r : Option (List Int)} {w w' : World} {e : Ending} (h : RsPost r w e w') : ∃ v, e = .returned v := by
  rcases h.2 with ⟨_, rfl⟩ | ⟨l, t, o, c, _, rfl, _⟩ <;> exact ⟨_, rfl⟩
theorem RsPost.from {r : Option (List Int)} {w0 w w' : World} {e : Ending} (h : RsPost r w e w') (k : Kept (fun _ => False) w0 w) : RsPost r w0 e w' := ⟨k.trans h.1, h.2⟩
theorem one_app {w9 w6 : World} {v p : Value} {m c6 : Nat} {p6 : Option Addr} {ys : List Value} (hsl6 : SlAt w6 2 1 p6 (1 + m) c6 ([p] ++ ys)) (hg6 : (w9.alloc (.cells #[v] 2)).grownBy w6 ((some (⟨w9.heap.size, 0, none⟩ : Addr)).map (·.block)))
    (hb6 : ∀ t, p6 = some t → (some (⟨w9.heap.size, 0, none⟩ : Addr)).map (·.block) = some t.block ∨ (w9.alloc (.cells #[v] 2)).heap.size ≤ t.block) : ∃ t o, p6 = some ⟨t, o, none⟩ ∧ Kept (fun _ => False) w9 w6 ∧ SlAt w6 2 1 (some ⟨t, o, none⟩) (1 + m) c6 ([p] ++ ys) := by
  have hk : Kept (fun _ => False) w9 w6 := ((Kept.refl _ w9).alloc (.cells #[v] 2)).trans' (G := fun j => j = w9.heap.size) (Kept.of_grown hg6 fun k hk => by simpa using hk.symm) (fun i hi e => by omega)
  rcases hsl6.2.2 with ⟨_, h⟩ | ⟨t, o, arr, h, _⟩
  · have := hsl6.2.1; omega
  · subst h; exact ⟨t, o, rfl, hk, hsl6⟩
theorem restF_succ (ls : List Lg) (ts : List Tp) (rows : List (List Int)) (n d : Nat) (net : Int) : restF ls ts rows n (d + 1) net = (rowAt rows (n - (d + 1))).findSome? fun p => if custB (tpAt ts (n - (d + 1))) p = true then (restF ls ts rows n d (net - legC ls (n - (d + 1)) * p)).map (p :: ·) else none := rfl
def NetB (k : Nat) (net : Int) : Prop := -16000000 - 4000000 * (k : Int) ≤ net ∧ net ≤ 16000000 + 4000000 * (k : Int)
theorem NetB.sub {k : Nat} {net t : Int} (h : NetB k net) (ht : -4000000 ≤ t ∧ t ≤ 4000000) : NetB (k + 1) (net - t) := by
  unfold NetB at *; push_cast; omega
theorem NetB.wrap {k : Nat} {net : Int} (h : NetB k net) (hk : k ≤ 4) : wrap64 net = net := by
  unfold NetB at h; exact IntWalk.wrap64_in _ (by omega)
theorem rest_le {ls : List Lg} {ts : List Tp} {rows : List (List Int)} {n d k : Nat} (hn4 : n ≤ 4) (hkd : k + (d + 1) = n) (net : Int) (l : List Int) (h : restF ls ts rows n d net = some l) : l.length ≤ 4 := by
  have := (rest_sum d _ l (by omega) h).2.1; omega
theorem len_small {m : Nat} (h : m ≤ 4) : 1 + m ≤ maxLen ∧ (1 + m) * 8 ≤ 140737488355328 := by unfold maxLen; omega
theorem len_cons1 (p : Int) (l : List Int) : (p :: l).length = 1 + l.length := Nat.add_comm _ _
theorem run_neq30 (a : Option Addr) (n c : Nat) (w : World) : (binOp BinOp.neq 30 (.slice a n c) (.slice none 0 0)).run Try.prog w = .ok (.bool (!a.isNone)) w := by
  cases a <;> (simp only [binOp, go_sem, Op.equal]; unfold Op.maxDepth Op.equalIn; simp [Try.underlying30])
def killNo (_ _ : Nat) : Bool := false
def RsRel (R : Option (List Int)) (row : List Int) (F : Int → Option (List Int)) (w : World) (iv : Value) (wr : World) : Prop := ∃ j : Nat, j ≤ row.length ∧ iv = .int .i64 j ∧ (row.drop j).findSome? F = R ∧ Kept (fun _ => False) w wr
set_option maxRecDepth 100000 in
set_option maxHeartbeats 4000000 in
theorem rest_any {A : Nat → Option Addr} {C : Nat → Nat} {rb ro rc lb lo lc tb tof tc n : Nat} {ls : List Lg} {ts : List Tp} {rows : List (List Int)} (hn4 : n ≤ 4) (hln : ls.length = n) (htn : ts.length = n) (hrn : rows.length = n) (hgd : ∀ j, j < n → goodL (lgAt ls j) = true) (hrow : ∀ j, j < n → (rowAt rows j).length ≤ 1000) (hbd : ∀ j, j < n → ∀ q ∈ rowAt rows j, 0 ≤ q ∧ q ≤ 1000000) :
    ∀ (d k : Nat) (net : Int) (w : World), k + d = n → NetB k net → LgAt w lb lo ls → TpAt w tb tof ts → RwA A C w rb ro rows →
    Calls Try.prog 28 #[.slice (some ⟨lb, lo, none⟩) n lc, .slice (some ⟨tb, tof, none⟩) n tc, .slice (some ⟨rb, ro, none⟩) n rc, .int .i64 k, .int .i64 net] w (RsPost (restF ls ts rows n d net) w) := by
  intro d
  induction d with
  | zero =>
    intro k net w hkd hnet hL hT hR
    clear hL hT hR hgd hrow hbd
    obtain rfl : k = n := by omega
    by_cases h0 : net = 0
    · subst h0
      go_enter Try.func28, Try.ntmps28
      go_wp2
      go_ret
      exact ⟨(Kept.refl _ _).alloc _, .inr ⟨[], _, 0, 0, rfl, rfl, (Fr.lit 2 1 w).sl⟩⟩
    · have hq : (net == 0) = false := by simp [h0]
      have HE : Hid (restF ls ts rows k 0 net = none) := if_neg h0
      go_enter Try.func28, Try.ntmps28
      go_wp2
      go_ret
      exact ⟨Kept.refl _ _, .inl ⟨HE.out, rfl⟩⟩
  | succ d ih =>
    intro k net w hkd hnet hL hT hR
    obtain ⟨i0, hi0, hz0, hz1, hz2⟩ := info_parts Try.info2'
    have hkn : k < n := by omega
    have hneq : ((k : Int) == (n : Int)) = false := by simp; omega
    have hb0 : (0 : Int) ≤ (k : Int) := by omega
    have hb1 : (k : Int) < (n : Int) := by omega
    obtain ⟨row, hrw⟩ : ∃ row, rowAt rows k = row := ⟨_, rfl⟩
    have hrl : row.length ≤ 1000 := by have := hrow k hkn; rw [hrw] at this; exact this
    have Hbd : Hid (∀ q ∈ row, 0 ≤ q ∧ q ≤ 1000000) := by have := hbd k hkn; rw [hrw] at this; exact this
    obtain ⟨F, hF⟩ : ∃ F : Int → Option (List Int), (fun p => if custB (tpAt ts k) p = true then (restF ls ts rows n d (net - legC ls k * p)).map (p :: ·) else none) = F := ⟨_, rfl⟩
    obtain ⟨R, hRe⟩ : ∃ R, restF ls ts rows n (d + 1) net = R := ⟨_, rfl⟩
    have hR0 : row.findSome? F = R := by
      rw [← hRe, ← hrw, ← hF]; rw [restF_succ, show n - (d + 1) = k by omega]
    have HF : Hid (∀ p, (if custB (tpAt ts k) p = true then (restF ls ts rows n d (net - legC ls k * p)).map (p :: ·) else none) = F p) := fun p => congrFun hF p
    have HR0 := Lib.hid hR0
    have Hgd := Lib.hid (hgd k hkn)
    have HI : Hid (∀ (net' : Int) (W : World), Kept (fun _ => False) w W → NetB (k + 1) net' → Calls Try.prog 28 #[.slice (some ⟨lb, lo, none⟩) n lc, .slice (some ⟨tb, tof, none⟩) n tc, .slice (some ⟨rb, ro, none⟩) n rc, .int .i64 ((k : Int) + 1), .int .i64 net'] W (RsPost (restF ls ts rows n d net') W)) := fun net' W kw hb => by
      have := ih (k + 1) net' W (by omega) hb (hL.kept kw) (hT.kept kw) (hR.kept kw)
      exact this
    have HL := Lib.hid hL
    have HT := Lib.hid hT
    have HR := Lib.hid hR
    have Hln := Lib.hid hln
    have Htn := Lib.hid htn
    have Hrn := Lib.hid hrn
    have Hnet := Lib.hid hnet
    obtain ⟨_, e0, hrp⟩ := hR k (by omega)
    obtain ⟨ra, hra⟩ : ∃ ra, A k = ra := ⟨_, rfl⟩
    obtain ⟨rcap, hrcap⟩ : ∃ rcap, C k = rcap := ⟨_, rfl⟩
    rw [hrw, hra, hrcap] at e0
    rw [hrw, hra] at hrp
    have HP := Lib.hid hrp
    have He0 := Lib.hid e0
    rw [hRe]
    clear ih hL hT hR hgd hrow hbd hln htn hrn hrw hR0 hRe hF hnet hrp hra hrcap e0
    go_enter Try.func28, Try.ntmps28
    go_wp2_with fail
    go_loopw [11] (fun iv wr => RsRel R row F w iv wr) (fun iv _ => row.length - (intOf iv).toNat)
    case atStart => exact ⟨0, Nat.zero_le _, rfl, by rw [List.drop_zero]; exact HR0.out, Kept.refl _ _⟩
    case round =>
      obtain ⟨j, hj, rfl, hfs, hkW⟩ := hrel
      have Hfs := Lib.hid hfs
      clear hfs hneq
      have e0 := cell_kept2 hkW He0.out
      by_cases hlt : j < row.length
      · rcases HP.out.kept hkW with h0 | ⟨pb, po, rfl, hps⟩
        · exact absurd hlt (by rw [h0]; simp)
        have cp := hps j hlt
        obtain ⟨p, hp⟩ : ∃ p, psAt row j = p := ⟨_, rfl⟩
        rw [hp] at cp
        have hdrop : row.drop j = p :: row.drop (j + 1) := by
          rw [List.drop_eq_getElem_cons hlt]
          congr 1
          rw [← hp]; simp [psAt, List.getD_eq_getElem?_getD, List.getElem?_eq_getElem hlt]
        obtain ⟨p0, p1⟩ := Hbd.out p (by
          have : p ∈ row.drop j := by rw [hdrop]; exact List.mem_cons_self
          exact List.mem_of_mem_drop this)
        have Hsome : Hid (∀ x, F p = some x → R = some x) := fun x hx => by
          have := Hfs.out
          rw [hdrop, List.findSome?_cons, hx] at this
          exact this.symm
        have Hnone : Hid (F p = none → (row.drop (j + 1)).findSome? F = R) := fun hx => by
          have := Hfs.out
          rw [hdrop, List.findSome?_cons, hx] at this
          exact this
        have hb2 : (0 : Int) ≤ (j : Int) := by omega
        have hb3 : (j : Int) < (row.length : Int) := by omega
        obtain ⟨_, d1, d2⟩ := (HL.out.kept hkW) k (by have := Hln.out; omega)
        obtain ⟨t0, _, t2, _, t4, t5⟩ := (HT.out.kept hkW) k (by have := Htn.out; omega)
        have hgi := Hgd.out
        obtain ⟨⟨ser, sgn, rat⟩, hy⟩ : ∃ y, lgAt ls k = y := ⟨_, rfl⟩
        obtain ⟨⟨bid, bq, ask, aq, bc, ac⟩, htt⟩ : ∃ t, tpAt ts k = t := ⟨_, rfl⟩
        rw [hy] at d1 d2 hgi
        rw [htt] at t0 t2 t4 t5
        have Htp := Lib.hid htt
        have Hcc : Hid (legC ls k = sgn * rat) := by show legC ls k = _; unfold legC; rw [hy]
        simp only at d1 d2 t0 t2 t4 t5
        obtain ⟨_, g2, g3, g4⟩ := goodL_is hgi
        simp only at g2 g3 g4
        have hsr : -4 ≤ sgn * rat ∧ sgn * rat ≤ 4 := by rcases g2 with e | e <;> rw [e] <;> omega
        have hcp := term_bd hgi p0 p1
        unfold termL at hcp
        simp only at hcp
        have hnet := Hnet.out
        have hw1 : wrap64 (sgn * rat) = sgn * rat := IntWalk.wrap64_in _ (by omega)
        have hw2 : wrap64 (sgn * rat * p) = sgn * rat * p := IntWalk.wrap64_in _ (by omega)
        have hnb := hnet.sub hcp
        have hw3 : wrap64 (net - sgn * rat * p) = net - sgn * rat * p := hnb.wrap (by omega)
        have hw4 : wrap64 ((k : Int) + 1) = (k : Int) + 1 := IntWalk.wrap64_in _ (by omega)
        have hih := HI.out (net - sgn * rat * p)
        have Hih : Hid (∀ W, Kept (fun _ => False) wr W → Calls Try.prog 28 #[.slice (some ⟨lb, lo, none⟩) n lc, .slice (some ⟨tb, tof, none⟩) n tc, .slice (some ⟨rb, ro, none⟩) n rc, .int .i64 ((k : Int) + 1), .int .i64 (net - sgn * rat * p)] W (RsPost (restF ls ts rows n d (net - sgn * rat * p)) W)) := fun W kw => hih W (hkW.trans kw) hnb
        clear hih HI Hnet hnet hnb hcp hsr g2 g3 g4 hgi hy htt hdrop hps hp Hfs HP He0 HR HL HT Hgd HR0 Hbd Hln Htn Hrn
        cases ac
        · cases bc
          · have hgn : F p = (restF ls ts rows n d (net - sgn * rat * p)).map (p :: ·) := by rw [← HF.out, Hcc.out]; exact if_pos (by rw [Htp.out]; simp [custB] <;> omega)
            have Hgn := Lib.hid hgn
            have HkW := Lib.hid hkW
            clear hgn HF Htp hkW
            go_upto_region 10 with fail
            refine wp_region_vals (by kernel_rfl) (by kernel_rfl) (by kernel_rfl) (by kernel_rfl) (Kept (fun _ => False) wr) killNo
              (fun jx => (([.val (Value.slice (some ⟨lb, lo, none⟩) n lc), .val (Value.slice (some ⟨tb, tof, none⟩) n tc), .val (Value.slice (some ⟨rb, ro, none⟩) n rc), .val (Value.int .i64 (k : Int)), .val (Value.int .i64 ((k : Int) + 1)), .val (Value.int .i64 net), .val (Value.slice (some ⟨lb, lo, none⟩) n lc), .val (Value.int .i64 (k : Int)), .val (Value.pointer (some ⟨lb, lo + k * 3, none⟩)), .val (Value.pointer (some ⟨lb, lo + k * 3 + 1, none⟩)), .val (Value.int .i64 sgn), .val (Value.slice (some ⟨lb, lo, none⟩) n lc), .val (Value.int .i64 (k : Int)), .val (Value.pointer (some ⟨lb, lo + k * 3, none⟩)), .val (Value.pointer (some ⟨lb, lo + k * 3 + 2, none⟩)), .val (Value.int .i64 rat), .val (Value.int .i64 (sgn * rat)), .val (Value.int .i64 p), .val (Value.int .i64 (sgn * rat * p)), .val (Value.int .i64 (net - sgn * rat * p)), .vw (fun v w' => RsPost (restF ls ts rows n d (net - sgn * rat * p)) wr (.returned v) w'), .vw (fun v w' => RsPost (restF ls ts rows n d (net - sgn * rat * p)) wr (.returned v) w')] : List Kd).getD jx .any).is wr)
              (fun _ _ => True) ((Kept.refl _ wr).drew) (fun _ => trivial) ?_ ?_
            · refine ⟨?_, ?_, ?_, ?_, ?_, ?_, ?_, ?_, ?_, ?_, ?_, ?_, ?_, ?_, ?_, ?_, ?_, ?_, ?_, ?_, ?_, ?_, trivial⟩
              all_goals (intro act w' hC hS hV hF)
              · refine ⟨rfl, fun K hK => ?_⟩
                have e1 : _ = Value.slice (some ⟨lb, lo, none⟩) n lc := slotE (hF 0 (by kernel_rfl))
                clear hV hF hS
                go_simp
                exact hK _ _ rfl hC (fun _ _ _ _ _ h => h) (fun _ _ _ h => h)
              · refine ⟨rfl, fun K hK => ?_⟩
                have e1 : _ = Value.slice (some ⟨tb, tof, none⟩) n tc := slotE (hF 1 (by kernel_rfl))
                clear hV hF hS
                go_simp
                exact hK _ _ rfl hC (fun _ _ _ _ _ h => h) (fun _ _ _ h => h)
              · refine ⟨rfl, fun K hK => ?_⟩
                have e1 : _ = Value.slice (some ⟨rb, ro, none⟩) n rc := slotE (hF 2 (by kernel_rfl))
                clear hV hF hS
                go_simp
                exact hK _ _ rfl hC (fun _ _ _ _ _ h => h) (fun _ _ _ h => h)
              · refine ⟨rfl, fun K hK => ?_⟩
                have e1 : _ = Value.int .i64 (k : Int) := slotE (hF 3 (by kernel_rfl))
                clear hV hF hS
                go_simp
                exact hK _ _ rfl hC (fun _ _ _ _ _ h => h) (fun _ _ _ h => h)
              · refine ⟨rfl, fun K hK => ?_⟩
                obtain ⟨_, rfl, e0⟩ := hV 3 (by kernel_rfl) (by kernel_rfl)
                have e0 := slotE (e0 _ rfl)
                clear hV hF hS
                go_simp
                exact hK _ _ (by first | rfl | (simp only [IntWalk.i64_left, hw1, hw2, hw3, hw4]; rfl)) hC (fun _ _ _ _ _ h => h) (fun _ _ _ h => h)
              · refine ⟨rfl, fun K hK => ?_⟩
                have e1 : _ = Value.int .i64 net := slotE (hF 4 (by kernel_rfl))
                clear hV hF hS
                go_simp
                exact hK _ _ rfl hC (fun _ _ _ _ _ h => h) (fun _ _ _ h => h)
              · refine ⟨rfl, fun K hK => ?_⟩
                have e1 : _ = Value.slice (some ⟨lb, lo, none⟩) n lc := slotE (hF 0 (by kernel_rfl))
                clear hV hF hS
                go_simp
                exact hK _ _ rfl hC (fun _ _ _ _ _ h => h) (fun _ _ _ h => h)
              · refine ⟨rfl, fun K hK => ?_⟩
                have e1 : _ = Value.int .i64 (k : Int) := slotE (hF 3 (by kernel_rfl))
                clear hV hF hS
                go_simp
                exact hK _ _ rfl hC (fun _ _ _ _ _ h => h) (fun _ _ _ h => h)
              · refine ⟨rfl, fun K hK => ?_⟩
                obtain ⟨_, rfl, e0⟩ := hV 6 (by kernel_rfl) (by kernel_rfl)
                have e0 := slotE (e0 _ rfl)
                obtain ⟨_, rfl, e1⟩ := hV 7 (by kernel_rfl) (by kernel_rfl)
                have e1 := slotE (e1 _ rfl)
                clear hV hF hS
                go_simp
                exact hK _ _ rfl hC (fun _ _ _ _ _ h => h) (fun _ _ _ h => h)
              · refine ⟨rfl, fun K hK => ?_⟩
                obtain ⟨_, rfl, e0⟩ := hV 8 (by kernel_rfl) (by kernel_rfl)
                have e0 := slotE (e0 _ rfl)
                clear hV hF hS
                go_simp
                exact hK _ _ rfl hC (fun _ _ _ _ _ h => h) (fun _ _ _ h => h)
              · refine ⟨rfl, fun K hK => ?_⟩
                obtain ⟨_, rfl, e0⟩ := hV 9 (by kernel_rfl) (by kernel_rfl)
                have e0 := slotE (e0 _ rfl)
                have q1 := cell_kept2 hC d1
                clear hV hF hS
                go_simp
                exact hK _ _ rfl hC (fun _ _ _ _ _ h => h) (fun _ _ _ h => h)
              · refine ⟨rfl, fun K hK => ?_⟩
                have e1 : _ = Value.slice (some ⟨lb, lo, none⟩) n lc := slotE (hF 0 (by kernel_rfl))
                clear hV hF hS
                go_simp
                exact hK _ _ rfl hC (fun _ _ _ _ _ h => h) (fun _ _ _ h => h)
              · refine ⟨rfl, fun K hK => ?_⟩
                have e1 : _ = Value.int .i64 (k : Int) := slotE (hF 3 (by kernel_rfl))
                clear hV hF hS
                go_simp
                exact hK _ _ rfl hC (fun _ _ _ _ _ h => h) (fun _ _ _ h => h)
              · refine ⟨rfl, fun K hK => ?_⟩
                obtain ⟨_, rfl, e0⟩ := hV 11 (by kernel_rfl) (by kernel_rfl)
                have e0 := slotE (e0 _ rfl)
                obtain ⟨_, rfl, e1⟩ := hV 12 (by kernel_rfl) (by kernel_rfl)
                have e1 := slotE (e1 _ rfl)
                clear hV hF hS
                go_simp
                exact hK _ _ rfl hC (fun _ _ _ _ _ h => h) (fun _ _ _ h => h)
              · refine ⟨rfl, fun K hK => ?_⟩
                obtain ⟨_, rfl, e0⟩ := hV 13 (by kernel_rfl) (by kernel_rfl)
                have e0 := slotE (e0 _ rfl)
                clear hV hF hS
                go_simp
                exact hK _ _ rfl hC (fun _ _ _ _ _ h => h) (fun _ _ _ h => h)
              · refine ⟨rfl, fun K hK => ?_⟩
                obtain ⟨_, rfl, e0⟩ := hV 14 (by kernel_rfl) (by kernel_rfl)
                have e0 := slotE (e0 _ rfl)
                have q1 := cell_kept2 hC d2
                clear hV hF hS
                go_simp
                exact hK _ _ rfl hC (fun _ _ _ _ _ h => h) (fun _ _ _ h => h)
              · refine ⟨rfl, fun K hK => ?_⟩
                obtain ⟨_, rfl, e0⟩ := hV 10 (by kernel_rfl) (by kernel_rfl)
                have e0 := slotE (e0 _ rfl)
                obtain ⟨_, rfl, e1⟩ := hV 15 (by kernel_rfl) (by kernel_rfl)
                have e1 := slotE (e1 _ rfl)
                clear hV hF hS
                go_simp
                exact hK _ _ (by first | rfl | (simp only [IntWalk.i64_left, hw1, hw2, hw3, hw4]; rfl)) hC (fun _ _ _ _ _ h => h) (fun _ _ _ h => h)
              · refine ⟨rfl, fun K hK => ?_⟩
                have e1 : _ = Value.int .i64 p := slotE (hF 12 (by kernel_rfl))
                clear hV hF hS
                go_simp
                exact hK _ _ rfl hC (fun _ _ _ _ _ h => h) (fun _ _ _ h => h)
              · refine ⟨rfl, fun K hK => ?_⟩
                obtain ⟨_, rfl, e0⟩ := hV 16 (by kernel_rfl) (by kernel_rfl)
                have e0 := slotE (e0 _ rfl)
                obtain ⟨_, rfl, e1⟩ := hV 17 (by kernel_rfl) (by kernel_rfl)
                have e1 := slotE (e1 _ rfl)
                clear hV hF hS
                go_simp
                exact hK _ _ (by first | rfl | (simp only [IntWalk.i64_left, hw1, hw2, hw3, hw4]; rfl)) hC (fun _ _ _ _ _ h => h) (fun _ _ _ h => h)
              · refine ⟨rfl, fun K hK => ?_⟩
                obtain ⟨_, rfl, e0⟩ := hV 5 (by kernel_rfl) (by kernel_rfl)
                have e0 := slotE (e0 _ rfl)
                obtain ⟨_, rfl, e1⟩ := hV 18 (by kernel_rfl) (by kernel_rfl)
                have e1 := slotE (e1 _ rfl)
                clear hV hF hS
                go_simp
                exact hK _ _ (by first | rfl | (simp only [IntWalk.i64_left, hw1, hw2, hw3, hw4]; rfl)) hC (fun _ _ _ _ _ h => h) (fun _ _ _ h => h)
              · refine ⟨rfl, fun K hK => ?_⟩
                obtain ⟨_, rfl, e0⟩ := hV 0 (by kernel_rfl) (by kernel_rfl)
                have e0 := slotE (e0 _ rfl)
                obtain ⟨_, rfl, e1⟩ := hV 1 (by kernel_rfl) (by kernel_rfl)
                have e1 := slotE (e1 _ rfl)
                obtain ⟨_, rfl, e2⟩ := hV 2 (by kernel_rfl) (by kernel_rfl)
                have e2 := slotE (e2 _ rfl)
                obtain ⟨_, rfl, e3⟩ := hV 4 (by kernel_rfl) (by kernel_rfl)
                have e3 := slotE (e3 _ rfl)
                obtain ⟨_, rfl, e4⟩ := hV 19 (by kernel_rfl) (by kernel_rfl)
                have e4 := slotE (e4 _ rfl)
                clear hV hF hS
                go_simp
                refine (Hih.out _ hC).mono ?_
                rintro e w5 hr5
                obtain ⟨v5, rfl⟩ := hr5.ret
                have hr6 := hr5.from hC
                exact hK _ _ hr6 hr6.1 (fun j u hj hk hr h => Kd.mono hr5.1 (Kd.rest (kills := killNo) rfl (by kernel_rfl) hj hk hr) h) (fun _ _ _ h => h)
              · refine ⟨rfl, fun K hK => ?_⟩
                obtain ⟨u0, h0, e0⟩ := hV 20 (by kernel_rfl) (by kernel_rfl)
                have e0 := slotE (e0 _ rfl)
                clear hV hF hS
                go_simp
                exact hK _ _ h0 hC (fun _ _ _ _ _ h => h) (fun _ _ _ h => h)
            · intro vs wx hl hC hV
              replace hl : vs.length = 22 := hl
              obtain ⟨v0, vs, rfl, hl0⟩ := cons_of hl
              obtain ⟨v1, vs, rfl, hl1⟩ := cons_of hl0
              obtain ⟨v2, vs, rfl, hl2⟩ := cons_of hl1
              obtain ⟨v3, vs, rfl, hl3⟩ := cons_of hl2
              obtain ⟨v4, vs, rfl, hl4⟩ := cons_of hl3
              obtain ⟨v5, vs, rfl, hl5⟩ := cons_of hl4
              obtain ⟨v6, vs, rfl, hl6⟩ := cons_of hl5
              obtain ⟨v7, vs, rfl, hl7⟩ := cons_of hl6
              obtain ⟨v8, vs, rfl, hl8⟩ := cons_of hl7
              obtain ⟨v9, vs, rfl, hl9⟩ := cons_of hl8
              obtain ⟨v10, vs, rfl, hl10⟩ := cons_of hl9
              obtain ⟨v11, vs, rfl, hl11⟩ := cons_of hl10
              obtain ⟨v12, vs, rfl, hl12⟩ := cons_of hl11
              obtain ⟨v13, vs, rfl, hl13⟩ := cons_of hl12
              obtain ⟨v14, vs, rfl, hl14⟩ := cons_of hl13
              obtain ⟨v15, vs, rfl, hl15⟩ := cons_of hl14
              obtain ⟨v16, vs, rfl, hl16⟩ := cons_of hl15
              obtain ⟨v17, vs, rfl, hl17⟩ := cons_of hl16
              obtain ⟨v18, vs, rfl, hl18⟩ := cons_of hl17
              obtain ⟨v19, vs, rfl, hl19⟩ := cons_of hl18
              obtain ⟨v20, vs, rfl, hl20⟩ := cons_of hl19
              obtain ⟨v21, vs, rfl, hl21⟩ := cons_of hl20
              obtain rfl := nil_of hl21
              have hr9 : RsPost (restF ls ts rows n d (net - sgn * rat * p)) wr (.returned v21) wx := hV 21 (by decide) (by decide)
              have Hr9 := Lib.hid hr9
              clear hV hr9 hC hw1 hw2 hw3 hw4
              simp only [dstsOf, List.map_cons, List.map_nil, puts, Act.put, List.setIfInBounds_toArray, List.set_cons_succ, List.set_cons_zero, Exit.then]
              obtain ⟨r, hr⟩ : ∃ r, restF ls ts rows n d (net - sgn * rat * p) = r := ⟨_, rfl⟩
              rw [hr] at Hr9 Hgn
              have Hr := Lib.hid hr
              clear Hih hr
              obtain ⟨k9, hc9⟩ := Hr9.out
              have hk9 := HkW.out.trans k9
              clear Hr9
              rcases hc9 with ⟨rfl, hv9⟩ | ⟨l, t9, o9, cap, rfl, hv9, hsl9⟩
              · obtain rfl : v21 = .slice none 0 0 := by cases hv9; rfl
                have hnq : (binOp BinOp.neq 30 (.slice none 0 0) (.slice none 0 0)).run Try.prog wx = .ok (.bool false) wx := run_neq30 none 0 0 wx
                have hnx := Lib.hid (Hnone.out (by rw [Hgn.out]; rfl))
                have Hk9 := Lib.hid hk9
                clear Hnone Hsome Hgn hk9 hv9 k9
                go_wp2
                exact ⟨⟨j + 1, hlt, by push_cast; rfl, hnx.out, Hk9.out⟩, by simp [intOf]; omega⟩
              · obtain ⟨a9, rfl, ha9, hsa9⟩ : ∃ a9 : Option Addr, v21 = .slice a9 l.length cap ∧ a9.isNone = false ∧ SlAt wx 2 1 a9 l.length cap (l.map intC) := ⟨some ⟨t9, o9, none⟩, by cases hv9; rfl, rfl, hsl9⟩
                have hnq : (binOp BinOp.neq 30 (.slice a9 l.length cap) (.slice none 0 0)).run Try.prog wx = .ok (.bool true) wx := by rw [run_neq30, ha9]; rfl
                have hfound := Lib.hid (Hsome.out (p :: l) (by rw [Hgn.out]; rfl))
                have Hk9 := Lib.hid hk9
                have Hsl9 := Lib.hid hsa9
                have hll : l.length ≤ 4 := rest_le hn4 hkd _ _ Hr.out
                clear Hnone Hsome Hgn hk9 hv9 k9 hsl9 hsa9
                go_wp2_with (at_builtin; refine wpList_append_any rfl (.tmp 91) (.tmp 92) 30 rfl 2 i0 (.int .i64 0) 1 8 Try.underlying30 hi0 hz0 hz1 hz2 rfl (by decide) (some ⟨wx.heap.size, 0, none⟩) 1 1 [intC p] rfl (SlAt.one (block_new3 _ _) rfl) a9 l.length cap (l.map intC) rfl (Hsl9.out.kept fun t ht => Below.heap_alloc _ _ _ (Hsl9.out.lt t ht)) (fun u hu => by obtain ⟨z, _, rfl⟩ := List.mem_map.1 hu; rfl) (len_small hll).1 (len_small hll).2 ?_; intro p6 c6 w6 hsl6 hg6 hb6; have H6 := Lib.hid (one_app hsl6 hg6 hb6); clear hsl6 hg6 hb6)
                go_ret
                obtain ⟨t6, o6, rfl, k6, s6⟩ := H6.out
                exact ⟨Hk9.out.trans k6, .inr ⟨p :: l, t6, o6, c6, hfound.out, (by rw [len_cons1]; rfl), by rw [len_cons1]; exact s6⟩⟩
          · by_cases h2 : p ≤ bid
            · have hgn : F p = none := by rw [← HF.out]; exact if_neg (by rw [Htp.out]; simp [custB] <;> omega)
              have hnx := Lib.hid (Hnone.out hgn)
              have HkW := Lib.hid hkW
              clear hgn Hnone Hsome HF Htp Hih hkW hw1 hw2 hw3 hw4
              go_wp2
              exact ⟨⟨j + 1, hlt, by push_cast; rfl, hnx.out, HkW.out⟩, by simp [intOf]; omega⟩
            · have hgn : F p = (restF ls ts rows n d (net - sgn * rat * p)).map (p :: ·) := by rw [← HF.out, Hcc.out]; exact if_pos (by rw [Htp.out]; simp [custB] <;> omega)
              have Hgn := Lib.hid hgn
              have HkW := Lib.hid hkW
              clear hgn HF Htp hkW
              go_upto_region 10 with fail
              refine wp_region_vals (by kernel_rfl) (by kernel_rfl) (by kernel_rfl) (by kernel_rfl) (Kept (fun _ => False) wr) killNo
                (fun jx => (([.val (Value.slice (some ⟨lb, lo, none⟩) n lc), .val (Value.slice (some ⟨tb, tof, none⟩) n tc), .val (Value.slice (some ⟨rb, ro, none⟩) n rc), .val (Value.int .i64 (k : Int)), .val (Value.int .i64 ((k : Int) + 1)), .val (Value.int .i64 net), .val (Value.slice (some ⟨lb, lo, none⟩) n lc), .val (Value.int .i64 (k : Int)), .val (Value.pointer (some ⟨lb, lo + k * 3, none⟩)), .val (Value.pointer (some ⟨lb, lo + k * 3 + 1, none⟩)), .val (Value.int .i64 sgn), .val (Value.slice (some ⟨lb, lo, none⟩) n lc), .val (Value.int .i64 (k : Int)), .val (Value.pointer (some ⟨lb, lo + k * 3, none⟩)), .val (Value.pointer (some ⟨lb, lo + k * 3 + 2, none⟩)), .val (Value.int .i64 rat), .val (Value.int .i64 (sgn * rat)), .val (Value.int .i64 p), .val (Value.int .i64 (sgn * rat * p)), .val (Value.int .i64 (net - sgn * rat * p)), .vw (fun v w' => RsPost (restF ls ts rows n d (net - sgn * rat * p)) wr (.returned v) w'), .vw (fun v w' => RsPost (restF ls ts rows n d (net - sgn * rat * p)) wr (.returned v) w')] : List Kd).getD jx .any).is wr)
                (fun _ _ => True) ((Kept.refl _ wr).drew) (fun _ => trivial) ?_ ?_
              · refine ⟨?_, ?_, ?_, ?_, ?_, ?_, ?_, ?_, ?_, ?_, ?_, ?_, ?_, ?_, ?_, ?_, ?_, ?_, ?_, ?_, ?_, ?_, trivial⟩
                all_goals (intro act w' hC hS hV hF)
                · refine ⟨rfl, fun K hK => ?_⟩
                  have e1 : _ = Value.slice (some ⟨lb, lo, none⟩) n lc := slotE (hF 0 (by kernel_rfl))
                  clear hV hF hS
                  go_simp
                  exact hK _ _ rfl hC (fun _ _ _ _ _ h => h) (fun _ _ _ h => h)
                · refine ⟨rfl, fun K hK => ?_⟩
                  have e1 : _ = Value.slice (some ⟨tb, tof, none⟩) n tc := slotE (hF 1 (by kernel_rfl))
                  clear hV hF hS
                  go_simp
                  exact hK _ _ rfl hC (fun _ _ _ _ _ h => h) (fun _ _ _ h => h)
                · refine ⟨rfl, fun K hK => ?_⟩
                  have e1 : _ = Value.slice (some ⟨rb, ro, none⟩) n rc := slotE (hF 2 (by kernel_rfl))
                  clear hV hF hS
                  go_simp
                  exact hK _ _ rfl hC (fun _ _ _ _ _ h => h) (fun _ _ _ h => h)
                · refine ⟨rfl, fun K hK => ?_⟩
                  have e1 : _ = Value.int .i64 (k : Int) := slotE (hF 3 (by kernel_rfl))
                  clear hV hF hS
                  go_simp
                  exact hK _ _ rfl hC (fun _ _ _ _ _ h => h) (fun _ _ _ h => h)
                · refine ⟨rfl, fun K hK => ?_⟩
                  obtain ⟨_, rfl, e0⟩ := hV 3 (by kernel_rfl) (by kernel_rfl)
                  have e0 := slotE (e0 _ rfl)
                  clear hV hF hS
                  go_simp
                  exact hK _ _ (by first | rfl | (simp only [IntWalk.i64_left, hw1, hw2, hw3, hw4]; rfl)) hC (fun _ _ _ _ _ h => h) (fun _ _ _ h => h)
                · refine ⟨rfl, fun K hK => ?_⟩
                  have e1 : _ = Value.int .i64 net := slotE (hF 4 (by kernel_rfl))
                  clear hV hF hS
                  go_simp
                  exact hK _ _ rfl hC (fun _ _ _ _ _ h => h) (fun _ _ _ h => h)
                · refine ⟨rfl, fun K hK => ?_⟩
                  have e1 : _ = Value.slice (some ⟨lb, lo, none⟩) n lc := slotE (hF 0 (by kernel_rfl))
                  clear hV hF hS
                  go_simp
                  exact hK _ _ rfl hC (fun _ _ _ _ _ h => h) (fun _ _ _ h => h)
                · refine ⟨rfl, fun K hK => ?_⟩
                  have e1 : _ = Value.int .i64 (k : Int) := slotE (hF 3 (by kernel_rfl))
                  clear hV hF hS
                  go_simp
                  exact hK _ _ rfl hC (fun _ _ _ _ _ h => h) (fun _ _ _ h => h)
                · refine ⟨rfl, fun K hK => ?_⟩
                  obtain ⟨_, rfl, e0⟩ := hV 6 (by kernel_rfl) (by kernel_rfl)
                  have e0 := slotE (e0 _ rfl)
                  obtain ⟨_, rfl, e1⟩ := hV 7 (by kernel_rfl) (by kernel_rfl)
                  have e1 := slotE (e1 _ rfl)
                  clear hV hF hS
                  go_simp
                  exact hK _ _ rfl hC (fun _ _ _ _ _ h => h) (fun _ _ _ h => h)
                · refine ⟨rfl, fun K hK => ?_⟩
                  obtain ⟨_, rfl, e0⟩ := hV 8 (by kernel_rfl) (by kernel_rfl)
                  have e0 := slotE (e0 _ rfl)
                  clear hV hF hS
                  go_simp
                  exact hK _ _ rfl hC (fun _ _ _ _ _ h => h) (fun _ _ _ h => h)
                · refine ⟨rfl, fun K hK => ?_⟩
                  obtain ⟨_, rfl, e0⟩ := hV 9 (by kernel_rfl) (by kernel_rfl)
                  have e0 := slotE (e0 _ rfl)
                  have q1 := cell_kept2 hC d1
                  clear hV hF hS
                  go_simp
                  exact hK _ _ rfl hC (fun _ _ _ _ _ h => h) (fun _ _ _ h => h)
                · refine ⟨rfl, fun K hK => ?_⟩
                  have e1 : _ = Value.slice (some ⟨lb, lo, none⟩) n lc := slotE (hF 0 (by kernel_rfl))
                  clear hV hF hS
                  go_simp
                  exact hK _ _ rfl hC (fun _ _ _ _ _ h => h) (fun _ _ _ h => h)
                · refine ⟨rfl, fun K hK => ?_⟩
                  have e1 : _ = Value.int .i64 (k : Int) := slotE (hF 3 (by kernel_rfl))
                  clear hV hF hS
                  go_simp
                  exact hK _ _ rfl hC (fun _ _ _ _ _ h => h) (fun _ _ _ h => h)
                · refine ⟨rfl, fun K hK => ?_⟩
                  obtain ⟨_, rfl, e0⟩ := hV 11 (by kernel_rfl) (by kernel_rfl)
                  have e0 := slotE (e0 _ rfl)
                  obtain ⟨_, rfl, e1⟩ := hV 12 (by kernel_rfl) (by kernel_rfl)
                  have e1 := slotE (e1 _ rfl)
                  clear hV hF hS
                  go_simp
                  exact hK _ _ rfl hC (fun _ _ _ _ _ h => h) (fun _ _ _ h => h)
                · refine ⟨rfl, fun K hK => ?_⟩
                  obtain ⟨_, rfl, e0⟩ := hV 13 (by kernel_rfl) (by kernel_rfl)
                  have e0 := slotE (e0 _ rfl)
                  clear hV hF hS
                  go_simp
                  exact hK _ _ rfl hC (fun _ _ _ _ _ h => h) (fun _ _ _ h => h)
                · refine ⟨rfl, fun K hK => ?_⟩
                  obtain ⟨_, rfl, e0⟩ := hV 14 (by kernel_rfl) (by kernel_rfl)
                  have e0 := slotE (e0 _ rfl)
                  have q1 := cell_kept2 hC d2
                  clear hV hF hS
                  go_simp
                  exact hK _ _ rfl hC (fun _ _ _ _ _ h => h) (fun _ _ _ h => h)
                · refine ⟨rfl, fun K hK => ?_⟩
                  obtain ⟨_, rfl, e0⟩ := hV 10 (by kernel_rfl) (by kernel_rfl)
                  have e0 := slotE (e0 _ rfl)
                  obtain ⟨_, rfl, e1⟩ := hV 15 (by kernel_rfl) (by kernel_rfl)
                  have e1 := slotE (e1 _ rfl)
                  clear hV hF hS
                  go_simp
                  exact hK _ _ (by first | rfl | (simp only [IntWalk.i64_left, hw1, hw2, hw3, hw4]; rfl)) hC (fun _ _ _ _ _ h => h) (fun _ _ _ h => h)
                · refine ⟨rfl, fun K hK => ?_⟩
                  have e1 : _ = Value.int .i64 p := slotE (hF 12 (by kernel_rfl))
                  clear hV hF hS
                  go_simp
                  exact hK _ _ rfl hC (fun _ _ _ _ _ h => h) (fun _ _ _ h => h)
                · refine ⟨rfl, fun K hK => ?_⟩
                  obtain ⟨_, rfl, e0⟩ := hV 16 (by kernel_rfl) (by kernel_rfl)
                  have e0 := slotE (e0 _ rfl)
                  obtain ⟨_, rfl, e1⟩ := hV 17 (by kernel_rfl) (by kernel_rfl)
                  have e1 := slotE (e1 _ rfl)
                  clear hV hF hS
                  go_simp
                  exact hK _ _ (by first | rfl | (simp only [IntWalk.i64_left, hw1, hw2, hw3, hw4]; rfl)) hC (fun _ _ _ _ _ h => h) (fun _ _ _ h => h)
                · refine ⟨rfl, fun K hK => ?_⟩
                  obtain ⟨_, rfl, e0⟩ := hV 5 (by kernel_rfl) (by kernel_rfl)
                  have e0 := slotE (e0 _ rfl)
                  obtain ⟨_, rfl, e1⟩ := hV 18 (by kernel_rfl) (by kernel_rfl)
                  have e1 := slotE (e1 _ rfl)
                  clear hV hF hS
                  go_simp
                  exact hK _ _ (by first | rfl | (simp only [IntWalk.i64_left, hw1, hw2, hw3, hw4]; rfl)) hC (fun _ _ _ _ _ h => h) (fun _ _ _ h => h)
                · refine ⟨rfl, fun K hK => ?_⟩
                  obtain ⟨_, rfl, e0⟩ := hV 0 (by kernel_rfl) (by kernel_rfl)
                  have e0 := slotE (e0 _ rfl)
                  obtain ⟨_, rfl, e1⟩ := hV 1 (by kernel_rfl) (by kernel_rfl)
                  have e1 := slotE (e1 _ rfl)
                  obtain ⟨_, rfl, e2⟩ := hV 2 (by kernel_rfl) (by kernel_rfl)
                  have e2 := slotE (e2 _ rfl)
                  obtain ⟨_, rfl, e3⟩ := hV 4 (by kernel_rfl) (by kernel_rfl)
                  have e3 := slotE (e3 _ rfl)
                  obtain ⟨_, rfl, e4⟩ := hV 19 (by kernel_rfl) (by kernel_rfl)
                  have e4 := slotE (e4 _ rfl)
                  clear hV hF hS
                  go_simp
                  refine (Hih.out _ hC).mono ?_
                  rintro e w5 hr5
                  obtain ⟨v5, rfl⟩ := hr5.ret
                  have hr6 := hr5.from hC
                  exact hK _ _ hr6 hr6.1 (fun j u hj hk hr h => Kd.mono hr5.1 (Kd.rest (kills := killNo) rfl (by kernel_rfl) hj hk hr) h) (fun _ _ _ h => h)
                · refine ⟨rfl, fun K hK => ?_⟩
                  obtain ⟨u0, h0, e0⟩ := hV 20 (by kernel_rfl) (by kernel_rfl)
                  have e0 := slotE (e0 _ rfl)
                  clear hV hF hS
                  go_simp
                  exact hK _ _ h0 hC (fun _ _ _ _ _ h => h) (fun _ _ _ h => h)
              · intro vs wx hl hC hV
                replace hl : vs.length = 22 := hl
                obtain ⟨v0, vs, rfl, hl0⟩ := cons_of hl
                obtain ⟨v1, vs, rfl, hl1⟩ := cons_of hl0
                obtain ⟨v2, vs, rfl, hl2⟩ := cons_of hl1
                obtain ⟨v3, vs, rfl, hl3⟩ := cons_of hl2
                obtain ⟨v4, vs, rfl, hl4⟩ := cons_of hl3
                obtain ⟨v5, vs, rfl, hl5⟩ := cons_of hl4
                obtain ⟨v6, vs, rfl, hl6⟩ := cons_of hl5
                obtain ⟨v7, vs, rfl, hl7⟩ := cons_of hl6
                obtain ⟨v8, vs, rfl, hl8⟩ := cons_of hl7
                obtain ⟨v9, vs, rfl, hl9⟩ := cons_of hl8
                obtain ⟨v10, vs, rfl, hl10⟩ := cons_of hl9
                obtain ⟨v11, vs, rfl, hl11⟩ := cons_of hl10
                obtain ⟨v12, vs, rfl, hl12⟩ := cons_of hl11
                obtain ⟨v13, vs, rfl, hl13⟩ := cons_of hl12
                obtain ⟨v14, vs, rfl, hl14⟩ := cons_of hl13
                obtain ⟨v15, vs, rfl, hl15⟩ := cons_of hl14
                obtain ⟨v16, vs, rfl, hl16⟩ := cons_of hl15
                obtain ⟨v17, vs, rfl, hl17⟩ := cons_of hl16
                obtain ⟨v18, vs, rfl, hl18⟩ := cons_of hl17
                obtain ⟨v19, vs, rfl, hl19⟩ := cons_of hl18
                obtain ⟨v20, vs, rfl, hl20⟩ := cons_of hl19
                obtain ⟨v21, vs, rfl, hl21⟩ := cons_of hl20
                obtain rfl := nil_of hl21
                have hr9 : RsPost (restF ls ts rows n d (net - sgn * rat * p)) wr (.returned v21) wx := hV 21 (by decide) (by decide)
                have Hr9 := Lib.hid hr9
                clear hV hr9 hC hw1 hw2 hw3 hw4
                simp only [dstsOf, List.map_cons, List.map_nil, puts, Act.put, List.setIfInBounds_toArray, List.set_cons_succ, List.set_cons_zero, Exit.then]
                obtain ⟨r, hr⟩ : ∃ r, restF ls ts rows n d (net - sgn * rat * p) = r := ⟨_, rfl⟩
                rw [hr] at Hr9 Hgn
                have Hr := Lib.hid hr
                clear Hih hr
                obtain ⟨k9, hc9⟩ := Hr9.out
                have hk9 := HkW.out.trans k9
                clear Hr9
                rcases hc9 with ⟨rfl, hv9⟩ | ⟨l, t9, o9, cap, rfl, hv9, hsl9⟩
                · obtain rfl : v21 = .slice none 0 0 := by cases hv9; rfl
                  have hnq : (binOp BinOp.neq 30 (.slice none 0 0) (.slice none 0 0)).run Try.prog wx = .ok (.bool false) wx := run_neq30 none 0 0 wx
                  have hnx := Lib.hid (Hnone.out (by rw [Hgn.out]; rfl))
                  have Hk9 := Lib.hid hk9
                  clear Hnone Hsome Hgn hk9 hv9 k9
                  go_wp2
                  exact ⟨⟨j + 1, hlt, by push_cast; rfl, hnx.out, Hk9.out⟩, by simp [intOf]; omega⟩
                · obtain ⟨a9, rfl, ha9, hsa9⟩ : ∃ a9 : Option Addr, v21 = .slice a9 l.length cap ∧ a9.isNone = false ∧ SlAt wx 2 1 a9 l.length cap (l.map intC) := ⟨some ⟨t9, o9, none⟩, by cases hv9; rfl, rfl, hsl9⟩
                  have hnq : (binOp BinOp.neq 30 (.slice a9 l.length cap) (.slice none 0 0)).run Try.prog wx = .ok (.bool true) wx := by rw [run_neq30, ha9]; rfl
                  have hfound := Lib.hid (Hsome.out (p :: l) (by rw [Hgn.out]; rfl))
                  have Hk9 := Lib.hid hk9
                  have Hsl9 := Lib.hid hsa9
                  have hll : l.length ≤ 4 := rest_le hn4 hkd _ _ Hr.out
                  clear Hnone Hsome Hgn hk9 hv9 k9 hsl9 hsa9
                  go_wp2_with (at_builtin; refine wpList_append_any rfl (.tmp 91) (.tmp 92) 30 rfl 2 i0 (.int .i64 0) 1 8 Try.underlying30 hi0 hz0 hz1 hz2 rfl (by decide) (some ⟨wx.heap.size, 0, none⟩) 1 1 [intC p] rfl (SlAt.one (block_new3 _ _) rfl) a9 l.length cap (l.map intC) rfl (Hsl9.out.kept fun t ht => Below.heap_alloc _ _ _ (Hsl9.out.lt t ht)) (fun u hu => by obtain ⟨z, _, rfl⟩ := List.mem_map.1 hu; rfl) (len_small hll).1 (len_small hll).2 ?_; intro p6 c6 w6 hsl6 hg6 hb6; have H6 := Lib.hid (one_app hsl6 hg6 hb6); clear hsl6 hg6 hb6)
                  go_ret
                  obtain ⟨t6, o6, rfl, k6, s6⟩ := H6.out
                  exact ⟨Hk9.out.trans k6, .inr ⟨p :: l, t6, o6, c6, hfound.out, (by rw [len_cons1]; rfl), by rw [len_cons1]; exact s6⟩⟩
        · by_cases h1 : ask ≤ p
          · have hgn : F p = none := by rw [← HF.out]; exact if_neg (by rw [Htp.out]; simp [custB] <;> omega)
            have hnx := Lib.hid (Hnone.out hgn)
            have HkW := Lib.hid hkW
            clear hgn Hnone Hsome HF Htp Hih hkW hw1 hw2 hw3 hw4
            go_wp2
            exact ⟨⟨j + 1, hlt, by push_cast; rfl, hnx.out, HkW.out⟩, by simp [intOf]; omega⟩
          · cases bc
            · have hgn : F p = (restF ls ts rows n d (net - sgn * rat * p)).map (p :: ·) := by rw [← HF.out, Hcc.out]; exact if_pos (by rw [Htp.out]; simp [custB] <;> omega)
              have Hgn := Lib.hid hgn
              have HkW := Lib.hid hkW
              clear hgn HF Htp hkW
              go_upto_region 10 with fail
              refine wp_region_vals (by kernel_rfl) (by kernel_rfl) (by kernel_rfl) (by kernel_rfl) (Kept (fun _ => False) wr) killNo
                (fun jx => (([.val (Value.slice (some ⟨lb, lo, none⟩) n lc), .val (Value.slice (some ⟨tb, tof, none⟩) n tc), .val (Value.slice (some ⟨rb, ro, none⟩) n rc), .val (Value.int .i64 (k : Int)), .val (Value.int .i64 ((k : Int) + 1)), .val (Value.int .i64 net), .val (Value.slice (some ⟨lb, lo, none⟩) n lc), .val (Value.int .i64 (k : Int)), .val (Value.pointer (some ⟨lb, lo + k * 3, none⟩)), .val (Value.pointer (some ⟨lb, lo + k * 3 + 1, none⟩)), .val (Value.int .i64 sgn), .val (Value.slice (some ⟨lb, lo, none⟩) n lc), .val (Value.int .i64 (k : Int)), .val (Value.pointer (some ⟨lb, lo + k * 3, none⟩)), .val (Value.pointer (some ⟨lb, lo + k * 3 + 2, none⟩)), .val (Value.int .i64 rat), .val (Value.int .i64 (sgn * rat)), .val (Value.int .i64 p), .val (Value.int .i64 (sgn * rat * p)), .val (Value.int .i64 (net - sgn * rat * p)), .vw (fun v w' => RsPost (restF ls ts rows n d (net - sgn * rat * p)) wr (.returned v) w'), .vw (fun v w' => RsPost (restF ls ts rows n d (net - sgn * rat * p)) wr (.returned v) w')] : List Kd).getD jx .any).is wr)
                (fun _ _ => True) ((Kept.refl _ wr).drew) (fun _ => trivial) ?_ ?_
              · refine ⟨?_, ?_, ?_, ?_, ?_, ?_, ?_, ?_, ?_, ?_, ?_, ?_, ?_, ?_, ?_, ?_, ?_, ?_, ?_, ?_, ?_, ?_, trivial⟩
                all_goals (intro act w' hC hS hV hF)
                · refine ⟨rfl, fun K hK => ?_⟩
                  have e1 : _ = Value.slice (some ⟨lb, lo, none⟩) n lc := slotE (hF 0 (by kernel_rfl))
                  clear hV hF hS
                  go_simp
                  exact hK _ _ rfl hC (fun _ _ _ _ _ h => h) (fun _ _ _ h => h)
                · refine ⟨rfl, fun K hK => ?_⟩
                  have e1 : _ = Value.slice (some ⟨tb, tof, none⟩) n tc := slotE (hF 1 (by kernel_rfl))
                  clear hV hF hS
                  go_simp
                  exact hK _ _ rfl hC (fun _ _ _ _ _ h => h) (fun _ _ _ h => h)
                · refine ⟨rfl, fun K hK => ?_⟩
                  have e1 : _ = Value.slice (some ⟨rb, ro, none⟩) n rc := slotE (hF 2 (by kernel_rfl))
                  clear hV hF hS
                  go_simp
                  exact hK _ _ rfl hC (fun _ _ _ _ _ h => h) (fun _ _ _ h => h)
                · refine ⟨rfl, fun K hK => ?_⟩
                  have e1 : _ = Value.int .i64 (k : Int) := slotE (hF 3 (by kernel_rfl))
                  clear hV hF hS
                  go_simp
                  exact hK _ _ rfl hC (fun _ _ _ _ _ h => h) (fun _ _ _ h => h)
                · refine ⟨rfl, fun K hK => ?_⟩
                  obtain ⟨_, rfl, e0⟩ := hV 3 (by kernel_rfl) (by kernel_rfl)
                  have e0 := slotE (e0 _ rfl)
                  clear hV hF hS
                  go_simp
                  exact hK _ _ (by first | rfl | (simp only [IntWalk.i64_left, hw1, hw2, hw3, hw4]; rfl)) hC (fun _ _ _ _ _ h => h) (fun _ _ _ h => h)
                · refine ⟨rfl, fun K hK => ?_⟩
                  have e1 : _ = Value.int .i64 net := slotE (hF 4 (by kernel_rfl))
                  clear hV hF hS
                  go_simp
                  exact hK _ _ rfl hC (fun _ _ _ _ _ h => h) (fun _ _ _ h => h)
                · refine ⟨rfl, fun K hK => ?_⟩
                  have e1 : _ = Value.slice (some ⟨lb, lo, none⟩) n lc := slotE (hF 0 (by kernel_rfl))
                  clear hV hF hS
                  go_simp
                  exact hK _ _ rfl hC (fun _ _ _ _ _ h => h) (fun _ _ _ h => h)
                · refine ⟨rfl, fun K hK => ?_⟩
                  have e1 : _ = Value.int .i64 (k : Int) := slotE (hF 3 (by kernel_rfl))
                  clear hV hF hS
                  go_simp
                  exact hK _ _ rfl hC (fun _ _ _ _ _ h => h) (fun _ _ _ h => h)
                · refine ⟨rfl, fun K hK => ?_⟩
                  obtain ⟨_, rfl, e0⟩ := hV 6 (by kernel_rfl) (by kernel_rfl)
                  have e0 := slotE (e0 _ rfl)
                  obtain ⟨_, rfl, e1⟩ := hV 7 (by kernel_rfl) (by kernel_rfl)
                  have e1 := slotE (e1 _ rfl)
                  clear hV hF hS
                  go_simp
                  exact hK _ _ rfl hC (fun _ _ _ _ _ h => h) (fun _ _ _ h => h)
                · refine ⟨rfl, fun K hK => ?_⟩
                  obtain ⟨_, rfl, e0⟩ := hV 8 (by kernel_rfl) (by kernel_rfl)
                  have e0 := slotE (e0 _ rfl)
                  clear hV hF hS
                  go_simp
                  exact hK _ _ rfl hC (fun _ _ _ _ _ h => h) (fun _ _ _ h => h)
                · refine ⟨rfl, fun K hK => ?_⟩
                  obtain ⟨_, rfl, e0⟩ := hV 9 (by kernel_rfl) (by kernel_rfl)
                  have e0 := slotE (e0 _ rfl)
                  have q1 := cell_kept2 hC d1
                  clear hV hF hS
                  go_simp
                  exact hK _ _ rfl hC (fun _ _ _ _ _ h => h) (fun _ _ _ h => h)
                · refine ⟨rfl, fun K hK => ?_⟩
                  have e1 : _ = Value.slice (some ⟨lb, lo, none⟩) n lc := slotE (hF 0 (by kernel_rfl))
                  clear hV hF hS
                  go_simp
                  exact hK _ _ rfl hC (fun _ _ _ _ _ h => h) (fun _ _ _ h => h)
                · refine ⟨rfl, fun K hK => ?_⟩
                  have e1 : _ = Value.int .i64 (k : Int) := slotE (hF 3 (by kernel_rfl))
                  clear hV hF hS
                  go_simp
                  exact hK _ _ rfl hC (fun _ _ _ _ _ h => h) (fun _ _ _ h => h)
                · refine ⟨rfl, fun K hK => ?_⟩
                  obtain ⟨_, rfl, e0⟩ := hV 11 (by kernel_rfl) (by kernel_rfl)
                  have e0 := slotE (e0 _ rfl)
                  obtain ⟨_, rfl, e1⟩ := hV 12 (by kernel_rfl) (by kernel_rfl)
                  have e1 := slotE (e1 _ rfl)
                  clear hV hF hS
                  go_simp
                  exact hK _ _ rfl hC (fun _ _ _ _ _ h => h) (fun _ _ _ h => h)
                · refine ⟨rfl, fun K hK => ?_⟩
                  obtain ⟨_, rfl, e0⟩ := hV 13 (by kernel_rfl) (by kernel_rfl)
                  have e0 := slotE (e0 _ rfl)
                  clear hV hF hS
                  go_simp
                  exact hK _ _ rfl hC (fun _ _ _ _ _ h => h) (fun _ _ _ h => h)
                · refine ⟨rfl, fun K hK => ?_⟩
                  obtain ⟨_, rfl, e0⟩ := hV 14 (by kernel_rfl) (by kernel_rfl)
                  have e0 := slotE (e0 _ rfl)
                  have q1 := cell_kept2 hC d2
                  clear hV hF hS
                  go_simp
                  exact hK _ _ rfl hC (fun _ _ _ _ _ h => h) (fun _ _ _ h => h)
                · refine ⟨rfl, fun K hK => ?_⟩
                  obtain ⟨_, rfl, e0⟩ := hV 10 (by kernel_rfl) (by kernel_rfl)
                  have e0 := slotE (e0 _ rfl)
                  obtain ⟨_, rfl, e1⟩ := hV 15 (by kernel_rfl) (by kernel_rfl)
                  have e1 := slotE (e1 _ rfl)
                  clear hV hF hS
                  go_simp
                  exact hK _ _ (by first | rfl | (simp only [IntWalk.i64_left, hw1, hw2, hw3, hw4]; rfl)) hC (fun _ _ _ _ _ h => h) (fun _ _ _ h => h)
                · refine ⟨rfl, fun K hK => ?_⟩
                  have e1 : _ = Value.int .i64 p := slotE (hF 12 (by kernel_rfl))
                  clear hV hF hS
                  go_simp
                  exact hK _ _ rfl hC (fun _ _ _ _ _ h => h) (fun _ _ _ h => h)
                · refine ⟨rfl, fun K hK => ?_⟩
                  obtain ⟨_, rfl, e0⟩ := hV 16 (by kernel_rfl) (by kernel_rfl)
                  have e0 := slotE (e0 _ rfl)
                  obtain ⟨_, rfl, e1⟩ := hV 17 (by kernel_rfl) (by kernel_rfl)
                  have e1 := slotE (e1 _ rfl)
                  clear hV hF hS
                  go_simp
                  exact hK _ _ (by first | rfl | (simp only [IntWalk.i64_left, hw1, hw2, hw3, hw4]; rfl)) hC (fun _ _ _ _ _ h => h) (fun _ _ _ h => h)
                · refine ⟨rfl, fun K hK => ?_⟩
                  obtain ⟨_, rfl, e0⟩ := hV 5 (by kernel_rfl) (by kernel_rfl)
                  have e0 := slotE (e0 _ rfl)
                  obtain ⟨_, rfl, e1⟩ := hV 18 (by kernel_rfl) (by kernel_rfl)
                  have e1 := slotE (e1 _ rfl)
                  clear hV hF hS
                  go_simp
                  exact hK _ _ (by first | rfl | (simp only [IntWalk.i64_left, hw1, hw2, hw3, hw4]; rfl)) hC (fun _ _ _ _ _ h => h) (fun _ _ _ h => h)
                · refine ⟨rfl, fun K hK => ?_⟩
                  obtain ⟨_, rfl, e0⟩ := hV 0 (by kernel_rfl) (by kernel_rfl)
                  have e0 := slotE (e0 _ rfl)
                  obtain ⟨_, rfl, e1⟩ := hV 1 (by kernel_rfl) (by kernel_rfl)
                  have e1 := slotE (e1 _ rfl)
                  obtain ⟨_, rfl, e2⟩ := hV 2 (by kernel_rfl) (by kernel_rfl)
                  have e2 := slotE (e2 _ rfl)
                  obtain ⟨_, rfl, e3⟩ := hV 4 (by kernel_rfl) (by kernel_rfl)
                  have e3 := slotE (e3 _ rfl)
                  obtain ⟨_, rfl, e4⟩ := hV 19 (by kernel_rfl) (by kernel_rfl)
                  have e4 := slotE (e4 _ rfl)
                  clear hV hF hS
                  go_simp
                  refine (Hih.out _ hC).mono ?_
                  rintro e w5 hr5
                  obtain ⟨v5, rfl⟩ := hr5.ret
                  have hr6 := hr5.from hC
                  exact hK _ _ hr6 hr6.1 (fun j u hj hk hr h => Kd.mono hr5.1 (Kd.rest (kills := killNo) rfl (by kernel_rfl) hj hk hr) h) (fun _ _ _ h => h)
                · refine ⟨rfl, fun K hK => ?_⟩
                  obtain ⟨u0, h0, e0⟩ := hV 20 (by kernel_rfl) (by kernel_rfl)
                  have e0 := slotE (e0 _ rfl)
                  clear hV hF hS
                  go_simp
                  exact hK _ _ h0 hC (fun _ _ _ _ _ h => h) (fun _ _ _ h => h)
              · intro vs wx hl hC hV
                replace hl : vs.length = 22 := hl
                obtain ⟨v0, vs, rfl, hl0⟩ := cons_of hl
                obtain ⟨v1, vs, rfl, hl1⟩ := cons_of hl0
                obtain ⟨v2, vs, rfl, hl2⟩ := cons_of hl1
                obtain ⟨v3, vs, rfl, hl3⟩ := cons_of hl2
                obtain ⟨v4, vs, rfl, hl4⟩ := cons_of hl3
                obtain ⟨v5, vs, rfl, hl5⟩ := cons_of hl4
                obtain ⟨v6, vs, rfl, hl6⟩ := cons_of hl5
                obtain ⟨v7, vs, rfl, hl7⟩ := cons_of hl6
                obtain ⟨v8, vs, rfl, hl8⟩ := cons_of hl7
                obtain ⟨v9, vs, rfl, hl9⟩ := cons_of hl8
                obtain ⟨v10, vs, rfl, hl10⟩ := cons_of hl9
                obtain ⟨v11, vs, rfl, hl11⟩ := cons_of hl10
                obtain ⟨v12, vs, rfl, hl12⟩ := cons_of hl11
                obtain ⟨v13, vs, rfl, hl13⟩ := cons_of hl12
                obtain ⟨v14, vs, rfl, hl14⟩ := cons_of hl13
                obtain ⟨v15, vs, rfl, hl15⟩ := cons_of hl14
                obtain ⟨v16, vs, rfl, hl16⟩ := cons_of hl15
                obtain ⟨v17, vs, rfl, hl17⟩ := cons_of hl16
                obtain ⟨v18, vs, rfl, hl18⟩ := cons_of hl17
                obtain ⟨v19, vs, rfl, hl19⟩ := cons_of hl18
                obtain ⟨v20, vs, rfl, hl20⟩ := cons_of hl19
                obtain ⟨v21, vs, rfl, hl21⟩ := cons_of hl20
                obtain rfl := nil_of hl21
                have hr9 : RsPost (restF ls ts rows n d (net - sgn * rat * p)) wr (.returned v21) wx := hV 21 (by decide) (by decide)
                have Hr9 := Lib.hid hr9
                clear hV hr9 hC hw1 hw2 hw3 hw4
                simp only [dstsOf, List.map_cons, List.map_nil, puts, Act.put, List.setIfInBounds_toArray, List.set_cons_succ, List.set_cons_zero, Exit.then]
                obtain ⟨r, hr⟩ : ∃ r, restF ls ts rows n d (net - sgn * rat * p) = r := ⟨_, rfl⟩
                rw [hr] at Hr9 Hgn
                have Hr := Lib.hid hr
                clear Hih hr
                obtain ⟨k9, hc9⟩ := Hr9.out
                have hk9 := HkW.out.trans k9
                clear Hr9
                rcases hc9 with ⟨rfl, hv9⟩ | ⟨l, t9, o9, cap, rfl, hv9, hsl9⟩
                · obtain rfl : v21 = .slice none 0 0 := by cases hv9; rfl
                  have hnq : (binOp BinOp.neq 30 (.slice none 0 0) (.slice none 0 0)).run Try.prog wx = .ok (.bool false) wx := run_neq30 none 0 0 wx
                  have hnx := Lib.hid (Hnone.out (by rw [Hgn.out]; rfl))
                  have Hk9 := Lib.hid hk9
                  clear Hnone Hsome Hgn hk9 hv9 k9
                  go_wp2
                  exact ⟨⟨j + 1, hlt, by push_cast; rfl, hnx.out, Hk9.out⟩, by simp [intOf]; omega⟩
                · obtain ⟨a9, rfl, ha9, hsa9⟩ : ∃ a9 : Option Addr, v21 = .slice a9 l.length cap ∧ a9.isNone = false ∧ SlAt wx 2 1 a9 l.length cap (l.map intC) := ⟨some ⟨t9, o9, none⟩, by cases hv9; rfl, rfl, hsl9⟩
                  have hnq : (binOp BinOp.neq 30 (.slice a9 l.length cap) (.slice none 0 0)).run Try.prog wx = .ok (.bool true) wx := by rw [run_neq30, ha9]; rfl
                  have hfound := Lib.hid (Hsome.out (p :: l) (by rw [Hgn.out]; rfl))
                  have Hk9 := Lib.hid hk9
                  have Hsl9 := Lib.hid hsa9
                  have hll : l.length ≤ 4 := rest_le hn4 hkd _ _ Hr.out
                  clear Hnone Hsome Hgn hk9 hv9 k9 hsl9 hsa9
                  go_wp2_with (at_builtin; refine wpList_append_any rfl (.tmp 91) (.tmp 92) 30 rfl 2 i0 (.int .i64 0) 1 8 Try.underlying30 hi0 hz0 hz1 hz2 rfl (by decide) (some ⟨wx.heap.size, 0, none⟩) 1 1 [intC p] rfl (SlAt.one (block_new3 _ _) rfl) a9 l.length cap (l.map intC) rfl (Hsl9.out.kept fun t ht => Below.heap_alloc _ _ _ (Hsl9.out.lt t ht)) (fun u hu => by obtain ⟨z, _, rfl⟩ := List.mem_map.1 hu; rfl) (len_small hll).1 (len_small hll).2 ?_; intro p6 c6 w6 hsl6 hg6 hb6; have H6 := Lib.hid (one_app hsl6 hg6 hb6); clear hsl6 hg6 hb6)
                  go_ret
                  obtain ⟨t6, o6, rfl, k6, s6⟩ := H6.out
                  exact ⟨Hk9.out.trans k6, .inr ⟨p :: l, t6, o6, c6, hfound.out, (by rw [len_cons1]; rfl), by rw [len_cons1]; exact s6⟩⟩
            · by_cases h2 : p ≤ bid
              · have hgn : F p = none := by rw [← HF.out]; exact if_neg (by rw [Htp.out]; simp [custB] <;> omega)
                have hnx := Lib.hid (Hnone.out hgn)
                have HkW := Lib.hid hkW
                clear hgn Hnone Hsome HF Htp Hih hkW hw1 hw2 hw3 hw4
                go_wp2
                exact ⟨⟨j + 1, hlt, by push_cast; rfl, hnx.out, HkW.out⟩, by simp [intOf]; omega⟩
              · have hgn : F p = (restF ls ts rows n d (net - sgn * rat * p)).map (p :: ·) := by rw [← HF.out, Hcc.out]; exact if_pos (by rw [Htp.out]; simp [custB] <;> omega)
                have Hgn := Lib.hid hgn
                have HkW := Lib.hid hkW
                clear hgn HF Htp hkW
                go_upto_region 10 with fail
                refine wp_region_vals (by kernel_rfl) (by kernel_rfl) (by kernel_rfl) (by kernel_rfl) (Kept (fun _ => False) wr) killNo
                  (fun jx => (([.val (Value.slice (some ⟨lb, lo, none⟩) n lc), .val (Value.slice (some ⟨tb, tof, none⟩) n tc), .val (Value.slice (some ⟨rb, ro, none⟩) n rc), .val (Value.int .i64 (k : Int)), .val (Value.int .i64 ((k : Int) + 1)), .val (Value.int .i64 net), .val (Value.slice (some ⟨lb, lo, none⟩) n lc), .val (Value.int .i64 (k : Int)), .val (Value.pointer (some ⟨lb, lo + k * 3, none⟩)), .val (Value.pointer (some ⟨lb, lo + k * 3 + 1, none⟩)), .val (Value.int .i64 sgn), .val (Value.slice (some ⟨lb, lo, none⟩) n lc), .val (Value.int .i64 (k : Int)), .val (Value.pointer (some ⟨lb, lo + k * 3, none⟩)), .val (Value.pointer (some ⟨lb, lo + k * 3 + 2, none⟩)), .val (Value.int .i64 rat), .val (Value.int .i64 (sgn * rat)), .val (Value.int .i64 p), .val (Value.int .i64 (sgn * rat * p)), .val (Value.int .i64 (net - sgn * rat * p)), .vw (fun v w' => RsPost (restF ls ts rows n d (net - sgn * rat * p)) wr (.returned v) w'), .vw (fun v w' => RsPost (restF ls ts rows n d (net - sgn * rat * p)) wr (.returned v) w')] : List Kd).getD jx .any).is wr)
                  (fun _ _ => True) ((Kept.refl _ wr).drew) (fun _ => trivial) ?_ ?_
                · refine ⟨?_, ?_, ?_, ?_, ?_, ?_, ?_, ?_, ?_, ?_, ?_, ?_, ?_, ?_, ?_, ?_, ?_, ?_, ?_, ?_, ?_, ?_, trivial⟩
                  all_goals (intro act w' hC hS hV hF)
                  · refine ⟨rfl, fun K hK => ?_⟩
                    have e1 : _ = Value.slice (some ⟨lb, lo, none⟩) n lc := slotE (hF 0 (by kernel_rfl))
                    clear hV hF hS
                    go_simp
                    exact hK _ _ rfl hC (fun _ _ _ _ _ h => h) (fun _ _ _ h => h)
                  · refine ⟨rfl, fun K hK => ?_⟩
                    have e1 : _ = Value.slice (some ⟨tb, tof, none⟩) n tc := slotE (hF 1 (by kernel_rfl))
                    clear hV hF hS
                    go_simp
                    exact hK _ _ rfl hC (fun _ _ _ _ _ h => h) (fun _ _ _ h => h)
                  · refine ⟨rfl, fun K hK => ?_⟩
                    have e1 : _ = Value.slice (some ⟨rb, ro, none⟩) n rc := slotE (hF 2 (by kernel_rfl))
                    clear hV hF hS
                    go_simp
                    exact hK _ _ rfl hC (fun _ _ _ _ _ h => h) (fun _ _ _ h => h)
                  · refine ⟨rfl, fun K hK => ?_⟩
                    have e1 : _ = Value.int .i64 (k : Int) := slotE (hF 3 (by kernel_rfl))
                    clear hV hF hS
                    go_simp
                    exact hK _ _ rfl hC (fun _ _ _ _ _ h => h) (fun _ _ _ h => h)
                  · refine ⟨rfl, fun K hK => ?_⟩
                    obtain ⟨_, rfl, e0⟩ := hV 3 (by kernel_rfl) (by kernel_rfl)
                    have e0 := slotE (e0 _ rfl)
                    clear hV hF hS
                    go_simp
                    exact hK _ _ (by first | rfl | (simp only [IntWalk.i64_left, hw1, hw2, hw3, hw4]; rfl)) hC (fun _ _ _ _ _ h => h) (fun _ _ _ h => h)
                  · refine ⟨rfl, fun K hK => ?_⟩
                    have e1 : _ = Value.int .i64 net := slotE (hF 4 (by kernel_rfl))
                    clear hV hF hS
                    go_simp
                    exact hK _ _ rfl hC (fun _ _ _ _ _ h => h) (fun _ _ _ h => h)
                  · refine ⟨rfl, fun K hK => ?_⟩
                    have e1 : _ = Value.slice (some ⟨lb, lo, none⟩) n lc := slotE (hF 0 (by kernel_rfl))
                    clear hV hF hS
                    go_simp
                    exact hK _ _ rfl hC (fun _ _ _ _ _ h => h) (fun _ _ _ h => h)
                  · refine ⟨rfl, fun K hK => ?_⟩
                    have e1 : _ = Value.int .i64 (k : Int) := slotE (hF 3 (by kernel_rfl))
                    clear hV hF hS
                    go_simp
                    exact hK _ _ rfl hC (fun _ _ _ _ _ h => h) (fun _ _ _ h => h)
                  · refine ⟨rfl, fun K hK => ?_⟩
                    obtain ⟨_, rfl, e0⟩ := hV 6 (by kernel_rfl) (by kernel_rfl)
                    have e0 := slotE (e0 _ rfl)
                    obtain ⟨_, rfl, e1⟩ := hV 7 (by kernel_rfl) (by kernel_rfl)
                    have e1 := slotE (e1 _ rfl)
                    clear hV hF hS
                    go_simp
                    exact hK _ _ rfl hC (fun _ _ _ _ _ h => h) (fun _ _ _ h => h)
                  · refine ⟨rfl, fun K hK => ?_⟩
                    obtain ⟨_, rfl, e0⟩ := hV 8 (by kernel_rfl) (by kernel_rfl)
                    have e0 := slotE (e0 _ rfl)
                    clear hV hF hS
                    go_simp
                    exact hK _ _ rfl hC (fun _ _ _ _ _ h => h) (fun _ _ _ h => h)
                  · refine ⟨rfl, fun K hK => ?_⟩
                    obtain ⟨_, rfl, e0⟩ := hV 9 (by kernel_rfl) (by kernel_rfl)
                    have e0 := slotE (e0 _ rfl)
                    have q1 := cell_kept2 hC d1
                    clear hV hF hS
                    go_simp
                    exact hK _ _ rfl hC (fun _ _ _ _ _ h => h) (fun _ _ _ h => h)
                  · refine ⟨rfl, fun K hK => ?_⟩
                    have e1 : _ = Value.slice (some ⟨lb, lo, none⟩) n lc := slotE (hF 0 (by kernel_rfl))
                    clear hV hF hS
                    go_simp
                    exact hK _ _ rfl hC (fun _ _ _ _ _ h => h) (fun _ _ _ h => h)
                  · refine ⟨rfl, fun K hK => ?_⟩
                    have e1 : _ = Value.int .i64 (k : Int) := slotE (hF 3 (by kernel_rfl))
                    clear hV hF hS
                    go_simp
                    exact hK _ _ rfl hC (fun _ _ _ _ _ h => h) (fun _ _ _ h => h)
                  · refine ⟨rfl, fun K hK => ?_⟩
                    obtain ⟨_, rfl, e0⟩ := hV 11 (by kernel_rfl) (by kernel_rfl)
                    have e0 := slotE (e0 _ rfl)
                    obtain ⟨_, rfl, e1⟩ := hV 12 (by kernel_rfl) (by kernel_rfl)
                    have e1 := slotE (e1 _ rfl)
                    clear hV hF hS
                    go_simp
                    exact hK _ _ rfl hC (fun _ _ _ _ _ h => h) (fun _ _ _ h => h)
                  · refine ⟨rfl, fun K hK => ?_⟩
                    obtain ⟨_, rfl, e0⟩ := hV 13 (by kernel_rfl) (by kernel_rfl)
                    have e0 := slotE (e0 _ rfl)
                    clear hV hF hS
                    go_simp
                    exact hK _ _ rfl hC (fun _ _ _ _ _ h => h) (fun _ _ _ h => h)
                  · refine ⟨rfl, fun K hK => ?_⟩
                    obtain ⟨_, rfl, e0⟩ := hV 14 (by kernel_rfl) (by kernel_rfl)
                    have e0 := slotE (e0 _ rfl)
                    have q1 := cell_kept2 hC d2
                    clear hV hF hS
                    go_simp
                    exact hK _ _ rfl hC (fun _ _ _ _ _ h => h) (fun _ _ _ h => h)
                  · refine ⟨rfl, fun K hK => ?_⟩
                    obtain ⟨_, rfl, e0⟩ := hV 10 (by kernel_rfl) (by kernel_rfl)
                    have e0 := slotE (e0 _ rfl)
                    obtain ⟨_, rfl, e1⟩ := hV 15 (by kernel_rfl) (by kernel_rfl)
                    have e1 := slotE (e1 _ rfl)
                    clear hV hF hS
                    go_simp
                    exact hK _ _ (by first | rfl | (simp only [IntWalk.i64_left, hw1, hw2, hw3, hw4]; rfl)) hC (fun _ _ _ _ _ h => h) (fun _ _ _ h => h)
                  · refine ⟨rfl, fun K hK => ?_⟩
                    have e1 : _ = Value.int .i64 p := slotE (hF 12 (by kernel_rfl))
                    clear hV hF hS
                    go_simp
                    exact hK _ _ rfl hC (fun _ _ _ _ _ h => h) (fun _ _ _ h => h)
                  · refine ⟨rfl, fun K hK => ?_⟩
                    obtain ⟨_, rfl, e0⟩ := hV 16 (by kernel_rfl) (by kernel_rfl)
                    have e0 := slotE (e0 _ rfl)
                    obtain ⟨_, rfl, e1⟩ := hV 17 (by kernel_rfl) (by kernel_rfl)
                    have e1 := slotE (e1 _ rfl)
                    clear hV hF hS
                    go_simp
                    exact hK _ _ (by first | rfl | (simp only [IntWalk.i64_left, hw1, hw2, hw3, hw4]; rfl)) hC (fun _ _ _ _ _ h => h) (fun _ _ _ h => h)
                  · refine ⟨rfl, fun K hK => ?_⟩
                    obtain ⟨_, rfl, e0⟩ := hV 5 (by kernel_rfl) (by kernel_rfl)
                    have e0 := slotE (e0 _ rfl)
                    obtain ⟨_, rfl, e1⟩ := hV 18 (by kernel_rfl) (by kernel_rfl)
                    have e1 := slotE (e1 _ rfl)
                    clear hV hF hS
                    go_simp
                    exact hK _ _ (by first | rfl | (simp only [IntWalk.i64_left, hw1, hw2, hw3, hw4]; rfl)) hC (fun _ _ _ _ _ h => h) (fun _ _ _ h => h)
                  · refine ⟨rfl, fun K hK => ?_⟩
                    obtain ⟨_, rfl, e0⟩ := hV 0 (by kernel_rfl) (by kernel_rfl)
                    have e0 := slotE (e0 _ rfl)
                    obtain ⟨_, rfl, e1⟩ := hV 1 (by kernel_rfl) (by kernel_rfl)
                    have e1 := slotE (e1 _ rfl)
                    obtain ⟨_, rfl, e2⟩ := hV 2 (by kernel_rfl) (by kernel_rfl)
                    have e2 := slotE (e2 _ rfl)
                    obtain ⟨_, rfl, e3⟩ := hV 4 (by kernel_rfl) (by kernel_rfl)
                    have e3 := slotE (e3 _ rfl)
                    obtain ⟨_, rfl, e4⟩ := hV 19 (by kernel_rfl) (by kernel_rfl)
                    have e4 := slotE (e4 _ rfl)
                    clear hV hF hS
                    go_simp
                    refine (Hih.out _ hC).mono ?_
                    rintro e w5 hr5
                    obtain ⟨v5, rfl⟩ := hr5.ret
                    have hr6 := hr5.from hC
                    exact hK _ _ hr6 hr6.1 (fun j u hj hk hr h => Kd.mono hr5.1 (Kd.rest (kills := killNo) rfl (by kernel_rfl) hj hk hr) h) (fun _ _ _ h => h)
                  · refine ⟨rfl, fun K hK => ?_⟩
                    obtain ⟨u0, h0, e0⟩ := hV 20 (by kernel_rfl) (by kernel_rfl)
                    have e0 := slotE (e0 _ rfl)
                    clear hV hF hS
                    go_simp
                    exact hK _ _ h0 hC (fun _ _ _ _ _ h => h) (fun _ _ _ h => h)
                · intro vs wx hl hC hV
                  replace hl : vs.length = 22 := hl
                  obtain ⟨v0, vs, rfl, hl0⟩ := cons_of hl
                  obtain ⟨v1, vs, rfl, hl1⟩ := cons_of hl0
                  obtain ⟨v2, vs, rfl, hl2⟩ := cons_of hl1
                  obtain ⟨v3, vs, rfl, hl3⟩ := cons_of hl2
                  obtain ⟨v4, vs, rfl, hl4⟩ := cons_of hl3
                  obtain ⟨v5, vs, rfl, hl5⟩ := cons_of hl4
                  obtain ⟨v6, vs, rfl, hl6⟩ := cons_of hl5
                  obtain ⟨v7, vs, rfl, hl7⟩ := cons_of hl6
                  obtain ⟨v8, vs, rfl, hl8⟩ := cons_of hl7
                  obtain ⟨v9, vs, rfl, hl9⟩ := cons_of hl8
                  obtain ⟨v10, vs, rfl, hl10⟩ := cons_of hl9
                  obtain ⟨v11, vs, rfl, hl11⟩ := cons_of hl10
                  obtain ⟨v12, vs, rfl, hl12⟩ := cons_of hl11
                  obtain ⟨v13, vs, rfl, hl13⟩ := cons_of hl12
                  obtain ⟨v14, vs, rfl, hl14⟩ := cons_of hl13
                  obtain ⟨v15, vs, rfl, hl15⟩ := cons_of hl14
                  obtain ⟨v16, vs, rfl, hl16⟩ := cons_of hl15
                  obtain ⟨v17, vs, rfl, hl17⟩ := cons_of hl16
                  obtain ⟨v18, vs, rfl, hl18⟩ := cons_of hl17
                  obtain ⟨v19, vs, rfl, hl19⟩ := cons_of hl18
                  obtain ⟨v20, vs, rfl, hl20⟩ := cons_of hl19
                  obtain ⟨v21, vs, rfl, hl21⟩ := cons_of hl20
                  obtain rfl := nil_of hl21
                  have hr9 : RsPost (restF ls ts rows n d (net - sgn * rat * p)) wr (.returned v21) wx := hV 21 (by decide) (by decide)
                  have Hr9 := Lib.hid hr9
                  clear hV hr9 hC hw1 hw2 hw3 hw4
                  simp only [dstsOf, List.map_cons, List.map_nil, puts, Act.put, List.setIfInBounds_toArray, List.set_cons_succ, List.set_cons_zero, Exit.then]
                  obtain ⟨r, hr⟩ : ∃ r, restF ls ts rows n d (net - sgn * rat * p) = r := ⟨_, rfl⟩
                  rw [hr] at Hr9 Hgn
                  have Hr := Lib.hid hr
                  clear Hih hr
                  obtain ⟨k9, hc9⟩ := Hr9.out
                  have hk9 := HkW.out.trans k9
                  clear Hr9
                  rcases hc9 with ⟨rfl, hv9⟩ | ⟨l, t9, o9, cap, rfl, hv9, hsl9⟩
                  · obtain rfl : v21 = .slice none 0 0 := by cases hv9; rfl
                    have hnq : (binOp BinOp.neq 30 (.slice none 0 0) (.slice none 0 0)).run Try.prog wx = .ok (.bool false) wx := run_neq30 none 0 0 wx
                    have hnx := Lib.hid (Hnone.out (by rw [Hgn.out]; rfl))
                    have Hk9 := Lib.hid hk9
                    clear Hnone Hsome Hgn hk9 hv9 k9
                    go_wp2
                    exact ⟨⟨j + 1, hlt, by push_cast; rfl, hnx.out, Hk9.out⟩, by simp [intOf]; omega⟩
                  · obtain ⟨a9, rfl, ha9, hsa9⟩ : ∃ a9 : Option Addr, v21 = .slice a9 l.length cap ∧ a9.isNone = false ∧ SlAt wx 2 1 a9 l.length cap (l.map intC) := ⟨some ⟨t9, o9, none⟩, by cases hv9; rfl, rfl, hsl9⟩
                    have hnq : (binOp BinOp.neq 30 (.slice a9 l.length cap) (.slice none 0 0)).run Try.prog wx = .ok (.bool true) wx := by rw [run_neq30, ha9]; rfl
                    have hfound := Lib.hid (Hsome.out (p :: l) (by rw [Hgn.out]; rfl))
                    have Hk9 := Lib.hid hk9
                    have Hsl9 := Lib.hid hsa9
                    have hll : l.length ≤ 4 := rest_le hn4 hkd _ _ Hr.out
                    clear Hnone Hsome Hgn hk9 hv9 k9 hsl9 hsa9
                    go_wp2_with (at_builtin; refine wpList_append_any rfl (.tmp 91) (.tmp 92) 30 rfl 2 i0 (.int .i64 0) 1 8 Try.underlying30 hi0 hz0 hz1 hz2 rfl (by decide) (some ⟨wx.heap.size, 0, none⟩) 1 1 [intC p] rfl (SlAt.one (block_new3 _ _) rfl) a9 l.length cap (l.map intC) rfl (Hsl9.out.kept fun t ht => Below.heap_alloc _ _ _ (Hsl9.out.lt t ht)) (fun u hu => by obtain ⟨z, _, rfl⟩ := List.mem_map.1 hu; rfl) (len_small hll).1 (len_small hll).2 ?_; intro p6 c6 w6 hsl6 hg6 hb6; have H6 := Lib.hid (one_app hsl6 hg6 hb6); clear hsl6 hg6 hb6)
                    go_ret
                    obtain ⟨t6, o6, rfl, k6, s6⟩ := H6.out
                    exact ⟨Hk9.out.trans k6, .inr ⟨p :: l, t6, o6, c6, hfound.out, (by rw [len_cons1]; rfl), by rw [len_cons1]; exact s6⟩⟩
      · obtain rfl : j = row.length := by omega
        have hfs := Hfs.out
        rw [List.drop_length] at hfs
        have Hn : Hid (R = none) := hfs.symm
        have HkW := Lib.hid hkW
        clear hfs Hfs hkW HR0 HF HI
        go_wp2
        go_ret
        exact ⟨HkW.out, .inl ⟨Hn.out, rfl⟩⟩
end Go.Proofs.Ytgbdnodkbdkaeaa
