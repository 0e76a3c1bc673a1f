/- The walks of the arena: what only reads. -/
import Derived.Test.YtpcoffpdkfbhdaaFa
namespace Go.Proofs.Ytpcoffpdkfbhdaa
open Go.RowKit
variable {w : World} {a bc br fc : Nat} {fa : Option Addr} {S : Ar} {O : Nat → Bool}

theorem in_any (h : ArAt w a bc br fa fc S O) (row : Int) :
    Calls Try.prog 18 #[.pointer (some ⟨a, 0, none⟩), .int .i64 row] w fun e w' => w = w' ∧ e = .returned (.bool (S.inB row)) := by
  have c1 : w.cell? ⟨a, 1, none⟩ = some (.slice (some ⟨br, 0, none⟩) S.R S.R) := by rw [cell_of_block h.st]; rfl
  clear h
  by_cases h0 : 0 ≤ row
  · by_cases h1 : row < S.R
    · have hi : S.inB row = true := by simp [Ar.inB, h0, h1]
      rw [hi]
      clear hi
      go_enter Try.func18, Try.ntmps18
      go_wp2
      go_ret
      exact ⟨rfl, rfl⟩
    · have hi : S.inB row = false := by simp [Ar.inB, h1]
      rw [hi]
      clear hi
      go_enter Try.func18, Try.ntmps18
      go_wp2
      go_ret
      exact ⟨rfl, rfl⟩
  · have hi : S.inB row = false := by simp [Ar.inB, h0]
    rw [hi]
    clear hi
    go_enter Try.func18, Try.ntmps18
    go_wp2
    go_ret
    exact ⟨rfl, rfl⟩

theorem taken_any (h : ArAt w a bc br fa fc S O) (c : Int) :
    Calls Try.prog 20 #[.pointer (some ⟨a, 0, none⟩), .int .i64 c] w fun e w' => w = w' ∧ e = .returned (.bool (S.takenB c)) := by
  have c0 : w.cell? ⟨a, 0, none⟩ = some (.slice (some ⟨bc, 0, none⟩) S.N S.N) := by rw [cell_of_block h.st]; rfl
  have hbn := h.bn
  by_cases h0 : 0 ≤ c
  · by_cases h1 : c < S.N
    · obtain ⟨i, rfl⟩ := Int.eq_ofNat_of_zero_le h0
      have hc : w.cell? ⟨bc, i * 4 + 1, none⟩ = some (.int .i64 (S.cell i).row) := by rw [h.cs.cell (by omega), flatC_at _ _ _ (by decide)]; rfl
      have hi : S.takenB i = ((S.cell i).row != -1) := by simp [Ar.takenB]; omega
      rw [hi]
      clear hi h
      go_enter Try.func20, Try.ntmps20
      go_wp2
      go_ret
      exact ⟨rfl, rfl⟩
    · have hi : S.takenB c = false := by simp [Ar.takenB, h1]
      rw [hi]
      clear hi h
      go_enter Try.func20, Try.ntmps20
      go_wp2
      go_ret
      exact ⟨rfl, rfl⟩
  · have hi : S.takenB c = false := by simp [Ar.takenB, h0]
    rw [hi]
    clear hi h
    go_enter Try.func20, Try.ntmps20
    go_wp2
    go_ret
    exact ⟨rfl, rfl⟩

theorem told_any (c : Int) (w : World) : Calls Try.prog 22 #[.int .i64 c] w fun e w' => w = w' ∧ e = .returned (.tuple #[.int .i64 (toldI c), .bool (toldB c)]) := by
  by_cases h : c = -1
  · subst h
    go_enter Try.func22, Try.ntmps22
    go_wp2
    go_ret2
    exact ⟨rfl, rfl⟩
  · have h1 : (c == -1) = false := by simpa using h
    have h2 : toldI c = c := if_neg h
    have h3 : toldB c = true := by simp [toldB, h]
    rw [h2, h3]
    clear h2 h3 h
    go_enter Try.func22, Try.ntmps22
    go_wp2
    go_ret2
    exact ⟨rfl, rfl⟩

theorem inB_yes {row : Int} (hi : S.inB row = true) : ∃ r : Nat, row = r ∧ r < S.R := by
  simp [Ar.inB] at hi
  exact ⟨row.toNat, by omega, by omega⟩
theorem takenB_yes {c : Int} (hi : S.takenB c = true) : ∃ i : Nat, c = i ∧ i < S.N ∧ (S.cell i).row ≠ -1 := by
  simp [Ar.takenB] at hi
  exact ⟨c.toNat, by omega, by omega, hi.2⟩

theorem front_any (h : ArAt w a bc br fa fc S O) (row : Int) :
    Calls Try.prog 11 #[.pointer (some ⟨a, 0, none⟩), .int .i64 row] w fun e w' => w = w' ∧ e = .returned (.tuple #[.int .i64 (S.frontI row), .bool (S.frontB row)]) := by
  have c1 : w.cell? ⟨a, 1, none⟩ = some (.slice (some ⟨br, 0, none⟩) S.R S.R) := by rw [cell_of_block h.st]; rfl
  have hbr := h.br'
  cases hi : S.inB row with
  | false =>
    have e1 : S.frontI row = 0 := by simp [Ar.frontI, hi]
    have e2 : S.frontB row = false := by simp [Ar.frontB, hi]
    rw [e1, e2]
    have Hi := Lib.hid hi
    clear e1 e2 hi
    go_enter Try.func11, Try.ntmps11
    go_wp2_with fail
    refine (in_any h row).mono ?_
    rintro e w' ⟨rfl, rfl⟩
    rw [Hi.out]
    go_wp2
    go_ret2
    exact ⟨rfl, rfl⟩
  | true =>
    obtain ⟨r, rfl, hr⟩ := inB_yes hi
    have hc : w.cell? ⟨br, r * 3, none⟩ = some (.int .i64 (S.ends r).first) := by have := h.rs.cell (j := r * 3 + 0) (by omega); rw [flatE_at _ _ _ (by decide)] at this; exact this
    have e1 : S.frontI r = toldI (S.ends r).first := by simp [Ar.frontI, hi]
    have e2 : S.frontB r = toldB (S.ends r).first := by simp [Ar.frontB, hi]
    rw [e1, e2]
    have Hi := Lib.hid hi
    clear e1 e2 hi
    go_enter Try.func11, Try.ntmps11
    go_wp2_with fail
    refine (in_any h r).mono ?_
    rintro e w' ⟨rfl, rfl⟩
    rw [Hi.out]
    clear h
    go_wp2_with fail
    refine (told_any _ _).mono ?_
    rintro e w' ⟨rfl, rfl⟩
    go_wp2
    go_ret2
    exact ⟨rfl, rfl⟩

theorem len_any (h : ArAt w a bc br fa fc S O) (row : Int) :
    Calls Try.prog 14 #[.pointer (some ⟨a, 0, none⟩), .int .i64 row] w fun e w' => w = w' ∧ e = .returned (.int .i64 (S.lenI row)) := by
  have c1 : w.cell? ⟨a, 1, none⟩ = some (.slice (some ⟨br, 0, none⟩) S.R S.R) := by rw [cell_of_block h.st]; rfl
  have hbr := h.br'
  cases hi : S.inB row with
  | false =>
    have e1 : S.lenI row = 0 := by simp [Ar.lenI, hi]
    rw [e1]
    have Hi := Lib.hid hi
    clear e1 hi
    go_enter Try.func14, Try.ntmps14
    go_wp2_with fail
    refine (in_any h row).mono ?_
    rintro e w' ⟨rfl, rfl⟩
    rw [Hi.out]
    go_wp2
    go_ret
    exact ⟨rfl, rfl⟩
  | true =>
    obtain ⟨r, rfl, hr⟩ := inB_yes hi
    have hc : w.cell? ⟨br, r * 3 + 2, none⟩ = some (.int .i64 (S.ends r).n) := by rw [h.rs.cell (by omega), flatE_at _ _ _ (by decide)]; rfl
    have e1 : S.lenI r = (S.ends r).n := by simp [Ar.lenI, hi]
    rw [e1]
    have Hi := Lib.hid hi
    clear e1 hi
    go_enter Try.func14, Try.ntmps14
    go_wp2_with fail
    refine (in_any h r).mono ?_
    rintro e w' ⟨rfl, rfl⟩
    rw [Hi.out]
    clear h
    go_wp2
    go_ret
    exact ⟨rfl, rfl⟩

theorem next_any (h : ArAt w a bc br fa fc S O) (c : Int) :
    Calls Try.prog 13 #[.pointer (some ⟨a, 0, none⟩), .int .i64 c] w fun e w' => w = w' ∧ e = .returned (.tuple #[.int .i64 (S.nextI c), .bool (S.nextB c)]) := by
  have c0 : w.cell? ⟨a, 0, none⟩ = some (.slice (some ⟨bc, 0, none⟩) S.N S.N) := by rw [cell_of_block h.st]; rfl
  have hbn := h.bn
  cases hi : S.takenB c with
  | false =>
    have e1 : S.nextI c = 0 := by simp [Ar.nextI, hi]
    have e2 : S.nextB c = false := by simp [Ar.nextB, hi]
    rw [e1, e2]
    have Hi := Lib.hid hi
    clear e1 e2 hi
    go_enter Try.func13, Try.ntmps13
    go_wp2_with fail
    refine (taken_any h c).mono ?_
    rintro e w' ⟨rfl, rfl⟩
    rw [Hi.out]
    go_wp2
    go_ret2
    exact ⟨rfl, rfl⟩
  | true =>
    obtain ⟨i, rfl, hlt, _⟩ := takenB_yes hi
    have hc : w.cell? ⟨bc, i * 4 + 3, none⟩ = some (.int .i64 (S.cell i).next) := by rw [h.cs.cell (by omega), flatC_at _ _ _ (by decide)]; rfl
    have e1 : S.nextI i = toldI (S.cell i).next := by simp [Ar.nextI, hi]
    have e2 : S.nextB i = toldB (S.cell i).next := by simp [Ar.nextB, hi]
    rw [e1, e2]
    have Hi := Lib.hid hi
    clear e1 e2 hi
    go_enter Try.func13, Try.ntmps13
    go_wp2_with fail
    refine (taken_any h i).mono ?_
    rintro e w' ⟨rfl, rfl⟩
    rw [Hi.out]
    clear h
    go_wp2_with fail
    refine (told_any _ _).mono ?_
    rintro e w' ⟨rfl, rfl⟩
    go_wp2
    go_ret2
    exact ⟨rfl, rfl⟩

theorem value_any (h : ArAt w a bc br fa fc S O) (c : Int) :
    Calls Try.prog 12 #[.pointer (some ⟨a, 0, none⟩), .int .i64 c] w fun e w' => w = w' ∧ e = .returned (.tuple #[.int .i64 (S.valI c), .bool (S.takenB c)]) := by
  have c0 : w.cell? ⟨a, 0, none⟩ = some (.slice (some ⟨bc, 0, none⟩) S.N S.N) := by rw [cell_of_block h.st]; rfl
  have hbn := h.bn
  cases hi : S.takenB c with
  | false =>
    have e1 : S.valI c = 0 := by simp [Ar.valI, hi]
    rw [e1]
    have Hi := Lib.hid hi
    clear e1 hi
    go_enter Try.func12, Try.ntmps12
    go_wp2_with fail
    refine (taken_any h c).mono ?_
    rintro e w' ⟨rfl, rfl⟩
    rw [Hi.out]
    go_wp2
    go_ret2
    exact ⟨rfl, rfl⟩
  | true =>
    obtain ⟨i, rfl, hlt, _⟩ := takenB_yes hi
    have hc : w.cell? ⟨bc, i * 4, none⟩ = some (.int .i64 (S.cell i).v) := by have := h.cs.cell (j := i * 4 + 0) (by omega); rw [flatC_at _ _ _ (by decide)] at this; exact this
    have e1 : S.valI i = (S.cell i).v := by simp [Ar.valI, hi]
    rw [e1]
    have Hi := Lib.hid hi
    clear e1 hi
    go_enter Try.func12, Try.ntmps12
    go_wp2_with fail
    refine (taken_any h i).mono ?_
    rintro e w' ⟨rfl, rfl⟩
    rw [Hi.out]
    clear h
    go_wp2
    go_ret2
    exact ⟨rfl, rfl⟩

def FreePost (S : Ar) (w : World) (e : Ending) (w' : World) : Prop := ∃ n, w' = w.drewN n ∧ e = .returned (.int .i64 S.freeI)
theorem free_any (h : ArAt w a bc br fa fc S O) : Calls Try.prog 15 #[.pointer (some ⟨a, 0, none⟩)] w (FreePost S w) := by
  have c0 : w.cell? ⟨a, 0, none⟩ = some (.slice (some ⟨bc, 0, none⟩) S.N S.N) := by rw [cell_of_block h.st]; rfl
  have c2 : w.cell? ⟨a, 2, none⟩ = some (.slice fa S.freed.length fc) := by rw [cell_of_block h.st]; rfl
  have c3 : w.cell? ⟨a, 3, none⟩ = some (.int .i64 S.fresh) := by rw [cell_of_block h.st]; rfl
  obtain ⟨b1, b2⟩ := h.bf
  have b3 := h.bl
  have b4 := h.bn
  have s1 : IntKind.i64.wrap ((S.N : Int) - S.fresh) = (S.N : Int) - S.fresh := IntWalk.i64_in _ (by omega)
  have s2 : IntKind.i64.wrap ((S.N : Int) - S.fresh + S.freed.length) = (S.N : Int) - S.fresh + S.freed.length := IntWalk.i64_in _ (by omega)
  clear h
  go_enter Try.func15, Try.ntmps15
  go_wp2
  go_quiet (fail)
  go_wp2
  go_ret
  exact ⟨_, rfl, rfl⟩
end Go.Proofs.Ytpcoffpdkfbhdaa
