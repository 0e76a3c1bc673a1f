/-
  No cell of these rows narrows 'for every input' (looked for: loops, veiled, ifaces, maps, wideKeys, modest, calm, conditions, laid).
  DERIVED. THE GIVEN ROWS OF THIS SEAT. 4 by the template 'for every input the law returns true; each argument reads behind the call as it read before'; 0 by the template 'total and deterministic' (their statements: YtopfgcnehdjjpaaTotals.lean).
  GIVEN WITH THE SEED: the statements are not yours to turn. If you find one false, say at which input.
  Laid BY PROGRAM, IN A SANDBOX (cutbox-rows.mjs): the forced cells as the released guide's own fill.sh prints them over the translation 466e3992c79850c7… (all of the seat's roots in one cut). By AI agents, Wed Nov 11 2026. No macro, syntax, notation, axiom, sorry.
-/
import Derived.Test.YtopfgcnehdjjpaaChecked
import GoSem.Claim
import GoSem.ClaimJoined
import GoSem.ClaimMapViews
import Derived.JoinedTies
import Derived.KernelRfl
namespace Go.Proofs.Ytopfgcnehdjjpaa
/- THE CELL 'sum', in the pinned program and in every row, IS THE sha256 OF THE DUMP (.gsa) THAT YtopfgcnehdjjpaaProg.lean LOADS. Nothing in Lean hashes anything: it is a label: what it is worth is what the hold of that sum in a sandbox is worth. -/
noncomputable def Try.pinned : Pinned := { name := "ytopfgcnehdjjpaa", sum := "466e3992c79850c7d2553f41639b862e6881f548c123e9c05fe9d8bb3569d2f8", checked := Try.checked }
namespace Rows
def none {H : Type} : Left H := { results := [], args := [] }

/-- 'straddlelaw21.ComplexPlays': WHATEVER THE INPUT: true; the input reads as it did. -/
def complexPlaysSpec : ChangeSpec := { name := "complexPlays", fn := fun _ => fun
  | [d1, d2] => { results := [.lit (.bool true)], args := [d1, d2] }
  | _ => none }
def complexPlaysRow : OpenClaim := { program := "ytopfgcnehdjjpaa", sum := "466e3992c79850c7d2553f41639b862e6881f548c123e9c05fe9d8bb3569d2f8", func := "straddle/straddlelaw21.ComplexPlays", spec := "complexPlays", inPlace := ["slices.overlaps[straddle/cbook.Order]"], unfollowed := true, recurses := true, apart := false }
def ComplexPlaysSaid : Prop := complexPlaysRow.holds Try.pinned (OpenSpec.ofChange complexPlaysSpec)

/-- ITS FALSE NEIGHBOUR: 'it returns false'. Refute it at one input. -/
def complexPlaysWrong : ChangeSpec := { name := "complexPlays", fn := fun _ => fun
  | [d1, d2] => { results := [.lit (.bool false)], args := [d1, d2] }
  | _ => none }
def ComplexPlaysWrongFalsely : Prop := complexPlaysRow.holds Try.pinned (OpenSpec.ofChange complexPlaysWrong)

/-- 'straddlelaw21.ComplexTwo': WHATEVER THE INPUT: true; the input reads as it did. -/
def complexTwoSpec : ChangeSpec := { name := "complexTwo", fn := fun _ => fun
  | [d1, d2, d3] => { results := [.lit (.bool true)], args := [d1, d2, d3] }
  | _ => none }
def complexTwoRow : OpenClaim := { program := "ytopfgcnehdjjpaa", sum := "466e3992c79850c7d2553f41639b862e6881f548c123e9c05fe9d8bb3569d2f8", func := "straddle/straddlelaw21.ComplexTwo", spec := "complexTwo", inPlace := ["slices.overlaps[straddle/cbook.Order]"], unfollowed := true, recurses := true, apart := false }
def ComplexTwoSaid : Prop := complexTwoRow.holds Try.pinned (OpenSpec.ofChange complexTwoSpec)

/-- ITS FALSE NEIGHBOUR: 'it returns false'. Refute it at one input. -/
def complexTwoWrong : ChangeSpec := { name := "complexTwo", fn := fun _ => fun
  | [d1, d2, d3] => { results := [.lit (.bool false)], args := [d1, d2, d3] }
  | _ => none }
def ComplexTwoWrongFalsely : Prop := complexTwoRow.holds Try.pinned (OpenSpec.ofChange complexTwoWrong)

/-- 'straddlelaw21.ComplexFull': WHATEVER THE INPUT: true; the input reads as it did. -/
def complexFullSpec : ChangeSpec := { name := "complexFull", fn := fun _ => fun
  | [d] => { results := [.lit (.bool true)], args := [d] }
  | _ => none }
def complexFullRow : OpenClaim := { program := "ytopfgcnehdjjpaa", sum := "466e3992c79850c7d2553f41639b862e6881f548c123e9c05fe9d8bb3569d2f8", func := "straddle/straddlelaw21.ComplexFull", spec := "complexFull", inPlace := ["slices.overlaps[straddle/cbook.Order]"], unfollowed := true, recurses := true, apart := false }
def ComplexFullSaid : Prop := complexFullRow.holds Try.pinned (OpenSpec.ofChange complexFullSpec)

/-- ITS FALSE NEIGHBOUR: 'it returns false'. Refute it at one input. -/
def complexFullWrong : ChangeSpec := { name := "complexFull", fn := fun _ => fun
  | [d] => { results := [.lit (.bool false)], args := [d] }
  | _ => none }
def ComplexFullWrongFalsely : Prop := complexFullRow.holds Try.pinned (OpenSpec.ofChange complexFullWrong)

/-- 'straddlelaw21.ComplexSides': WHATEVER THE INPUT: true; the input reads as it did. -/
def complexSidesSpec : ChangeSpec := { name := "complexSides", fn := fun _ => fun
  | [d1, d2] => { results := [.lit (.bool true)], args := [d1, d2] }
  | _ => none }
def complexSidesRow : OpenClaim := { program := "ytopfgcnehdjjpaa", sum := "466e3992c79850c7d2553f41639b862e6881f548c123e9c05fe9d8bb3569d2f8", func := "straddle/straddlelaw21.ComplexSides", spec := "complexSides", inPlace := ["slices.overlaps[straddle/cbook.Order]"], unfollowed := true, recurses := true, apart := false }
def ComplexSidesSaid : Prop := complexSidesRow.holds Try.pinned (OpenSpec.ofChange complexSidesSpec)

/-- ITS FALSE NEIGHBOUR: 'it returns false'. Refute it at one input. -/
def complexSidesWrong : ChangeSpec := { name := "complexSides", fn := fun _ => fun
  | [d1, d2] => { results := [.lit (.bool false)], args := [d1, d2] }
  | _ => none }
def ComplexSidesWrongFalsely : Prop := complexSidesRow.holds Try.pinned (OpenSpec.ofChange complexSidesWrong)

/- THE SECOND FORM. 'bulk': how many values and letters a reading holds, each counted each time it is reached (what is shared counts as often as it is met; a slice's spare places count too). A statement '..UptoSaid' is the law's where the arguments, and the package variables that the reading takes, are together of bulk at most 1048576: NARROWER than '..Said'. Prove '..Said' where nothing that the law and all that it calls make is longer than what came in: it says more and counts as full. Else prove '..UptoSaid'. A law counts once. -/
mutual
def uptoBulk {H : Type} : DataW H → Nat
  | .lit (.string bytes) => bytes.length + 1
  | .lit _ => 1
  | .nil => 1
  | .ptr d => uptoBulk d + 1
  | .slice elems spare => uptoBulkAll elems + uptoBulkAll spare + 1
  | .agg parts => uptoBulkAll parts + 1
  | .iface _ d => uptoBulk d + 1
  | .map entries => uptoBulkEntries entries + 1
  | .held _ => 1
def uptoBulkAll {H : Type} : List (DataW H) → Nat
  | [] => 0
  | d :: r => uptoBulk d + uptoBulkAll r
def uptoBulkEntries {H : Type} : List (Lit × DataW H) → Nat
  | [] => 0
  | x :: r => uptoBulkEntry x + uptoBulkEntries r
def uptoBulkEntry {H : Type} : Lit × DataW H → Nat
  | (.string bytes, d) => bytes.length + uptoBulk d + 1
  | (_, d) => uptoBulk d + 1
 end
def uptoSmall : (H : Type) → List (DataW H) → Bool := fun _ ds => decide (uptoBulkAll ds ≤ 1048576)
def OpenSpec.upto (s : _root_.Go.ChangeSpec) : _root_.Go.OpenSpec := { _root_.Go.OpenSpec.ofChange s with cond := some uptoSmall }

/-- 'straddlelaw21.ComplexPlays', WHERE WHAT IT READS IS OF BULK AT MOST 1048576: true; the input reads as it did. -/
def complexPlaysUptoRow : OpenClaim := { program := "ytopfgcnehdjjpaa", sum := "466e3992c79850c7d2553f41639b862e6881f548c123e9c05fe9d8bb3569d2f8", func := "straddle/straddlelaw21.ComplexPlays", spec := "complexPlays", inPlace := ["slices.overlaps[straddle/cbook.Order]"], unfollowed := true, recurses := true, apart := false, narrowed := true }
def ComplexPlaysUptoSaid : Prop := complexPlaysUptoRow.holds Try.pinned (OpenSpec.upto complexPlaysSpec)

/-- 'straddlelaw21.ComplexTwo', WHERE WHAT IT READS IS OF BULK AT MOST 1048576: true; the input reads as it did. -/
def complexTwoUptoRow : OpenClaim := { program := "ytopfgcnehdjjpaa", sum := "466e3992c79850c7d2553f41639b862e6881f548c123e9c05fe9d8bb3569d2f8", func := "straddle/straddlelaw21.ComplexTwo", spec := "complexTwo", inPlace := ["slices.overlaps[straddle/cbook.Order]"], unfollowed := true, recurses := true, apart := false, narrowed := true }
def ComplexTwoUptoSaid : Prop := complexTwoUptoRow.holds Try.pinned (OpenSpec.upto complexTwoSpec)

/-- 'straddlelaw21.ComplexFull', WHERE WHAT IT READS IS OF BULK AT MOST 1048576: true; the input reads as it did. -/
def complexFullUptoRow : OpenClaim := { program := "ytopfgcnehdjjpaa", sum := "466e3992c79850c7d2553f41639b862e6881f548c123e9c05fe9d8bb3569d2f8", func := "straddle/straddlelaw21.ComplexFull", spec := "complexFull", inPlace := ["slices.overlaps[straddle/cbook.Order]"], unfollowed := true, recurses := true, apart := false, narrowed := true }
def ComplexFullUptoSaid : Prop := complexFullUptoRow.holds Try.pinned (OpenSpec.upto complexFullSpec)

/-- 'straddlelaw21.ComplexSides', WHERE WHAT IT READS IS OF BULK AT MOST 1048576: true; the input reads as it did. -/
def complexSidesUptoRow : OpenClaim := { program := "ytopfgcnehdjjpaa", sum := "466e3992c79850c7d2553f41639b862e6881f548c123e9c05fe9d8bb3569d2f8", func := "straddle/straddlelaw21.ComplexSides", spec := "complexSides", inPlace := ["slices.overlaps[straddle/cbook.Order]"], unfollowed := true, recurses := true, apart := false, narrowed := true }
def ComplexSidesUptoSaid : Prop := complexSidesUptoRow.holds Try.pinned (OpenSpec.upto complexSidesSpec)

end Rows
end Go.Proofs.Ytopfgcnehdjjpaa
