/-
  No cell of these rows narrows 'for every input' (looked for: loops, veiled, ifaces, maps, wideKeys, modest, calm, conditions, laid).
  DERIVED. THE GIVEN ROWS OF THIS SEAT. 5 by the template 'for every input the law returns true; each argument reads behind the call as it read before'; 0 by the template 'total and deterministic' (their statements: YtgbdnodkbdkaeaaTotals.lean).
  GIVEN WITH THE SEED: the statements are not yours to turn. If you find one false, say at which input.
  Laid BY PROGRAM, IN A SANDBOX (cutbox-rows.mjs): the forced cells as the released guide's own fill.sh prints them over the translation 87e5ca8e94cffb62… (all of the seat's roots in one cut). By AI agents, Wed Nov 11 2026. No macro, syntax, notation, axiom, sorry.
-/
import Derived.Test.YtgbdnodkbdkaeaaChecked
import GoSem.Claim
import GoSem.ClaimJoined
import GoSem.ClaimMapViews
import Derived.JoinedTies
import Derived.KernelRfl
namespace Go.Proofs.Ytgbdnodkbdkaeaa
/- THE CELL 'sum', in the pinned program and in every row, IS THE sha256 OF THE DUMP (.gsa) THAT YtgbdnodkbdkaeaaProg.lean LOADS. Nothing in Lean hashes anything: it is a label: what it is worth is what the hold of that sum in a sandbox is worth. -/
noncomputable def Try.pinned : Pinned := { name := "ytgbdnodkbdkaeaa", sum := "87e5ca8e94cffb62670bd0a8e17f759b1dad0a3460eeda8a91d4d4eddc3a62ce", checked := Try.checked }
namespace Rows
def none {H : Type} : Left H := { results := [], args := [] }

/-- 'straddlelaw20.AllocAny': WHATEVER THE INPUT: true; the input reads as it did. -/
def allocAnySpec : ChangeSpec := { name := "allocAny", fn := fun _ => fun
  | [d1, d2, d3, d4] => { results := [.lit (.bool true)], args := [d1, d2, d3, d4] }
  | _ => none }
def allocAnyRow : OpenClaim := { program := "ytgbdnodkbdkaeaa", sum := "87e5ca8e94cffb62670bd0a8e17f759b1dad0a3460eeda8a91d4d4eddc3a62ce", func := "straddle/straddlelaw20.AllocAny", spec := "allocAny", unfollowed := true, recurses := true, apart := false }
def AllocAnySaid : Prop := allocAnyRow.holds Try.pinned (OpenSpec.ofChange allocAnySpec)

/-- ITS FALSE NEIGHBOUR: 'it returns false'. Refute it at one input. -/
def allocAnyWrong : ChangeSpec := { name := "allocAny", fn := fun _ => fun
  | [d1, d2, d3, d4] => { results := [.lit (.bool false)], args := [d1, d2, d3, d4] }
  | _ => none }
def AllocAnyWrongFalsely : Prop := allocAnyRow.holds Try.pinned (OpenSpec.ofChange allocAnyWrong)

/-- 'straddlelaw20.AllocRight': WHATEVER THE INPUT: true; the input reads as it did. -/
def allocRightSpec : ChangeSpec := { name := "allocRight", fn := fun _ => fun
  | [d1, d2, d3, d4, d5] => { results := [.lit (.bool true)], args := [d1, d2, d3, d4, d5] }
  | _ => none }
def allocRightRow : OpenClaim := { program := "ytgbdnodkbdkaeaa", sum := "87e5ca8e94cffb62670bd0a8e17f759b1dad0a3460eeda8a91d4d4eddc3a62ce", func := "straddle/straddlelaw20.AllocRight", spec := "allocRight", unfollowed := true, recurses := true, apart := false }
def AllocRightSaid : Prop := allocRightRow.holds Try.pinned (OpenSpec.ofChange allocRightSpec)

/-- ITS FALSE NEIGHBOUR: 'it returns false'. Refute it at one input. -/
def allocRightWrong : ChangeSpec := { name := "allocRight", fn := fun _ => fun
  | [d1, d2, d3, d4, d5] => { results := [.lit (.bool false)], args := [d1, d2, d3, d4, d5] }
  | _ => none }
def AllocRightWrongFalsely : Prop := allocRightRow.holds Try.pinned (OpenSpec.ofChange allocRightWrong)

/-- 'straddlelaw20.AllocOne': WHATEVER THE INPUT: true; the input reads as it did. -/
def allocOneSpec : ChangeSpec := { name := "allocOne", fn := fun _ => fun
  | [d1, d2, d3, d4] => { results := [.lit (.bool true)], args := [d1, d2, d3, d4] }
  | _ => none }
def allocOneRow : OpenClaim := { program := "ytgbdnodkbdkaeaa", sum := "87e5ca8e94cffb62670bd0a8e17f759b1dad0a3460eeda8a91d4d4eddc3a62ce", func := "straddle/straddlelaw20.AllocOne", spec := "allocOne", unfollowed := true, recurses := true, apart := false }
def AllocOneSaid : Prop := allocOneRow.holds Try.pinned (OpenSpec.ofChange allocOneSpec)

/-- ITS FALSE NEIGHBOUR: 'it returns false'. Refute it at one input. -/
def allocOneWrong : ChangeSpec := { name := "allocOne", fn := fun _ => fun
  | [d1, d2, d3, d4] => { results := [.lit (.bool false)], args := [d1, d2, d3, d4] }
  | _ => none }
def AllocOneWrongFalsely : Prop := allocOneRow.holds Try.pinned (OpenSpec.ofChange allocOneWrong)

/-- 'straddlelaw20.AllocEnds': WHATEVER THE INPUT: true; the input reads as it did. -/
def allocEndsSpec : ChangeSpec := { name := "allocEnds", fn := fun _ => fun
  | [d1, d2] => { results := [.lit (.bool true)], args := [d1, d2] }
  | _ => none }
def allocEndsRow : OpenClaim := { program := "ytgbdnodkbdkaeaa", sum := "87e5ca8e94cffb62670bd0a8e17f759b1dad0a3460eeda8a91d4d4eddc3a62ce", func := "straddle/straddlelaw20.AllocEnds", spec := "allocEnds", unfollowed := true, recurses := true, apart := false }
def AllocEndsSaid : Prop := allocEndsRow.holds Try.pinned (OpenSpec.ofChange allocEndsSpec)

/-- ITS FALSE NEIGHBOUR: 'it returns false'. Refute it at one input. -/
def allocEndsWrong : ChangeSpec := { name := "allocEnds", fn := fun _ => fun
  | [d1, d2] => { results := [.lit (.bool false)], args := [d1, d2] }
  | _ => none }
def AllocEndsWrongFalsely : Prop := allocEndsRow.holds Try.pinned (OpenSpec.ofChange allocEndsWrong)

/-- 'straddlelaw20.AllocBetween': WHATEVER THE INPUT: true; the input reads as it did. -/
def allocBetweenSpec : ChangeSpec := { name := "allocBetween", fn := fun _ => fun
  | [d1, d2, d3] => { results := [.lit (.bool true)], args := [d1, d2, d3] }
  | _ => none }
def allocBetweenRow : OpenClaim := { program := "ytgbdnodkbdkaeaa", sum := "87e5ca8e94cffb62670bd0a8e17f759b1dad0a3460eeda8a91d4d4eddc3a62ce", func := "straddle/straddlelaw20.AllocBetween", spec := "allocBetween", unfollowed := true, recurses := true, apart := false }
def AllocBetweenSaid : Prop := allocBetweenRow.holds Try.pinned (OpenSpec.ofChange allocBetweenSpec)

/-- ITS FALSE NEIGHBOUR: 'it returns false'. Refute it at one input. -/
def allocBetweenWrong : ChangeSpec := { name := "allocBetween", fn := fun _ => fun
  | [d1, d2, d3] => { results := [.lit (.bool false)], args := [d1, d2, d3] }
  | _ => none }
def AllocBetweenWrongFalsely : Prop := allocBetweenRow.holds Try.pinned (OpenSpec.ofChange allocBetweenWrong)

/- THE SECOND FORM. 'bulk': how many values and letters a reading holds, each counted each time it is reached (what is shared counts as often as it is met; a slice's spare places count too). A statement '..UptoSaid' is the law's where the arguments, and the package variables that the reading takes, are together of bulk at most 1048576: NARROWER than '..Said'. Prove '..Said' where nothing that the law and all that it calls make is longer than what came in: it says more and counts as full. Else prove '..UptoSaid'. A law counts once. -/
mutual
def uptoBulk {H : Type} : DataW H → Nat
  | .lit (.string bytes) => bytes.length + 1
  | .lit _ => 1
  | .nil => 1
  | .ptr d => uptoBulk d + 1
  | .slice elems spare => uptoBulkAll elems + uptoBulkAll spare + 1
  | .agg parts => uptoBulkAll parts + 1
  | .iface _ d => uptoBulk d + 1
  | .map entries => uptoBulkEntries entries + 1
  | .held _ => 1
def uptoBulkAll {H : Type} : List (DataW H) → Nat
  | [] => 0
  | d :: r => uptoBulk d + uptoBulkAll r
def uptoBulkEntries {H : Type} : List (Lit × DataW H) → Nat
  | [] => 0
  | x :: r => uptoBulkEntry x + uptoBulkEntries r
def uptoBulkEntry {H : Type} : Lit × DataW H → Nat
  | (.string bytes, d) => bytes.length + uptoBulk d + 1
  | (_, d) => uptoBulk d + 1
 end
def uptoSmall : (H : Type) → List (DataW H) → Bool := fun _ ds => decide (uptoBulkAll ds ≤ 1048576)
def OpenSpec.upto (s : _root_.Go.ChangeSpec) : _root_.Go.OpenSpec := { _root_.Go.OpenSpec.ofChange s with cond := some uptoSmall }

/-- 'straddlelaw20.AllocAny', WHERE WHAT IT READS IS OF BULK AT MOST 1048576: true; the input reads as it did. -/
def allocAnyUptoRow : OpenClaim := { program := "ytgbdnodkbdkaeaa", sum := "87e5ca8e94cffb62670bd0a8e17f759b1dad0a3460eeda8a91d4d4eddc3a62ce", func := "straddle/straddlelaw20.AllocAny", spec := "allocAny", unfollowed := true, recurses := true, apart := false, narrowed := true }
def AllocAnyUptoSaid : Prop := allocAnyUptoRow.holds Try.pinned (OpenSpec.upto allocAnySpec)

/-- 'straddlelaw20.AllocRight', WHERE WHAT IT READS IS OF BULK AT MOST 1048576: true; the input reads as it did. -/
def allocRightUptoRow : OpenClaim := { program := "ytgbdnodkbdkaeaa", sum := "87e5ca8e94cffb62670bd0a8e17f759b1dad0a3460eeda8a91d4d4eddc3a62ce", func := "straddle/straddlelaw20.AllocRight", spec := "allocRight", unfollowed := true, recurses := true, apart := false, narrowed := true }
def AllocRightUptoSaid : Prop := allocRightUptoRow.holds Try.pinned (OpenSpec.upto allocRightSpec)

/-- 'straddlelaw20.AllocOne', WHERE WHAT IT READS IS OF BULK AT MOST 1048576: true; the input reads as it did. -/
def allocOneUptoRow : OpenClaim := { program := "ytgbdnodkbdkaeaa", sum := "87e5ca8e94cffb62670bd0a8e17f759b1dad0a3460eeda8a91d4d4eddc3a62ce", func := "straddle/straddlelaw20.AllocOne", spec := "allocOne", unfollowed := true, recurses := true, apart := false, narrowed := true }
def AllocOneUptoSaid : Prop := allocOneUptoRow.holds Try.pinned (OpenSpec.upto allocOneSpec)

/-- 'straddlelaw20.AllocEnds', WHERE WHAT IT READS IS OF BULK AT MOST 1048576: true; the input reads as it did. -/
def allocEndsUptoRow : OpenClaim := { program := "ytgbdnodkbdkaeaa", sum := "87e5ca8e94cffb62670bd0a8e17f759b1dad0a3460eeda8a91d4d4eddc3a62ce", func := "straddle/straddlelaw20.AllocEnds", spec := "allocEnds", unfollowed := true, recurses := true, apart := false, narrowed := true }
def AllocEndsUptoSaid : Prop := allocEndsUptoRow.holds Try.pinned (OpenSpec.upto allocEndsSpec)

/-- 'straddlelaw20.AllocBetween', WHERE WHAT IT READS IS OF BULK AT MOST 1048576: true; the input reads as it did. -/
def allocBetweenUptoRow : OpenClaim := { program := "ytgbdnodkbdkaeaa", sum := "87e5ca8e94cffb62670bd0a8e17f759b1dad0a3460eeda8a91d4d4eddc3a62ce", func := "straddle/straddlelaw20.AllocBetween", spec := "allocBetween", unfollowed := true, recurses := true, apart := false, narrowed := true }
def AllocBetweenUptoSaid : Prop := allocBetweenUptoRow.holds Try.pinned (OpenSpec.upto allocBetweenSpec)

end Rows
end Go.Proofs.Ytgbdnodkbdkaeaa
