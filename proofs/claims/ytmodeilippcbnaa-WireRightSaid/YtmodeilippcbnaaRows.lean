/-
  No cell of these rows narrows 'for every input' (looked for: loops, veiled, ifaces, maps, wideKeys, modest, calm, conditions, laid).
  DERIVED. THE GIVEN ROWS OF THIS SEAT. 4 by the template 'for every input the law returns true; each argument reads behind the call as it read before'; 0 by the template 'total and deterministic' (their statements: YtmodeilippcbnaaTotals.lean).
  GIVEN WITH THE SEED: the statements are not yours to turn. If you find one false, say at which input.
  Laid BY PROGRAM, IN A SANDBOX (cutbox-rows.mjs): the forced cells as the released guide's own fill.sh prints them over the translation 024a83aa6df44139… (all of the seat's roots in one cut). By AI agents, Wed Nov 11 2026. No macro, syntax, notation, axiom, sorry.
-/
import Derived.Test.YtmodeilippcbnaaChecked
import GoSem.Claim
import GoSem.ClaimJoined
import GoSem.ClaimMapViews
import Derived.JoinedTies
import Derived.KernelRfl
namespace Go.Proofs.Ytmodeilippcbnaa
/- THE CELL 'sum', in the pinned program and in every row, IS THE sha256 OF THE DUMP (.gsa) THAT YtmodeilippcbnaaProg.lean LOADS. Nothing in Lean hashes anything: it is a label: what it is worth is what the hold of that sum in a sandbox is worth. -/
noncomputable def Try.pinned : Pinned := { name := "ytmodeilippcbnaa", sum := "024a83aa6df44139f82658286d719b8a09bad905a14bbc5d58ac583d4b187fcf", checked := Try.checked }
namespace Rows
def none {H : Type} : Left H := { results := [], args := [] }

/-- 'bautalaw22.WireExpands': WHATEVER THE INPUT: true; the input reads as it did. -/
def wireExpandsSpec : ChangeSpec := { name := "wireExpands", fn := fun _ => fun
  | [d1, d2] => { results := [.lit (.bool true)], args := [d1, d2] }
  | _ => none }
def wireExpandsRow : OpenClaim := { program := "ytmodeilippcbnaa", sum := "024a83aa6df44139f82658286d719b8a09bad905a14bbc5d58ac583d4b187fcf", func := "bauta/bautalaw22.WireExpands", spec := "wireExpands", unfollowed := true, recurses := true, apart := false }
def WireExpandsSaid : Prop := wireExpandsRow.holds Try.pinned (OpenSpec.ofChange wireExpandsSpec)

/-- ITS FALSE NEIGHBOUR: 'it returns false'. Refute it at one input. -/
def wireExpandsWrong : ChangeSpec := { name := "wireExpands", fn := fun _ => fun
  | [d1, d2] => { results := [.lit (.bool false)], args := [d1, d2] }
  | _ => none }
def WireExpandsWrongFalsely : Prop := wireExpandsRow.holds Try.pinned (OpenSpec.ofChange wireExpandsWrong)

/-- 'bautalaw22.WireRandoms': WHATEVER THE INPUT: true; the input reads as it did. -/
def wireRandomsSpec : ChangeSpec := { name := "wireRandoms", fn := fun _ => fun
  | [d1, d2] => { results := [.lit (.bool true)], args := [d1, d2] }
  | _ => none }
def wireRandomsRow : OpenClaim := { program := "ytmodeilippcbnaa", sum := "024a83aa6df44139f82658286d719b8a09bad905a14bbc5d58ac583d4b187fcf", func := "bauta/bautalaw22.WireRandoms", spec := "wireRandoms", unfollowed := true, recurses := true, apart := false }
def WireRandomsSaid : Prop := wireRandomsRow.holds Try.pinned (OpenSpec.ofChange wireRandomsSpec)

/-- ITS FALSE NEIGHBOUR: 'it returns false'. Refute it at one input. -/
def wireRandomsWrong : ChangeSpec := { name := "wireRandoms", fn := fun _ => fun
  | [d1, d2] => { results := [.lit (.bool false)], args := [d1, d2] }
  | _ => none }
def WireRandomsWrongFalsely : Prop := wireRandomsRow.holds Try.pinned (OpenSpec.ofChange wireRandomsWrong)

/-- 'bautalaw22.WireWords': WHATEVER THE INPUT: true; the input reads as it did. -/
def wireWordsSpec : ChangeSpec := { name := "wireWords", fn := fun _ => fun
  | [d1, d2, d3] => { results := [.lit (.bool true)], args := [d1, d2, d3] }
  | _ => none }
def wireWordsRow : OpenClaim := { program := "ytmodeilippcbnaa", sum := "024a83aa6df44139f82658286d719b8a09bad905a14bbc5d58ac583d4b187fcf", func := "bauta/bautalaw22.WireWords", spec := "wireWords", unfollowed := true, recurses := true, apart := false }
def WireWordsSaid : Prop := wireWordsRow.holds Try.pinned (OpenSpec.ofChange wireWordsSpec)

/-- ITS FALSE NEIGHBOUR: 'it returns false'. Refute it at one input. -/
def wireWordsWrong : ChangeSpec := { name := "wireWords", fn := fun _ => fun
  | [d1, d2, d3] => { results := [.lit (.bool false)], args := [d1, d2, d3] }
  | _ => none }
def WireWordsWrongFalsely : Prop := wireWordsRow.holds Try.pinned (OpenSpec.ofChange wireWordsWrong)

/-- 'bautalaw22.WireRight': WHATEVER THE INPUT: true; the input reads as it did. -/
def wireRightSpec : ChangeSpec := { name := "wireRight", fn := fun _ => fun
  | [d1, d2, d3] => { results := [.lit (.bool true)], args := [d1, d2, d3] }
  | _ => none }
def wireRightRow : OpenClaim := { program := "ytmodeilippcbnaa", sum := "024a83aa6df44139f82658286d719b8a09bad905a14bbc5d58ac583d4b187fcf", func := "bauta/bautalaw22.WireRight", spec := "wireRight", unfollowed := true, recurses := true, apart := false }
def WireRightSaid : Prop := wireRightRow.holds Try.pinned (OpenSpec.ofChange wireRightSpec)

/-- ITS FALSE NEIGHBOUR: 'it returns false'. Refute it at one input. -/
def wireRightWrong : ChangeSpec := { name := "wireRight", fn := fun _ => fun
  | [d1, d2, d3] => { results := [.lit (.bool false)], args := [d1, d2, d3] }
  | _ => none }
def WireRightWrongFalsely : Prop := wireRightRow.holds Try.pinned (OpenSpec.ofChange wireRightWrong)

/- THE SECOND FORM. 'bulk': how many values and letters a reading holds, each counted each time it is reached (what is shared counts as often as it is met; a slice's spare places count too). A statement '..UptoSaid' is the law's where the arguments, and the package variables that the reading takes, are together of bulk at most 1048576: NARROWER than '..Said'. Prove '..Said' where nothing that the law and all that it calls make is longer than what came in: it says more and counts as full. Else prove '..UptoSaid'. A law counts once. -/
mutual
def uptoBulk {H : Type} : DataW H → Nat
  | .lit (.string bytes) => bytes.length + 1
  | .lit _ => 1
  | .nil => 1
  | .ptr d => uptoBulk d + 1
  | .slice elems spare => uptoBulkAll elems + uptoBulkAll spare + 1
  | .agg parts => uptoBulkAll parts + 1
  | .iface _ d => uptoBulk d + 1
  | .map entries => uptoBulkEntries entries + 1
  | .held _ => 1
def uptoBulkAll {H : Type} : List (DataW H) → Nat
  | [] => 0
  | d :: r => uptoBulk d + uptoBulkAll r
def uptoBulkEntries {H : Type} : List (Lit × DataW H) → Nat
  | [] => 0
  | x :: r => uptoBulkEntry x + uptoBulkEntries r
def uptoBulkEntry {H : Type} : Lit × DataW H → Nat
  | (.string bytes, d) => bytes.length + uptoBulk d + 1
  | (_, d) => uptoBulk d + 1
 end
def uptoSmall : (H : Type) → List (DataW H) → Bool := fun _ ds => decide (uptoBulkAll ds ≤ 1048576)
def OpenSpec.upto (s : _root_.Go.ChangeSpec) : _root_.Go.OpenSpec := { _root_.Go.OpenSpec.ofChange s with cond := some uptoSmall }

/-- 'bautalaw22.WireExpands', WHERE WHAT IT READS IS OF BULK AT MOST 1048576: true; the input reads as it did. -/
def wireExpandsUptoRow : OpenClaim := { program := "ytmodeilippcbnaa", sum := "024a83aa6df44139f82658286d719b8a09bad905a14bbc5d58ac583d4b187fcf", func := "bauta/bautalaw22.WireExpands", spec := "wireExpands", unfollowed := true, recurses := true, apart := false, narrowed := true }
def WireExpandsUptoSaid : Prop := wireExpandsUptoRow.holds Try.pinned (OpenSpec.upto wireExpandsSpec)

/-- 'bautalaw22.WireRandoms', WHERE WHAT IT READS IS OF BULK AT MOST 1048576: true; the input reads as it did. -/
def wireRandomsUptoRow : OpenClaim := { program := "ytmodeilippcbnaa", sum := "024a83aa6df44139f82658286d719b8a09bad905a14bbc5d58ac583d4b187fcf", func := "bauta/bautalaw22.WireRandoms", spec := "wireRandoms", unfollowed := true, recurses := true, apart := false, narrowed := true }
def WireRandomsUptoSaid : Prop := wireRandomsUptoRow.holds Try.pinned (OpenSpec.upto wireRandomsSpec)

/-- 'bautalaw22.WireWords', WHERE WHAT IT READS IS OF BULK AT MOST 1048576: true; the input reads as it did. -/
def wireWordsUptoRow : OpenClaim := { program := "ytmodeilippcbnaa", sum := "024a83aa6df44139f82658286d719b8a09bad905a14bbc5d58ac583d4b187fcf", func := "bauta/bautalaw22.WireWords", spec := "wireWords", unfollowed := true, recurses := true, apart := false, narrowed := true }
def WireWordsUptoSaid : Prop := wireWordsUptoRow.holds Try.pinned (OpenSpec.upto wireWordsSpec)

/-- 'bautalaw22.WireRight', WHERE WHAT IT READS IS OF BULK AT MOST 1048576: true; the input reads as it did. -/
def wireRightUptoRow : OpenClaim := { program := "ytmodeilippcbnaa", sum := "024a83aa6df44139f82658286d719b8a09bad905a14bbc5d58ac583d4b187fcf", func := "bauta/bautalaw22.WireRight", spec := "wireRight", unfollowed := true, recurses := true, apart := false, narrowed := true }
def WireRightUptoSaid : Prop := wireRightUptoRow.holds Try.pinned (OpenSpec.upto wireRightSpec)

end Rows
end Go.Proofs.Ytmodeilippcbnaa
