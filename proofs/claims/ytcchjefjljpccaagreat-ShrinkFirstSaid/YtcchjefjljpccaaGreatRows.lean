/-
  No cell of these rows narrows 'for every input' (looked for: loops, veiled, ifaces, maps, wideKeys, modest, calm, conditions, laid).
  DERIVED. THE GIVEN ROWS OF THIS SEAT. 3 by the template 'for every input the law returns true; each argument reads behind the call as it read before'; 0 by the template 'total and deterministic' (their statements: YtcchjefjljpccaaGreatTotals.lean).
  GIVEN WITH THE SEED: the statements are not yours to turn. If you find one false, say at which input.
  Laid BY PROGRAM, IN A SANDBOX (cutbox-rows.mjs): the forced cells as the released guide's own fill.sh prints them over the translation 2af67afefe311e7d… (all of the seat's roots in one cut). By AI agents, Wed Nov 11 2026. No macro, syntax, notation, axiom, sorry.
-/
import Derived.Test.YtcchjefjljpccaaGreatChecked
import GoSem.Claim
import GoSem.ClaimJoined
import GoSem.ClaimMapViews
import Derived.JoinedTies
import Derived.KernelRfl
namespace Go.Proofs.YtcchjefjljpccaaGreat
/- THE CELL 'sum', in the pinned program and in every row, IS THE sha256 OF THE DUMP (.gsa) THAT YtcchjefjljpccaaGreatProg.lean LOADS. Nothing in Lean hashes anything: it is a label: what it is worth is what the hold of that sum in a sandbox is worth. -/
noncomputable def Tryz.pinned : Pinned := { name := "ytcchjefjljpccaagreat", sum := "2af67afefe311e7db2758d5f0ec6507bad8a1e2a92e551fa29c3a1b7801c27b2", checked := Tryz.checked }
namespace Rows
def none {H : Type} : Left H := { results := [], args := [] }

/-- 'spiritlevellaw39.ShrinkStill': WHATEVER THE INPUT: true; the input reads as it did. -/
def shrinkStillSpec : ChangeSpec := { name := "shrinkStill", fn := fun _ => fun
  | [d1, d2, d3, d4, d5] => { results := [.lit (.bool true)], args := [d1, d2, d3, d4, d5] }
  | _ => none }
def shrinkStillRow : OpenClaim := { program := "ytcchjefjljpccaagreat", sum := "2af67afefe311e7db2758d5f0ec6507bad8a1e2a92e551fa29c3a1b7801c27b2", func := "spiritlevel/spiritlevellaw39.ShrinkStill", spec := "shrinkStill", unfollowed := true, recurses := true, apart := false }
def ShrinkStillSaid : Prop := shrinkStillRow.holds Tryz.pinned (OpenSpec.ofChange shrinkStillSpec)

/-- ITS FALSE NEIGHBOUR: 'it returns false'. Refute it at one input. -/
def shrinkStillWrong : ChangeSpec := { name := "shrinkStill", fn := fun _ => fun
  | [d1, d2, d3, d4, d5] => { results := [.lit (.bool false)], args := [d1, d2, d3, d4, d5] }
  | _ => none }
def ShrinkStillWrongFalsely : Prop := shrinkStillRow.holds Tryz.pinned (OpenSpec.ofChange shrinkStillWrong)

/-- 'spiritlevellaw39.ShrinkNames': WHATEVER THE INPUT: true; the input reads as it did. -/
def shrinkNamesSpec : ChangeSpec := { name := "shrinkNames", fn := fun _ => fun
  | [] => { results := [.lit (.bool true)], args := [] }
  | _ => none }
def shrinkNamesRow : OpenClaim := { program := "ytcchjefjljpccaagreat", sum := "2af67afefe311e7db2758d5f0ec6507bad8a1e2a92e551fa29c3a1b7801c27b2", func := "spiritlevel/spiritlevellaw39.ShrinkNames", spec := "shrinkNames", unfollowed := true, recurses := true, apart := false }
def ShrinkNamesSaid : Prop := shrinkNamesRow.holds Tryz.pinned (OpenSpec.ofChange shrinkNamesSpec)

/-- ITS FALSE NEIGHBOUR: 'it returns false'. Refute it at one input. -/
def shrinkNamesWrong : ChangeSpec := { name := "shrinkNames", fn := fun _ => fun
  | [] => { results := [.lit (.bool false)], args := [] }
  | _ => none }
def ShrinkNamesWrongFalsely : Prop := shrinkNamesRow.holds Tryz.pinned (OpenSpec.ofChange shrinkNamesWrong)

/-- 'spiritlevellaw39.ShrinkFirst': WHATEVER THE INPUT: true; the input reads as it did. -/
def shrinkFirstSpec : ChangeSpec := { name := "shrinkFirst", fn := fun _ => fun
  | [d1, d2] => { results := [.lit (.bool true)], args := [d1, d2] }
  | _ => none }
def shrinkFirstRow : OpenClaim := { program := "ytcchjefjljpccaagreat", sum := "2af67afefe311e7db2758d5f0ec6507bad8a1e2a92e551fa29c3a1b7801c27b2", func := "spiritlevel/spiritlevellaw39.ShrinkFirst", spec := "shrinkFirst", unfollowed := true, recurses := true, apart := false }
def ShrinkFirstSaid : Prop := shrinkFirstRow.holds Tryz.pinned (OpenSpec.ofChange shrinkFirstSpec)

/-- ITS FALSE NEIGHBOUR: 'it returns false'. Refute it at one input. -/
def shrinkFirstWrong : ChangeSpec := { name := "shrinkFirst", fn := fun _ => fun
  | [d1, d2] => { results := [.lit (.bool false)], args := [d1, d2] }
  | _ => none }
def ShrinkFirstWrongFalsely : Prop := shrinkFirstRow.holds Tryz.pinned (OpenSpec.ofChange shrinkFirstWrong)

/- THE SECOND FORM. 'bulk': how many values and letters a reading holds, each counted each time it is reached (what is shared counts as often as it is met; a slice's spare places count too). A statement '..UptoSaid' is the law's where the arguments, and the package variables that the reading takes, are together of bulk at most 1048576: NARROWER than '..Said'. Prove '..Said' where nothing that the law and all that it calls make is longer than what came in: it says more and counts as full. Else prove '..UptoSaid'. A law counts once. -/
mutual
def uptoBulk {H : Type} : DataW H → Nat
  | .lit (.string bytes) => bytes.length + 1
  | .lit _ => 1
  | .nil => 1
  | .ptr d => uptoBulk d + 1
  | .slice elems spare => uptoBulkAll elems + uptoBulkAll spare + 1
  | .agg parts => uptoBulkAll parts + 1
  | .iface _ d => uptoBulk d + 1
  | .map entries => uptoBulkEntries entries + 1
  | .held _ => 1
def uptoBulkAll {H : Type} : List (DataW H) → Nat
  | [] => 0
  | d :: r => uptoBulk d + uptoBulkAll r
def uptoBulkEntries {H : Type} : List (Lit × DataW H) → Nat
  | [] => 0
  | x :: r => uptoBulkEntry x + uptoBulkEntries r
def uptoBulkEntry {H : Type} : Lit × DataW H → Nat
  | (.string bytes, d) => bytes.length + uptoBulk d + 1
  | (_, d) => uptoBulk d + 1
 end
def uptoSmall : (H : Type) → List (DataW H) → Bool := fun _ ds => decide (uptoBulkAll ds ≤ 1048576)
def OpenSpec.upto (s : _root_.Go.ChangeSpec) : _root_.Go.OpenSpec := { _root_.Go.OpenSpec.ofChange s with cond := some uptoSmall }

/-- 'spiritlevellaw39.ShrinkStill', WHERE WHAT IT READS IS OF BULK AT MOST 1048576: true; the input reads as it did. -/
def shrinkStillUptoRow : OpenClaim := { program := "ytcchjefjljpccaagreat", sum := "2af67afefe311e7db2758d5f0ec6507bad8a1e2a92e551fa29c3a1b7801c27b2", func := "spiritlevel/spiritlevellaw39.ShrinkStill", spec := "shrinkStill", unfollowed := true, recurses := true, apart := false, narrowed := true }
def ShrinkStillUptoSaid : Prop := shrinkStillUptoRow.holds Tryz.pinned (OpenSpec.upto shrinkStillSpec)

/-- 'spiritlevellaw39.ShrinkNames', WHERE WHAT IT READS IS OF BULK AT MOST 1048576: true; the input reads as it did. -/
def shrinkNamesUptoRow : OpenClaim := { program := "ytcchjefjljpccaagreat", sum := "2af67afefe311e7db2758d5f0ec6507bad8a1e2a92e551fa29c3a1b7801c27b2", func := "spiritlevel/spiritlevellaw39.ShrinkNames", spec := "shrinkNames", unfollowed := true, recurses := true, apart := false, narrowed := true }
def ShrinkNamesUptoSaid : Prop := shrinkNamesUptoRow.holds Tryz.pinned (OpenSpec.upto shrinkNamesSpec)

/-- 'spiritlevellaw39.ShrinkFirst', WHERE WHAT IT READS IS OF BULK AT MOST 1048576: true; the input reads as it did. -/
def shrinkFirstUptoRow : OpenClaim := { program := "ytcchjefjljpccaagreat", sum := "2af67afefe311e7db2758d5f0ec6507bad8a1e2a92e551fa29c3a1b7801c27b2", func := "spiritlevel/spiritlevellaw39.ShrinkFirst", spec := "shrinkFirst", unfollowed := true, recurses := true, apart := false, narrowed := true }
def ShrinkFirstUptoSaid : Prop := shrinkFirstUptoRow.holds Tryz.pinned (OpenSpec.upto shrinkFirstSpec)

end Rows
end Go.Proofs.YtcchjefjljpccaaGreat
