/-
  No cell of these rows narrows 'for every input' (looked for: loops, veiled, ifaces, maps, wideKeys, modest, calm, conditions, laid).
  DERIVED. THE GIVEN ROWS OF THIS SEAT. 9 by the template 'for every input the law returns true; each argument reads behind the call as it read before'; 0 by the template 'total and deterministic' (their statements: YtgnagbbdnlmgeaaGreatTotals.lean).
  GIVEN WITH THE SEED: the statements are not yours to turn. If you find one false, say at which input.
  Laid BY PROGRAM, IN A SANDBOX (cutbox-rows.mjs): the forced cells as the released guide's own fill.sh prints them over the translation c015e8495ebec17f… (all of the seat's roots in one cut). By AI agents, Wed Nov 11 2026. No macro, syntax, notation, axiom, sorry.
-/
import Derived.Test.YtgnagbbdnlmgeaaGreatChecked
import GoSem.Claim
import GoSem.ClaimJoined
import GoSem.ClaimMapViews
import Derived.JoinedTies
import Derived.KernelRfl
namespace Go.Proofs.YtgnagbbdnlmgeaaGreat
/- THE CELL 'sum', in the pinned program and in every row, IS THE sha256 OF THE DUMP (.gsa) THAT YtgnagbbdnlmgeaaGreatProg.lean LOADS. Nothing in Lean hashes anything: it is a label: what it is worth is what the hold of that sum in a sandbox is worth. -/
noncomputable def Tryz.pinned : Pinned := { name := "ytgnagbbdnlmgeaagreat", sum := "c015e8495ebec17fe6f33182359cbaba6a570c4208ceeed038766d78e4841552", checked := Tryz.checked }
namespace Rows
def none {H : Type} : Left H := { results := [], args := [] }

/-- 'cantlelaw15.VolumeReads': WHATEVER THE INPUT: true; the input reads as it did. -/
def volumeReadsSpec : ChangeSpec := { name := "volumeReads", fn := fun _ => fun
  | [d1, d2] => { results := [.lit (.bool true)], args := [d1, d2] }
  | _ => none }
def volumeReadsRow : OpenClaim := { program := "ytgnagbbdnlmgeaagreat", sum := "c015e8495ebec17fe6f33182359cbaba6a570c4208ceeed038766d78e4841552", func := "cantle/cantlelaw15.VolumeReads", spec := "volumeReads", apart := false }
def VolumeReadsSaid : Prop := volumeReadsRow.holds Tryz.pinned (OpenSpec.ofChange volumeReadsSpec)

/-- ITS FALSE NEIGHBOUR: 'it returns false'. Refute it at one input. -/
def volumeReadsWrong : ChangeSpec := { name := "volumeReads", fn := fun _ => fun
  | [d1, d2] => { results := [.lit (.bool false)], args := [d1, d2] }
  | _ => none }
def VolumeReadsWrongFalsely : Prop := volumeReadsRow.holds Tryz.pinned (OpenSpec.ofChange volumeReadsWrong)

/-- 'cantlelaw16.ChainTails': WHATEVER THE INPUT: true; the input reads as it did. -/
def chainTailsSpec : ChangeSpec := { name := "chainTails", fn := fun _ => fun
  | [d1, d2] => { results := [.lit (.bool true)], args := [d1, d2] }
  | _ => none }
def chainTailsRow : OpenClaim := { program := "ytgnagbbdnlmgeaagreat", sum := "c015e8495ebec17fe6f33182359cbaba6a570c4208ceeed038766d78e4841552", func := "cantle/cantlelaw16.ChainTails", spec := "chainTails", unfollowed := true, recurses := true, apart := false }
def ChainTailsSaid : Prop := chainTailsRow.holds Tryz.pinned (OpenSpec.ofChange chainTailsSpec)

/-- ITS FALSE NEIGHBOUR: 'it returns false'. Refute it at one input. -/
def chainTailsWrong : ChangeSpec := { name := "chainTails", fn := fun _ => fun
  | [d1, d2] => { results := [.lit (.bool false)], args := [d1, d2] }
  | _ => none }
def ChainTailsWrongFalsely : Prop := chainTailsRow.holds Tryz.pinned (OpenSpec.ofChange chainTailsWrong)

/-- 'cantlelaw16.ChainWrites': WHATEVER THE INPUT: true; the input reads as it did. -/
def chainWritesSpec : ChangeSpec := { name := "chainWrites", fn := fun _ => fun
  | [d1, d2, d3] => { results := [.lit (.bool true)], args := [d1, d2, d3] }
  | _ => none }
def chainWritesRow : OpenClaim := { program := "ytgnagbbdnlmgeaagreat", sum := "c015e8495ebec17fe6f33182359cbaba6a570c4208ceeed038766d78e4841552", func := "cantle/cantlelaw16.ChainWrites", spec := "chainWrites", unfollowed := true, recurses := true, apart := false }
def ChainWritesSaid : Prop := chainWritesRow.holds Tryz.pinned (OpenSpec.ofChange chainWritesSpec)

/-- ITS FALSE NEIGHBOUR: 'it returns false'. Refute it at one input. -/
def chainWritesWrong : ChangeSpec := { name := "chainWrites", fn := fun _ => fun
  | [d1, d2, d3] => { results := [.lit (.bool false)], args := [d1, d2, d3] }
  | _ => none }
def ChainWritesWrongFalsely : Prop := chainWritesRow.holds Tryz.pinned (OpenSpec.ofChange chainWritesWrong)

/-- 'cantlelaw16.ChainLoops': WHATEVER THE INPUT: true; the input reads as it did. -/
def chainLoopsSpec : ChangeSpec := { name := "chainLoops", fn := fun _ => fun
  | [d1, d2, d3] => { results := [.lit (.bool true)], args := [d1, d2, d3] }
  | _ => none }
def chainLoopsRow : OpenClaim := { program := "ytgnagbbdnlmgeaagreat", sum := "c015e8495ebec17fe6f33182359cbaba6a570c4208ceeed038766d78e4841552", func := "cantle/cantlelaw16.ChainLoops", spec := "chainLoops", unfollowed := true, recurses := true, apart := false }
def ChainLoopsSaid : Prop := chainLoopsRow.holds Tryz.pinned (OpenSpec.ofChange chainLoopsSpec)

/-- ITS FALSE NEIGHBOUR: 'it returns false'. Refute it at one input. -/
def chainLoopsWrong : ChangeSpec := { name := "chainLoops", fn := fun _ => fun
  | [d1, d2, d3] => { results := [.lit (.bool false)], args := [d1, d2, d3] }
  | _ => none }
def ChainLoopsWrongFalsely : Prop := chainLoopsRow.holds Tryz.pinned (OpenSpec.ofChange chainLoopsWrong)

/-- 'cantlelaw16.ChainReads': WHATEVER THE INPUT: true; the input reads as it did. -/
def chainReadsSpec : ChangeSpec := { name := "chainReads", fn := fun _ => fun
  | [d1, d2, d3] => { results := [.lit (.bool true)], args := [d1, d2, d3] }
  | _ => none }
def chainReadsRow : OpenClaim := { program := "ytgnagbbdnlmgeaagreat", sum := "c015e8495ebec17fe6f33182359cbaba6a570c4208ceeed038766d78e4841552", func := "cantle/cantlelaw16.ChainReads", spec := "chainReads", unfollowed := true, recurses := true, apart := false }
def ChainReadsSaid : Prop := chainReadsRow.holds Tryz.pinned (OpenSpec.ofChange chainReadsSpec)

/-- ITS FALSE NEIGHBOUR: 'it returns false'. Refute it at one input. -/
def chainReadsWrong : ChangeSpec := { name := "chainReads", fn := fun _ => fun
  | [d1, d2, d3] => { results := [.lit (.bool false)], args := [d1, d2, d3] }
  | _ => none }
def ChainReadsWrongFalsely : Prop := chainReadsRow.holds Tryz.pinned (OpenSpec.ofChange chainReadsWrong)

/-- 'cantlelaw17.ClaimTwice': WHATEVER THE INPUT: true; the input reads as it did. -/
def claimTwiceSpec : ChangeSpec := { name := "claimTwice", fn := fun _ => fun
  | [d1, d2] => { results := [.lit (.bool true)], args := [d1, d2] }
  | _ => none }
def claimTwiceRow : OpenClaim := { program := "ytgnagbbdnlmgeaagreat", sum := "c015e8495ebec17fe6f33182359cbaba6a570c4208ceeed038766d78e4841552", func := "cantle/cantlelaw17.ClaimTwice", spec := "claimTwice", unfollowed := true, recurses := true, apart := false }
def ClaimTwiceSaid : Prop := claimTwiceRow.holds Tryz.pinned (OpenSpec.ofChange claimTwiceSpec)

/-- ITS FALSE NEIGHBOUR: 'it returns false'. Refute it at one input. -/
def claimTwiceWrong : ChangeSpec := { name := "claimTwice", fn := fun _ => fun
  | [d1, d2] => { results := [.lit (.bool false)], args := [d1, d2] }
  | _ => none }
def ClaimTwiceWrongFalsely : Prop := claimTwiceRow.holds Tryz.pinned (OpenSpec.ofChange claimTwiceWrong)

/-- 'cantlelaw17.ClaimRoom': WHATEVER THE INPUT: true; the input reads as it did. -/
def claimRoomSpec : ChangeSpec := { name := "claimRoom", fn := fun _ => fun
  | [d] => { results := [.lit (.bool true)], args := [d] }
  | _ => none }
def claimRoomRow : OpenClaim := { program := "ytgnagbbdnlmgeaagreat", sum := "c015e8495ebec17fe6f33182359cbaba6a570c4208ceeed038766d78e4841552", func := "cantle/cantlelaw17.ClaimRoom", spec := "claimRoom", unfollowed := true, recurses := true, apart := false }
def ClaimRoomSaid : Prop := claimRoomRow.holds Tryz.pinned (OpenSpec.ofChange claimRoomSpec)

/-- ITS FALSE NEIGHBOUR: 'it returns false'. Refute it at one input. -/
def claimRoomWrong : ChangeSpec := { name := "claimRoom", fn := fun _ => fun
  | [d] => { results := [.lit (.bool false)], args := [d] }
  | _ => none }
def ClaimRoomWrongFalsely : Prop := claimRoomRow.holds Tryz.pinned (OpenSpec.ofChange claimRoomWrong)

/-- 'cantlelaw17.ClaimApart': WHATEVER THE INPUT: true; the input reads as it did. -/
def claimApartSpec : ChangeSpec := { name := "claimApart", fn := fun _ => fun
  | [d] => { results := [.lit (.bool true)], args := [d] }
  | _ => none }
def claimApartRow : OpenClaim := { program := "ytgnagbbdnlmgeaagreat", sum := "c015e8495ebec17fe6f33182359cbaba6a570c4208ceeed038766d78e4841552", func := "cantle/cantlelaw17.ClaimApart", spec := "claimApart", unfollowed := true, recurses := true, apart := false }
def ClaimApartSaid : Prop := claimApartRow.holds Tryz.pinned (OpenSpec.ofChange claimApartSpec)

/-- ITS FALSE NEIGHBOUR: 'it returns false'. Refute it at one input. -/
def claimApartWrong : ChangeSpec := { name := "claimApart", fn := fun _ => fun
  | [d] => { results := [.lit (.bool false)], args := [d] }
  | _ => none }
def ClaimApartWrongFalsely : Prop := claimApartRow.holds Tryz.pinned (OpenSpec.ofChange claimApartWrong)

/-- 'cantlelaw17.ClaimScans': WHATEVER THE INPUT: true; the input reads as it did. -/
def claimScansSpec : ChangeSpec := { name := "claimScans", fn := fun _ => fun
  | [d1, d2] => { results := [.lit (.bool true)], args := [d1, d2] }
  | _ => none }
def claimScansRow : OpenClaim := { program := "ytgnagbbdnlmgeaagreat", sum := "c015e8495ebec17fe6f33182359cbaba6a570c4208ceeed038766d78e4841552", func := "cantle/cantlelaw17.ClaimScans", spec := "claimScans", unfollowed := true, recurses := true, apart := false }
def ClaimScansSaid : Prop := claimScansRow.holds Tryz.pinned (OpenSpec.ofChange claimScansSpec)

/-- ITS FALSE NEIGHBOUR: 'it returns false'. Refute it at one input. -/
def claimScansWrong : ChangeSpec := { name := "claimScans", fn := fun _ => fun
  | [d1, d2] => { results := [.lit (.bool false)], args := [d1, d2] }
  | _ => none }
def ClaimScansWrongFalsely : Prop := claimScansRow.holds Tryz.pinned (OpenSpec.ofChange claimScansWrong)

/- THE SECOND FORM. 'bulk': how many values and letters a reading holds, each counted each time it is reached (what is shared counts as often as it is met; a slice's spare places count too). A statement '..UptoSaid' is the law's where the arguments, and the package variables that the reading takes, are together of bulk at most 1048576: NARROWER than '..Said'. Prove '..Said' where nothing that the law and all that it calls make is longer than what came in: it says more and counts as full. Else prove '..UptoSaid'. A law counts once. -/
mutual
def uptoBulk {H : Type} : DataW H → Nat
  | .lit (.string bytes) => bytes.length + 1
  | .lit _ => 1
  | .nil => 1
  | .ptr d => uptoBulk d + 1
  | .slice elems spare => uptoBulkAll elems + uptoBulkAll spare + 1
  | .agg parts => uptoBulkAll parts + 1
  | .iface _ d => uptoBulk d + 1
  | .map entries => uptoBulkEntries entries + 1
  | .held _ => 1
def uptoBulkAll {H : Type} : List (DataW H) → Nat
  | [] => 0
  | d :: r => uptoBulk d + uptoBulkAll r
def uptoBulkEntries {H : Type} : List (Lit × DataW H) → Nat
  | [] => 0
  | x :: r => uptoBulkEntry x + uptoBulkEntries r
def uptoBulkEntry {H : Type} : Lit × DataW H → Nat
  | (.string bytes, d) => bytes.length + uptoBulk d + 1
  | (_, d) => uptoBulk d + 1
 end
def uptoSmall : (H : Type) → List (DataW H) → Bool := fun _ ds => decide (uptoBulkAll ds ≤ 1048576)
def OpenSpec.upto (s : _root_.Go.ChangeSpec) : _root_.Go.OpenSpec := { _root_.Go.OpenSpec.ofChange s with cond := some uptoSmall }

/-- 'cantlelaw15.VolumeReads', WHERE WHAT IT READS IS OF BULK AT MOST 1048576: true; the input reads as it did. -/
def volumeReadsUptoRow : OpenClaim := { program := "ytgnagbbdnlmgeaagreat", sum := "c015e8495ebec17fe6f33182359cbaba6a570c4208ceeed038766d78e4841552", func := "cantle/cantlelaw15.VolumeReads", spec := "volumeReads", apart := false, narrowed := true }
def VolumeReadsUptoSaid : Prop := volumeReadsUptoRow.holds Tryz.pinned (OpenSpec.upto volumeReadsSpec)

/-- 'cantlelaw16.ChainTails', WHERE WHAT IT READS IS OF BULK AT MOST 1048576: true; the input reads as it did. -/
def chainTailsUptoRow : OpenClaim := { program := "ytgnagbbdnlmgeaagreat", sum := "c015e8495ebec17fe6f33182359cbaba6a570c4208ceeed038766d78e4841552", func := "cantle/cantlelaw16.ChainTails", spec := "chainTails", unfollowed := true, recurses := true, apart := false, narrowed := true }
def ChainTailsUptoSaid : Prop := chainTailsUptoRow.holds Tryz.pinned (OpenSpec.upto chainTailsSpec)

/-- 'cantlelaw16.ChainWrites', WHERE WHAT IT READS IS OF BULK AT MOST 1048576: true; the input reads as it did. -/
def chainWritesUptoRow : OpenClaim := { program := "ytgnagbbdnlmgeaagreat", sum := "c015e8495ebec17fe6f33182359cbaba6a570c4208ceeed038766d78e4841552", func := "cantle/cantlelaw16.ChainWrites", spec := "chainWrites", unfollowed := true, recurses := true, apart := false, narrowed := true }
def ChainWritesUptoSaid : Prop := chainWritesUptoRow.holds Tryz.pinned (OpenSpec.upto chainWritesSpec)

/-- 'cantlelaw16.ChainLoops', WHERE WHAT IT READS IS OF BULK AT MOST 1048576: true; the input reads as it did. -/
def chainLoopsUptoRow : OpenClaim := { program := "ytgnagbbdnlmgeaagreat", sum := "c015e8495ebec17fe6f33182359cbaba6a570c4208ceeed038766d78e4841552", func := "cantle/cantlelaw16.ChainLoops", spec := "chainLoops", unfollowed := true, recurses := true, apart := false, narrowed := true }
def ChainLoopsUptoSaid : Prop := chainLoopsUptoRow.holds Tryz.pinned (OpenSpec.upto chainLoopsSpec)

/-- 'cantlelaw16.ChainReads', WHERE WHAT IT READS IS OF BULK AT MOST 1048576: true; the input reads as it did. -/
def chainReadsUptoRow : OpenClaim := { program := "ytgnagbbdnlmgeaagreat", sum := "c015e8495ebec17fe6f33182359cbaba6a570c4208ceeed038766d78e4841552", func := "cantle/cantlelaw16.ChainReads", spec := "chainReads", unfollowed := true, recurses := true, apart := false, narrowed := true }
def ChainReadsUptoSaid : Prop := chainReadsUptoRow.holds Tryz.pinned (OpenSpec.upto chainReadsSpec)

/-- 'cantlelaw17.ClaimTwice', WHERE WHAT IT READS IS OF BULK AT MOST 1048576: true; the input reads as it did. -/
def claimTwiceUptoRow : OpenClaim := { program := "ytgnagbbdnlmgeaagreat", sum := "c015e8495ebec17fe6f33182359cbaba6a570c4208ceeed038766d78e4841552", func := "cantle/cantlelaw17.ClaimTwice", spec := "claimTwice", unfollowed := true, recurses := true, apart := false, narrowed := true }
def ClaimTwiceUptoSaid : Prop := claimTwiceUptoRow.holds Tryz.pinned (OpenSpec.upto claimTwiceSpec)

/-- 'cantlelaw17.ClaimRoom', WHERE WHAT IT READS IS OF BULK AT MOST 1048576: true; the input reads as it did. -/
def claimRoomUptoRow : OpenClaim := { program := "ytgnagbbdnlmgeaagreat", sum := "c015e8495ebec17fe6f33182359cbaba6a570c4208ceeed038766d78e4841552", func := "cantle/cantlelaw17.ClaimRoom", spec := "claimRoom", unfollowed := true, recurses := true, apart := false, narrowed := true }
def ClaimRoomUptoSaid : Prop := claimRoomUptoRow.holds Tryz.pinned (OpenSpec.upto claimRoomSpec)

/-- 'cantlelaw17.ClaimApart', WHERE WHAT IT READS IS OF BULK AT MOST 1048576: true; the input reads as it did. -/
def claimApartUptoRow : OpenClaim := { program := "ytgnagbbdnlmgeaagreat", sum := "c015e8495ebec17fe6f33182359cbaba6a570c4208ceeed038766d78e4841552", func := "cantle/cantlelaw17.ClaimApart", spec := "claimApart", unfollowed := true, recurses := true, apart := false, narrowed := true }
def ClaimApartUptoSaid : Prop := claimApartUptoRow.holds Tryz.pinned (OpenSpec.upto claimApartSpec)

/-- 'cantlelaw17.ClaimScans', WHERE WHAT IT READS IS OF BULK AT MOST 1048576: true; the input reads as it did. -/
def claimScansUptoRow : OpenClaim := { program := "ytgnagbbdnlmgeaagreat", sum := "c015e8495ebec17fe6f33182359cbaba6a570c4208ceeed038766d78e4841552", func := "cantle/cantlelaw17.ClaimScans", spec := "claimScans", unfollowed := true, recurses := true, apart := false, narrowed := true }
def ClaimScansUptoSaid : Prop := claimScansUptoRow.holds Tryz.pinned (OpenSpec.upto claimScansSpec)

end Rows
end Go.Proofs.YtgnagbbdnlmgeaaGreat
