/-
  No cell of these rows narrows 'for every input' (looked for: loops, veiled, ifaces, maps, wideKeys, modest, calm, conditions, laid).
  DERIVED. THE GIVEN ROWS OF THIS SEAT. 8 by the template 'for every input the law returns true; each argument reads behind the call as it read before'; 0 by the template 'total and deterministic' (their statements: YthaffebapmkppaaTotals.lean).
  GIVEN WITH THE SEED: the statements are not yours to turn. If you find one false, say at which input.
  Laid BY PROGRAM, IN A SANDBOX (cutbox-rows.mjs): the forced cells as the released guide's own fill.sh prints them over the translation 44d0e8a031937e0c… (all of the seat's roots in one cut). By AI agents, Wed Nov 11 2026. No macro, syntax, notation, axiom, sorry.
-/
import Derived.Test.YthaffebapmkppaaChecked
import GoSem.Claim
import GoSem.ClaimJoined
import GoSem.ClaimMapViews
import Derived.JoinedTies
import Derived.KernelRfl
namespace Go.Proofs.Ythaffebapmkppaa
/- THE CELL 'sum', in the pinned program and in every row, IS THE sha256 OF THE DUMP (.gsa) THAT YthaffebapmkppaaProg.lean LOADS. Nothing in Lean hashes anything: it is a label: what it is worth is what the hold of that sum in a sandbox is worth. -/
noncomputable def Try.pinned : Pinned := { name := "ythaffebapmkppaa", sum := "44d0e8a031937e0c82805399f09a26c5049940ba8abe0651614943fbfca4a947", checked := Try.checked }
namespace Rows
def none {H : Type} : Left H := { results := [], args := [] }

/-- 'scrutineerlaw09.RingMoves': WHATEVER THE INPUT: true; the input reads as it did. -/
def ringMovesSpec : ChangeSpec := { name := "ringMoves", fn := fun _ => fun
  | [d1, d2, d3] => { results := [.lit (.bool true)], args := [d1, d2, d3] }
  | _ => none }
def ringMovesRow : OpenClaim := { program := "ythaffebapmkppaa", sum := "44d0e8a031937e0c82805399f09a26c5049940ba8abe0651614943fbfca4a947", func := "scrutineer/scrutineerlaw09.RingMoves", spec := "ringMoves", unfollowed := true, recurses := true, apart := false }
def RingMovesSaid : Prop := ringMovesRow.holds Try.pinned (OpenSpec.ofChange ringMovesSpec)

/-- ITS FALSE NEIGHBOUR: 'it returns false'. Refute it at one input. -/
def ringMovesWrong : ChangeSpec := { name := "ringMoves", fn := fun _ => fun
  | [d1, d2, d3] => { results := [.lit (.bool false)], args := [d1, d2, d3] }
  | _ => none }
def RingMovesWrongFalsely : Prop := ringMovesRow.holds Try.pinned (OpenSpec.ofChange ringMovesWrong)

/-- 'scrutineerlaw09.RingWhole': WHATEVER THE INPUT: true; the input reads as it did. -/
def ringWholeSpec : ChangeSpec := { name := "ringWhole", fn := fun _ => fun
  | [d1, d2, d3] => { results := [.lit (.bool true)], args := [d1, d2, d3] }
  | _ => none }
def ringWholeRow : OpenClaim := { program := "ythaffebapmkppaa", sum := "44d0e8a031937e0c82805399f09a26c5049940ba8abe0651614943fbfca4a947", func := "scrutineer/scrutineerlaw09.RingWhole", spec := "ringWhole", unfollowed := true, recurses := true, apart := false }
def RingWholeSaid : Prop := ringWholeRow.holds Try.pinned (OpenSpec.ofChange ringWholeSpec)

/-- ITS FALSE NEIGHBOUR: 'it returns false'. Refute it at one input. -/
def ringWholeWrong : ChangeSpec := { name := "ringWhole", fn := fun _ => fun
  | [d1, d2, d3] => { results := [.lit (.bool false)], args := [d1, d2, d3] }
  | _ => none }
def RingWholeWrongFalsely : Prop := ringWholeRow.holds Try.pinned (OpenSpec.ofChange ringWholeWrong)

/-- 'scrutineerlaw09.RingTurned': WHATEVER THE INPUT: true; the input reads as it did. -/
def ringTurnedSpec : ChangeSpec := { name := "ringTurned", fn := fun _ => fun
  | [d1, d2, d3] => { results := [.lit (.bool true)], args := [d1, d2, d3] }
  | _ => none }
def ringTurnedRow : OpenClaim := { program := "ythaffebapmkppaa", sum := "44d0e8a031937e0c82805399f09a26c5049940ba8abe0651614943fbfca4a947", func := "scrutineer/scrutineerlaw09.RingTurned", spec := "ringTurned", unfollowed := true, recurses := true, apart := false }
def RingTurnedSaid : Prop := ringTurnedRow.holds Try.pinned (OpenSpec.ofChange ringTurnedSpec)

/-- ITS FALSE NEIGHBOUR: 'it returns false'. Refute it at one input. -/
def ringTurnedWrong : ChangeSpec := { name := "ringTurned", fn := fun _ => fun
  | [d1, d2, d3] => { results := [.lit (.bool false)], args := [d1, d2, d3] }
  | _ => none }
def RingTurnedWrongFalsely : Prop := ringTurnedRow.holds Try.pinned (OpenSpec.ofChange ringTurnedWrong)

/-- 'scrutineerlaw09.RingBuilds': WHATEVER THE INPUT: true; the input reads as it did. -/
def ringBuildsSpec : ChangeSpec := { name := "ringBuilds", fn := fun _ => fun
  | [d1, d2, d3] => { results := [.lit (.bool true)], args := [d1, d2, d3] }
  | _ => none }
def ringBuildsRow : OpenClaim := { program := "ythaffebapmkppaa", sum := "44d0e8a031937e0c82805399f09a26c5049940ba8abe0651614943fbfca4a947", func := "scrutineer/scrutineerlaw09.RingBuilds", spec := "ringBuilds", unfollowed := true, recurses := true, apart := false }
def RingBuildsSaid : Prop := ringBuildsRow.holds Try.pinned (OpenSpec.ofChange ringBuildsSpec)

/-- ITS FALSE NEIGHBOUR: 'it returns false'. Refute it at one input. -/
def ringBuildsWrong : ChangeSpec := { name := "ringBuilds", fn := fun _ => fun
  | [d1, d2, d3] => { results := [.lit (.bool false)], args := [d1, d2, d3] }
  | _ => none }
def RingBuildsWrongFalsely : Prop := ringBuildsRow.holds Try.pinned (OpenSpec.ofChange ringBuildsWrong)

/-- 'scrutineerlaw10.ConfQuorums': WHATEVER THE INPUT: true; the input reads as it did. -/
def confQuorumsSpec : ChangeSpec := { name := "confQuorums", fn := fun _ => fun
  | [d1, d2, d3] => { results := [.lit (.bool true)], args := [d1, d2, d3] }
  | _ => none }
def confQuorumsRow : OpenClaim := { program := "ythaffebapmkppaa", sum := "44d0e8a031937e0c82805399f09a26c5049940ba8abe0651614943fbfca4a947", func := "scrutineer/scrutineerlaw10.ConfQuorums", spec := "confQuorums", unfollowed := true, recurses := true, apart := false }
def ConfQuorumsSaid : Prop := confQuorumsRow.holds Try.pinned (OpenSpec.ofChange confQuorumsSpec)

/-- ITS FALSE NEIGHBOUR: 'it returns false'. Refute it at one input. -/
def confQuorumsWrong : ChangeSpec := { name := "confQuorums", fn := fun _ => fun
  | [d1, d2, d3] => { results := [.lit (.bool false)], args := [d1, d2, d3] }
  | _ => none }
def ConfQuorumsWrongFalsely : Prop := confQuorumsRow.holds Try.pinned (OpenSpec.ofChange confQuorumsWrong)

/-- 'scrutineerlaw10.ConfOther': WHATEVER THE INPUT: true; the input reads as it did. -/
def confOtherSpec : ChangeSpec := { name := "confOther", fn := fun _ => fun
  | [d1, d2, d3, d4] => { results := [.lit (.bool true)], args := [d1, d2, d3, d4] }
  | _ => none }
def confOtherRow : OpenClaim := { program := "ythaffebapmkppaa", sum := "44d0e8a031937e0c82805399f09a26c5049940ba8abe0651614943fbfca4a947", func := "scrutineer/scrutineerlaw10.ConfOther", spec := "confOther", unfollowed := true, recurses := true, apart := false }
def ConfOtherSaid : Prop := confOtherRow.holds Try.pinned (OpenSpec.ofChange confOtherSpec)

/-- ITS FALSE NEIGHBOUR: 'it returns false'. Refute it at one input. -/
def confOtherWrong : ChangeSpec := { name := "confOther", fn := fun _ => fun
  | [d1, d2, d3, d4] => { results := [.lit (.bool false)], args := [d1, d2, d3, d4] }
  | _ => none }
def ConfOtherWrongFalsely : Prop := confOtherRow.holds Try.pinned (OpenSpec.ofChange confOtherWrong)

/-- 'scrutineerlaw10.ConfMeet': WHATEVER THE INPUT: true; the input reads as it did. -/
def confMeetSpec : ChangeSpec := { name := "confMeet", fn := fun _ => fun
  | [d1, d2, d3, d4, d5] => { results := [.lit (.bool true)], args := [d1, d2, d3, d4, d5] }
  | _ => none }
def confMeetRow : OpenClaim := { program := "ythaffebapmkppaa", sum := "44d0e8a031937e0c82805399f09a26c5049940ba8abe0651614943fbfca4a947", func := "scrutineer/scrutineerlaw10.ConfMeet", spec := "confMeet", inPlace := ["slices.overlaps[uint8]"], unfollowed := true, recurses := true, apart := false }
def ConfMeetSaid : Prop := confMeetRow.holds Try.pinned (OpenSpec.ofChange confMeetSpec)

/-- ITS FALSE NEIGHBOUR: 'it returns false'. Refute it at one input. -/
def confMeetWrong : ChangeSpec := { name := "confMeet", fn := fun _ => fun
  | [d1, d2, d3, d4, d5] => { results := [.lit (.bool false)], args := [d1, d2, d3, d4, d5] }
  | _ => none }
def ConfMeetWrongFalsely : Prop := confMeetRow.holds Try.pinned (OpenSpec.ofChange confMeetWrong)

/-- 'scrutineerlaw10.ConfSteps': WHATEVER THE INPUT: true; the input reads as it did. -/
def confStepsSpec : ChangeSpec := { name := "confSteps", fn := fun _ => fun
  | [d1, d2] => { results := [.lit (.bool true)], args := [d1, d2] }
  | _ => none }
def confStepsRow : OpenClaim := { program := "ythaffebapmkppaa", sum := "44d0e8a031937e0c82805399f09a26c5049940ba8abe0651614943fbfca4a947", func := "scrutineer/scrutineerlaw10.ConfSteps", spec := "confSteps", inPlace := ["slices.overlaps[uint8]"], unfollowed := true, recurses := true, apart := false }
def ConfStepsSaid : Prop := confStepsRow.holds Try.pinned (OpenSpec.ofChange confStepsSpec)

/-- ITS FALSE NEIGHBOUR: 'it returns false'. Refute it at one input. -/
def confStepsWrong : ChangeSpec := { name := "confSteps", fn := fun _ => fun
  | [d1, d2] => { results := [.lit (.bool false)], args := [d1, d2] }
  | _ => none }
def ConfStepsWrongFalsely : Prop := confStepsRow.holds Try.pinned (OpenSpec.ofChange confStepsWrong)

/- THE SECOND FORM. 'bulk': how many values and letters a reading holds, each counted each time it is reached (what is shared counts as often as it is met; a slice's spare places count too). A statement '..UptoSaid' is the law's where the arguments, and the package variables that the reading takes, are together of bulk at most 1048576: NARROWER than '..Said'. Prove '..Said' where nothing that the law and all that it calls make is longer than what came in: it says more and counts as full. Else prove '..UptoSaid'. A law counts once. -/
mutual
def uptoBulk {H : Type} : DataW H → Nat
  | .lit (.string bytes) => bytes.length + 1
  | .lit _ => 1
  | .nil => 1
  | .ptr d => uptoBulk d + 1
  | .slice elems spare => uptoBulkAll elems + uptoBulkAll spare + 1
  | .agg parts => uptoBulkAll parts + 1
  | .iface _ d => uptoBulk d + 1
  | .map entries => uptoBulkEntries entries + 1
  | .held _ => 1
def uptoBulkAll {H : Type} : List (DataW H) → Nat
  | [] => 0
  | d :: r => uptoBulk d + uptoBulkAll r
def uptoBulkEntries {H : Type} : List (Lit × DataW H) → Nat
  | [] => 0
  | x :: r => uptoBulkEntry x + uptoBulkEntries r
def uptoBulkEntry {H : Type} : Lit × DataW H → Nat
  | (.string bytes, d) => bytes.length + uptoBulk d + 1
  | (_, d) => uptoBulk d + 1
 end
def uptoSmall : (H : Type) → List (DataW H) → Bool := fun _ ds => decide (uptoBulkAll ds ≤ 1048576)
def OpenSpec.upto (s : _root_.Go.ChangeSpec) : _root_.Go.OpenSpec := { _root_.Go.OpenSpec.ofChange s with cond := some uptoSmall }

/-- 'scrutineerlaw09.RingMoves', WHERE WHAT IT READS IS OF BULK AT MOST 1048576: true; the input reads as it did. -/
def ringMovesUptoRow : OpenClaim := { program := "ythaffebapmkppaa", sum := "44d0e8a031937e0c82805399f09a26c5049940ba8abe0651614943fbfca4a947", func := "scrutineer/scrutineerlaw09.RingMoves", spec := "ringMoves", unfollowed := true, recurses := true, apart := false, narrowed := true }
def RingMovesUptoSaid : Prop := ringMovesUptoRow.holds Try.pinned (OpenSpec.upto ringMovesSpec)

/-- 'scrutineerlaw09.RingWhole', WHERE WHAT IT READS IS OF BULK AT MOST 1048576: true; the input reads as it did. -/
def ringWholeUptoRow : OpenClaim := { program := "ythaffebapmkppaa", sum := "44d0e8a031937e0c82805399f09a26c5049940ba8abe0651614943fbfca4a947", func := "scrutineer/scrutineerlaw09.RingWhole", spec := "ringWhole", unfollowed := true, recurses := true, apart := false, narrowed := true }
def RingWholeUptoSaid : Prop := ringWholeUptoRow.holds Try.pinned (OpenSpec.upto ringWholeSpec)

/-- 'scrutineerlaw09.RingTurned', WHERE WHAT IT READS IS OF BULK AT MOST 1048576: true; the input reads as it did. -/
def ringTurnedUptoRow : OpenClaim := { program := "ythaffebapmkppaa", sum := "44d0e8a031937e0c82805399f09a26c5049940ba8abe0651614943fbfca4a947", func := "scrutineer/scrutineerlaw09.RingTurned", spec := "ringTurned", unfollowed := true, recurses := true, apart := false, narrowed := true }
def RingTurnedUptoSaid : Prop := ringTurnedUptoRow.holds Try.pinned (OpenSpec.upto ringTurnedSpec)

/-- 'scrutineerlaw09.RingBuilds', WHERE WHAT IT READS IS OF BULK AT MOST 1048576: true; the input reads as it did. -/
def ringBuildsUptoRow : OpenClaim := { program := "ythaffebapmkppaa", sum := "44d0e8a031937e0c82805399f09a26c5049940ba8abe0651614943fbfca4a947", func := "scrutineer/scrutineerlaw09.RingBuilds", spec := "ringBuilds", unfollowed := true, recurses := true, apart := false, narrowed := true }
def RingBuildsUptoSaid : Prop := ringBuildsUptoRow.holds Try.pinned (OpenSpec.upto ringBuildsSpec)

/-- 'scrutineerlaw10.ConfQuorums', WHERE WHAT IT READS IS OF BULK AT MOST 1048576: true; the input reads as it did. -/
def confQuorumsUptoRow : OpenClaim := { program := "ythaffebapmkppaa", sum := "44d0e8a031937e0c82805399f09a26c5049940ba8abe0651614943fbfca4a947", func := "scrutineer/scrutineerlaw10.ConfQuorums", spec := "confQuorums", unfollowed := true, recurses := true, apart := false, narrowed := true }
def ConfQuorumsUptoSaid : Prop := confQuorumsUptoRow.holds Try.pinned (OpenSpec.upto confQuorumsSpec)

/-- 'scrutineerlaw10.ConfOther', WHERE WHAT IT READS IS OF BULK AT MOST 1048576: true; the input reads as it did. -/
def confOtherUptoRow : OpenClaim := { program := "ythaffebapmkppaa", sum := "44d0e8a031937e0c82805399f09a26c5049940ba8abe0651614943fbfca4a947", func := "scrutineer/scrutineerlaw10.ConfOther", spec := "confOther", unfollowed := true, recurses := true, apart := false, narrowed := true }
def ConfOtherUptoSaid : Prop := confOtherUptoRow.holds Try.pinned (OpenSpec.upto confOtherSpec)

/-- 'scrutineerlaw10.ConfMeet', WHERE WHAT IT READS IS OF BULK AT MOST 1048576: true; the input reads as it did. -/
def confMeetUptoRow : OpenClaim := { program := "ythaffebapmkppaa", sum := "44d0e8a031937e0c82805399f09a26c5049940ba8abe0651614943fbfca4a947", func := "scrutineer/scrutineerlaw10.ConfMeet", spec := "confMeet", inPlace := ["slices.overlaps[uint8]"], unfollowed := true, recurses := true, apart := false, narrowed := true }
def ConfMeetUptoSaid : Prop := confMeetUptoRow.holds Try.pinned (OpenSpec.upto confMeetSpec)

/-- 'scrutineerlaw10.ConfSteps', WHERE WHAT IT READS IS OF BULK AT MOST 1048576: true; the input reads as it did. -/
def confStepsUptoRow : OpenClaim := { program := "ythaffebapmkppaa", sum := "44d0e8a031937e0c82805399f09a26c5049940ba8abe0651614943fbfca4a947", func := "scrutineer/scrutineerlaw10.ConfSteps", spec := "confSteps", inPlace := ["slices.overlaps[uint8]"], unfollowed := true, recurses := true, apart := false, narrowed := true }
def ConfStepsUptoSaid : Prop := confStepsUptoRow.holds Try.pinned (OpenSpec.upto confStepsSpec)

end Rows
end Go.Proofs.Ythaffebapmkppaa
