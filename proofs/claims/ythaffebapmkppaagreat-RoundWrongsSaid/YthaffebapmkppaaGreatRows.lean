/-
  No cell of these rows narrows 'for every input' (looked for: loops, veiled, ifaces, maps, wideKeys, modest, calm, conditions, laid).
  DERIVED. THE GIVEN ROWS OF THIS SEAT. 4 by the template 'for every input the law returns true; each argument reads behind the call as it read before'; 0 by the template 'total and deterministic' (their statements: YthaffebapmkppaaGreatTotals.lean).
  GIVEN WITH THE SEED: the statements are not yours to turn. If you find one false, say at which input.
  Laid BY PROGRAM, IN A SANDBOX (cutbox-rows.mjs): the forced cells as the released guide's own fill.sh prints them over the translation 6b8cab023b0ab76f… (all of the seat's roots in one cut). By AI agents, Wed Nov 11 2026. No macro, syntax, notation, axiom, sorry.
-/
import Derived.Test.YthaffebapmkppaaGreatChecked
import GoSem.Claim
import GoSem.ClaimJoined
import GoSem.ClaimMapViews
import Derived.JoinedTies
import Derived.KernelRfl
namespace Go.Proofs.YthaffebapmkppaaGreat
/- THE CELL 'sum', in the pinned program and in every row, IS THE sha256 OF THE DUMP (.gsa) THAT YthaffebapmkppaaGreatProg.lean LOADS. Nothing in Lean hashes anything: it is a label: what it is worth is what the hold of that sum in a sandbox is worth. -/
noncomputable def Tryz.pinned : Pinned := { name := "ythaffebapmkppaagreat", sum := "6b8cab023b0ab76fea309601e5f56aad4371e9c9da3a709ff28f1e84b14efc24", checked := Tryz.checked }
namespace Rows
def none {H : Type} : Left H := { results := [], args := [] }

/-- 'scrutineerlaw17.RoundMeets': WHATEVER THE INPUT: true; the input reads as it did. -/
def roundMeetsSpec : ChangeSpec := { name := "roundMeets", fn := fun _ => fun
  | [d1, d2, d3, d4, d5, d6, d7] => { results := [.lit (.bool true)], args := [d1, d2, d3, d4, d5, d6, d7] }
  | _ => none }
def roundMeetsRow : OpenClaim := { program := "ythaffebapmkppaagreat", sum := "6b8cab023b0ab76fea309601e5f56aad4371e9c9da3a709ff28f1e84b14efc24", func := "scrutineer/scrutineerlaw17.RoundMeets", spec := "roundMeets", unfollowed := true, recurses := true, apart := false }
def RoundMeetsSaid : Prop := roundMeetsRow.holds Tryz.pinned (OpenSpec.ofChange roundMeetsSpec)

/-- ITS FALSE NEIGHBOUR: 'it returns false'. Refute it at one input. -/
def roundMeetsWrong : ChangeSpec := { name := "roundMeets", fn := fun _ => fun
  | [d1, d2, d3, d4, d5, d6, d7] => { results := [.lit (.bool false)], args := [d1, d2, d3, d4, d5, d6, d7] }
  | _ => none }
def RoundMeetsWrongFalsely : Prop := roundMeetsRow.holds Tryz.pinned (OpenSpec.ofChange roundMeetsWrong)

/-- 'scrutineerlaw17.RoundWrongs': WHATEVER THE INPUT: true; the input reads as it did. -/
def roundWrongsSpec : ChangeSpec := { name := "roundWrongs", fn := fun _ => fun
  | [d1, d2, d3] => { results := [.lit (.bool true)], args := [d1, d2, d3] }
  | _ => none }
def roundWrongsRow : OpenClaim := { program := "ythaffebapmkppaagreat", sum := "6b8cab023b0ab76fea309601e5f56aad4371e9c9da3a709ff28f1e84b14efc24", func := "scrutineer/scrutineerlaw17.RoundWrongs", spec := "roundWrongs", unfollowed := true, recurses := true, apart := false }
def RoundWrongsSaid : Prop := roundWrongsRow.holds Tryz.pinned (OpenSpec.ofChange roundWrongsSpec)

/-- ITS FALSE NEIGHBOUR: 'it returns false'. Refute it at one input. -/
def roundWrongsWrong : ChangeSpec := { name := "roundWrongs", fn := fun _ => fun
  | [d1, d2, d3] => { results := [.lit (.bool false)], args := [d1, d2, d3] }
  | _ => none }
def RoundWrongsWrongFalsely : Prop := roundWrongsRow.holds Tryz.pinned (OpenSpec.ofChange roundWrongsWrong)

/-- 'scrutineerlaw17.RoundAll': WHATEVER THE INPUT: true; the input reads as it did. -/
def roundAllSpec : ChangeSpec := { name := "roundAll", fn := fun _ => fun
  | [d1, d2, d3, d4] => { results := [.lit (.bool true)], args := [d1, d2, d3, d4] }
  | _ => none }
def roundAllRow : OpenClaim := { program := "ythaffebapmkppaagreat", sum := "6b8cab023b0ab76fea309601e5f56aad4371e9c9da3a709ff28f1e84b14efc24", func := "scrutineer/scrutineerlaw17.RoundAll", spec := "roundAll", unfollowed := true, recurses := true, apart := false }
def RoundAllSaid : Prop := roundAllRow.holds Tryz.pinned (OpenSpec.ofChange roundAllSpec)

/-- ITS FALSE NEIGHBOUR: 'it returns false'. Refute it at one input. -/
def roundAllWrong : ChangeSpec := { name := "roundAll", fn := fun _ => fun
  | [d1, d2, d3, d4] => { results := [.lit (.bool false)], args := [d1, d2, d3, d4] }
  | _ => none }
def RoundAllWrongFalsely : Prop := roundAllRow.holds Tryz.pinned (OpenSpec.ofChange roundAllWrong)

/-- 'scrutineerlaw18.ProposeNil': WHATEVER THE INPUT: true; the input reads as it did. -/
def proposeNilSpec : ChangeSpec := { name := "proposeNil", fn := fun _ => fun
  | [d1, d2, d3, d4] => { results := [.lit (.bool true)], args := [d1, d2, d3, d4] }
  | _ => none }
def proposeNilRow : OpenClaim := { program := "ythaffebapmkppaagreat", sum := "6b8cab023b0ab76fea309601e5f56aad4371e9c9da3a709ff28f1e84b14efc24", func := "scrutineer/scrutineerlaw18.ProposeNil", spec := "proposeNil", inPlace := ["slices.overlaps[scrutineer/api.Mark]", "slices.overlaps[scrutineer/api.Done]"], unfollowed := true, recurses := true, apart := false }
def ProposeNilSaid : Prop := proposeNilRow.holds Tryz.pinned (OpenSpec.ofChange proposeNilSpec)

/-- ITS FALSE NEIGHBOUR: 'it returns false'. Refute it at one input. -/
def proposeNilWrong : ChangeSpec := { name := "proposeNil", fn := fun _ => fun
  | [d1, d2, d3, d4] => { results := [.lit (.bool false)], args := [d1, d2, d3, d4] }
  | _ => none }
def ProposeNilWrongFalsely : Prop := proposeNilRow.holds Tryz.pinned (OpenSpec.ofChange proposeNilWrong)

/- THE SECOND FORM. 'bulk': how many values and letters a reading holds, each counted each time it is reached (what is shared counts as often as it is met; a slice's spare places count too). A statement '..UptoSaid' is the law's where the arguments, and the package variables that the reading takes, are together of bulk at most 1048576: NARROWER than '..Said'. Prove '..Said' where nothing that the law and all that it calls make is longer than what came in: it says more and counts as full. Else prove '..UptoSaid'. A law counts once. -/
mutual
def uptoBulk {H : Type} : DataW H → Nat
  | .lit (.string bytes) => bytes.length + 1
  | .lit _ => 1
  | .nil => 1
  | .ptr d => uptoBulk d + 1
  | .slice elems spare => uptoBulkAll elems + uptoBulkAll spare + 1
  | .agg parts => uptoBulkAll parts + 1
  | .iface _ d => uptoBulk d + 1
  | .map entries => uptoBulkEntries entries + 1
  | .held _ => 1
def uptoBulkAll {H : Type} : List (DataW H) → Nat
  | [] => 0
  | d :: r => uptoBulk d + uptoBulkAll r
def uptoBulkEntries {H : Type} : List (Lit × DataW H) → Nat
  | [] => 0
  | x :: r => uptoBulkEntry x + uptoBulkEntries r
def uptoBulkEntry {H : Type} : Lit × DataW H → Nat
  | (.string bytes, d) => bytes.length + uptoBulk d + 1
  | (_, d) => uptoBulk d + 1
 end
def uptoSmall : (H : Type) → List (DataW H) → Bool := fun _ ds => decide (uptoBulkAll ds ≤ 1048576)
def OpenSpec.upto (s : _root_.Go.ChangeSpec) : _root_.Go.OpenSpec := { _root_.Go.OpenSpec.ofChange s with cond := some uptoSmall }

/-- 'scrutineerlaw17.RoundMeets', WHERE WHAT IT READS IS OF BULK AT MOST 1048576: true; the input reads as it did. -/
def roundMeetsUptoRow : OpenClaim := { program := "ythaffebapmkppaagreat", sum := "6b8cab023b0ab76fea309601e5f56aad4371e9c9da3a709ff28f1e84b14efc24", func := "scrutineer/scrutineerlaw17.RoundMeets", spec := "roundMeets", unfollowed := true, recurses := true, apart := false, narrowed := true }
def RoundMeetsUptoSaid : Prop := roundMeetsUptoRow.holds Tryz.pinned (OpenSpec.upto roundMeetsSpec)

/-- 'scrutineerlaw17.RoundWrongs', WHERE WHAT IT READS IS OF BULK AT MOST 1048576: true; the input reads as it did. -/
def roundWrongsUptoRow : OpenClaim := { program := "ythaffebapmkppaagreat", sum := "6b8cab023b0ab76fea309601e5f56aad4371e9c9da3a709ff28f1e84b14efc24", func := "scrutineer/scrutineerlaw17.RoundWrongs", spec := "roundWrongs", unfollowed := true, recurses := true, apart := false, narrowed := true }
def RoundWrongsUptoSaid : Prop := roundWrongsUptoRow.holds Tryz.pinned (OpenSpec.upto roundWrongsSpec)

/-- 'scrutineerlaw17.RoundAll', WHERE WHAT IT READS IS OF BULK AT MOST 1048576: true; the input reads as it did. -/
def roundAllUptoRow : OpenClaim := { program := "ythaffebapmkppaagreat", sum := "6b8cab023b0ab76fea309601e5f56aad4371e9c9da3a709ff28f1e84b14efc24", func := "scrutineer/scrutineerlaw17.RoundAll", spec := "roundAll", unfollowed := true, recurses := true, apart := false, narrowed := true }
def RoundAllUptoSaid : Prop := roundAllUptoRow.holds Tryz.pinned (OpenSpec.upto roundAllSpec)

/-- 'scrutineerlaw18.ProposeNil', WHERE WHAT IT READS IS OF BULK AT MOST 1048576: true; the input reads as it did. -/
def proposeNilUptoRow : OpenClaim := { program := "ythaffebapmkppaagreat", sum := "6b8cab023b0ab76fea309601e5f56aad4371e9c9da3a709ff28f1e84b14efc24", func := "scrutineer/scrutineerlaw18.ProposeNil", spec := "proposeNil", inPlace := ["slices.overlaps[scrutineer/api.Mark]", "slices.overlaps[scrutineer/api.Done]"], unfollowed := true, recurses := true, apart := false, narrowed := true }
def ProposeNilUptoSaid : Prop := proposeNilUptoRow.holds Tryz.pinned (OpenSpec.upto proposeNilSpec)

end Rows
end Go.Proofs.YthaffebapmkppaaGreat
