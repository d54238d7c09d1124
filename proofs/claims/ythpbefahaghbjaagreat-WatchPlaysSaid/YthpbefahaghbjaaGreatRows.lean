/-
  No cell of these rows narrows 'for every input' (looked for: loops, veiled, ifaces, maps, wideKeys, modest, calm, conditions, laid).
  DERIVED. THE GIVEN ROWS OF THIS SEAT. 3 by the template 'for every input the law returns true; each argument reads behind the call as it read before'; 0 by the template 'total and deterministic' (their statements: YthpbefahaghbjaaGreatTotals.lean).
  GIVEN WITH THE SEED: the statements are not yours to turn. If you find one false, say at which input.
  Laid BY PROGRAM, IN A SANDBOX (cutbox-rows.mjs): the forced cells as the released guide's own fill.sh prints them over the translation 72df55852a510871… (all of the seat's roots in one cut). By AI agents, Wed Nov 11 2026. No macro, syntax, notation, axiom, sorry.
-/
import Derived.Test.YthpbefahaghbjaaGreatChecked
import GoSem.Claim
import GoSem.ClaimJoined
import GoSem.ClaimMapViews
import Derived.JoinedTies
import Derived.KernelRfl
namespace Go.Proofs.YthpbefahaghbjaaGreat
/- THE CELL 'sum', in the pinned program and in every row, IS THE sha256 OF THE DUMP (.gsa) THAT YthpbefahaghbjaaGreatProg.lean LOADS. Nothing in Lean hashes anything: it is a label: what it is worth is what the hold of that sum in a sandbox is worth. -/
noncomputable def Tryz.pinned : Pinned := { name := "ythpbefahaghbjaagreat", sum := "72df55852a510871c30638e41a16a1c61fcfcb79a03be603f7ef302b5d2c76c5", checked := Tryz.checked }
namespace Rows
def none {H : Type} : Left H := { results := [], args := [] }

/-- 'scrutineerlaw24.WatchStays': WHATEVER THE INPUT: true; the input reads as it did. -/
def watchStaysSpec : ChangeSpec := { name := "watchStays", fn := fun _ => fun
  | [d] => { results := [.lit (.bool true)], args := [d] }
  | _ => none }
def watchStaysRow : OpenClaim := { program := "ythpbefahaghbjaagreat", sum := "72df55852a510871c30638e41a16a1c61fcfcb79a03be603f7ef302b5d2c76c5", func := "scrutineer/scrutineerlaw24.WatchStays", spec := "watchStays", unfollowed := true, recurses := true, plainKeys := false, apart := false }
def WatchStaysSaid : Prop := watchStaysRow.holds Tryz.pinned (OpenSpec.ofChange watchStaysSpec)

/-- ITS FALSE NEIGHBOUR: 'it returns false'. Refute it at one input. -/
def watchStaysWrong : ChangeSpec := { name := "watchStays", fn := fun _ => fun
  | [d] => { results := [.lit (.bool false)], args := [d] }
  | _ => none }
def WatchStaysWrongFalsely : Prop := watchStaysRow.holds Tryz.pinned (OpenSpec.ofChange watchStaysWrong)

/-- 'scrutineerlaw24.WatchTurned': WHATEVER THE INPUT: true; the input reads as it did. -/
def watchTurnedSpec : ChangeSpec := { name := "watchTurned", fn := fun _ => fun
  | [d1, d2, d3] => { results := [.lit (.bool true)], args := [d1, d2, d3] }
  | _ => none }
def watchTurnedRow : OpenClaim := { program := "ythpbefahaghbjaagreat", sum := "72df55852a510871c30638e41a16a1c61fcfcb79a03be603f7ef302b5d2c76c5", func := "scrutineer/scrutineerlaw24.WatchTurned", spec := "watchTurned", unfollowed := true, recurses := true, plainKeys := false, apart := false }
def WatchTurnedSaid : Prop := watchTurnedRow.holds Tryz.pinned (OpenSpec.ofChange watchTurnedSpec)

/-- ITS FALSE NEIGHBOUR: 'it returns false'. Refute it at one input. -/
def watchTurnedWrong : ChangeSpec := { name := "watchTurned", fn := fun _ => fun
  | [d1, d2, d3] => { results := [.lit (.bool false)], args := [d1, d2, d3] }
  | _ => none }
def WatchTurnedWrongFalsely : Prop := watchTurnedRow.holds Tryz.pinned (OpenSpec.ofChange watchTurnedWrong)

/-- 'scrutineerlaw24.WatchPlays': WHATEVER THE INPUT: true; the input reads as it did. -/
def watchPlaysSpec : ChangeSpec := { name := "watchPlays", fn := fun _ => fun
  | [d1, d2] => { results := [.lit (.bool true)], args := [d1, d2] }
  | _ => none }
def watchPlaysRow : OpenClaim := { program := "ythpbefahaghbjaagreat", sum := "72df55852a510871c30638e41a16a1c61fcfcb79a03be603f7ef302b5d2c76c5", func := "scrutineer/scrutineerlaw24.WatchPlays", spec := "watchPlays", unfollowed := true, recurses := true, plainKeys := false, apart := false }
def WatchPlaysSaid : Prop := watchPlaysRow.holds Tryz.pinned (OpenSpec.ofChange watchPlaysSpec)

/-- ITS FALSE NEIGHBOUR: 'it returns false'. Refute it at one input. -/
def watchPlaysWrong : ChangeSpec := { name := "watchPlays", fn := fun _ => fun
  | [d1, d2] => { results := [.lit (.bool false)], args := [d1, d2] }
  | _ => none }
def WatchPlaysWrongFalsely : Prop := watchPlaysRow.holds Tryz.pinned (OpenSpec.ofChange watchPlaysWrong)

/- THE SECOND FORM. 'bulk': how many values and letters a reading holds, each counted each time it is reached (what is shared counts as often as it is met; a slice's spare places count too). A statement '..UptoSaid' is the law's where the arguments, and the package variables that the reading takes, are together of bulk at most 1048576: NARROWER than '..Said'. Prove '..Said' where nothing that the law and all that it calls make is longer than what came in: it says more and counts as full. Else prove '..UptoSaid'. A law counts once. -/
mutual
def uptoBulk {H : Type} : DataW H → Nat
  | .lit (.string bytes) => bytes.length + 1
  | .lit _ => 1
  | .nil => 1
  | .ptr d => uptoBulk d + 1
  | .slice elems spare => uptoBulkAll elems + uptoBulkAll spare + 1
  | .agg parts => uptoBulkAll parts + 1
  | .iface _ d => uptoBulk d + 1
  | .map entries => uptoBulkEntries entries + 1
  | .held _ => 1
def uptoBulkAll {H : Type} : List (DataW H) → Nat
  | [] => 0
  | d :: r => uptoBulk d + uptoBulkAll r
def uptoBulkEntries {H : Type} : List (Lit × DataW H) → Nat
  | [] => 0
  | x :: r => uptoBulkEntry x + uptoBulkEntries r
def uptoBulkEntry {H : Type} : Lit × DataW H → Nat
  | (.string bytes, d) => bytes.length + uptoBulk d + 1
  | (_, d) => uptoBulk d + 1
 end
def uptoSmall : (H : Type) → List (DataW H) → Bool := fun _ ds => decide (uptoBulkAll ds ≤ 1048576)
def OpenSpec.upto (s : _root_.Go.ChangeSpec) : _root_.Go.OpenSpec := { _root_.Go.OpenSpec.ofChange s with cond := some uptoSmall }

/-- 'scrutineerlaw24.WatchStays', WHERE WHAT IT READS IS OF BULK AT MOST 1048576: true; the input reads as it did. -/
def watchStaysUptoRow : OpenClaim := { program := "ythpbefahaghbjaagreat", sum := "72df55852a510871c30638e41a16a1c61fcfcb79a03be603f7ef302b5d2c76c5", func := "scrutineer/scrutineerlaw24.WatchStays", spec := "watchStays", unfollowed := true, recurses := true, plainKeys := false, apart := false, narrowed := true }
def WatchStaysUptoSaid : Prop := watchStaysUptoRow.holds Tryz.pinned (OpenSpec.upto watchStaysSpec)

/-- 'scrutineerlaw24.WatchTurned', WHERE WHAT IT READS IS OF BULK AT MOST 1048576: true; the input reads as it did. -/
def watchTurnedUptoRow : OpenClaim := { program := "ythpbefahaghbjaagreat", sum := "72df55852a510871c30638e41a16a1c61fcfcb79a03be603f7ef302b5d2c76c5", func := "scrutineer/scrutineerlaw24.WatchTurned", spec := "watchTurned", unfollowed := true, recurses := true, plainKeys := false, apart := false, narrowed := true }
def WatchTurnedUptoSaid : Prop := watchTurnedUptoRow.holds Tryz.pinned (OpenSpec.upto watchTurnedSpec)

/-- 'scrutineerlaw24.WatchPlays', WHERE WHAT IT READS IS OF BULK AT MOST 1048576: true; the input reads as it did. -/
def watchPlaysUptoRow : OpenClaim := { program := "ythpbefahaghbjaagreat", sum := "72df55852a510871c30638e41a16a1c61fcfcb79a03be603f7ef302b5d2c76c5", func := "scrutineer/scrutineerlaw24.WatchPlays", spec := "watchPlays", unfollowed := true, recurses := true, plainKeys := false, apart := false, narrowed := true }
def WatchPlaysUptoSaid : Prop := watchPlaysUptoRow.holds Tryz.pinned (OpenSpec.upto watchPlaysSpec)

end Rows
end Go.Proofs.YthpbefahaghbjaaGreat
