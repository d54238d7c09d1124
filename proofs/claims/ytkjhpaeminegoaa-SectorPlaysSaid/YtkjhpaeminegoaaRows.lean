/-
  No cell of these rows narrows 'for every input' (looked for: loops, veiled, ifaces, maps, wideKeys, modest, calm, conditions, laid).
  DERIVED. THE GIVEN ROWS OF THIS SEAT. 7 by the template 'for every input the law returns true; each argument reads behind the call as it read before'; 0 by the template 'total and deterministic' (their statements: YtkjhpaeminegoaaTotals.lean).
  GIVEN WITH THE SEED: the statements are not yours to turn. If you find one false, say at which input.
  Laid BY PROGRAM, IN A SANDBOX (cutbox-rows.mjs): the forced cells as the released guide's own fill.sh prints them over the translation c2cd78eb2c104ae6… (all of the seat's roots in one cut). By AI agents, Wed Nov 11 2026. No macro, syntax, notation, axiom, sorry.
-/
import Derived.Test.YtkjhpaeminegoaaChecked
import GoSem.Claim
import GoSem.ClaimJoined
import GoSem.ClaimMapViews
import Derived.JoinedTies
import Derived.KernelRfl
namespace Go.Proofs.Ytkjhpaeminegoaa
/- THE CELL 'sum', in the pinned program and in every row, IS THE sha256 OF THE DUMP (.gsa) THAT YtkjhpaeminegoaaProg.lean LOADS. Nothing in Lean hashes anything: it is a label: what it is worth is what the hold of that sum in a sandbox is worth. -/
noncomputable def Try.pinned : Pinned := { name := "ytkjhpaeminegoaa", sum := "c2cd78eb2c104ae6d19e0c13fa7f906b90fb78afd71380459b4c47448be45ec7", checked := Try.checked }
namespace Rows
def none {H : Type} : Left H := { results := [], args := [] }

/-- 'scrutineerlaw12.SectorSynced': WHATEVER THE INPUT: true; the input reads as it did. -/
def sectorSyncedSpec : ChangeSpec := { name := "sectorSynced", fn := fun _ => fun
  | [d1, d2, d3, d4, d5, d6] => { results := [.lit (.bool true)], args := [d1, d2, d3, d4, d5, d6] }
  | _ => none }
def sectorSyncedRow : OpenClaim := { program := "ytkjhpaeminegoaa", sum := "c2cd78eb2c104ae6d19e0c13fa7f906b90fb78afd71380459b4c47448be45ec7", func := "scrutineer/scrutineerlaw12.SectorSynced", spec := "sectorSynced", unfollowed := true, recurses := true, apart := false }
def SectorSyncedSaid : Prop := sectorSyncedRow.holds Try.pinned (OpenSpec.ofChange sectorSyncedSpec)

/-- ITS FALSE NEIGHBOUR: 'it returns false'. Refute it at one input. -/
def sectorSyncedWrong : ChangeSpec := { name := "sectorSynced", fn := fun _ => fun
  | [d1, d2, d3, d4, d5, d6] => { results := [.lit (.bool false)], args := [d1, d2, d3, d4, d5, d6] }
  | _ => none }
def SectorSyncedWrongFalsely : Prop := sectorSyncedRow.holds Try.pinned (OpenSpec.ofChange sectorSyncedWrong)

/-- 'scrutineerlaw12.SectorAll': WHATEVER THE INPUT: true; the input reads as it did. -/
def sectorAllSpec : ChangeSpec := { name := "sectorAll", fn := fun _ => fun
  | [d1, d2, d3] => { results := [.lit (.bool true)], args := [d1, d2, d3] }
  | _ => none }
def sectorAllRow : OpenClaim := { program := "ytkjhpaeminegoaa", sum := "c2cd78eb2c104ae6d19e0c13fa7f906b90fb78afd71380459b4c47448be45ec7", func := "scrutineer/scrutineerlaw12.SectorAll", spec := "sectorAll", unfollowed := true, recurses := true, apart := false }
def SectorAllSaid : Prop := sectorAllRow.holds Try.pinned (OpenSpec.ofChange sectorAllSpec)

/-- ITS FALSE NEIGHBOUR: 'it returns false'. Refute it at one input. -/
def sectorAllWrong : ChangeSpec := { name := "sectorAll", fn := fun _ => fun
  | [d1, d2, d3] => { results := [.lit (.bool false)], args := [d1, d2, d3] }
  | _ => none }
def SectorAllWrongFalsely : Prop := sectorAllRow.holds Try.pinned (OpenSpec.ofChange sectorAllWrong)

/-- 'scrutineerlaw12.SectorPlays': WHATEVER THE INPUT: true; the input reads as it did. -/
def sectorPlaysSpec : ChangeSpec := { name := "sectorPlays", fn := fun _ => fun
  | [d1, d2, d3] => { results := [.lit (.bool true)], args := [d1, d2, d3] }
  | _ => none }
def sectorPlaysRow : OpenClaim := { program := "ytkjhpaeminegoaa", sum := "c2cd78eb2c104ae6d19e0c13fa7f906b90fb78afd71380459b4c47448be45ec7", func := "scrutineer/scrutineerlaw12.SectorPlays", spec := "sectorPlays", unfollowed := true, recurses := true, apart := false }
def SectorPlaysSaid : Prop := sectorPlaysRow.holds Try.pinned (OpenSpec.ofChange sectorPlaysSpec)

/-- ITS FALSE NEIGHBOUR: 'it returns false'. Refute it at one input. -/
def sectorPlaysWrong : ChangeSpec := { name := "sectorPlays", fn := fun _ => fun
  | [d1, d2, d3] => { results := [.lit (.bool false)], args := [d1, d2, d3] }
  | _ => none }
def SectorPlaysWrongFalsely : Prop := sectorPlaysRow.holds Try.pinned (OpenSpec.ofChange sectorPlaysWrong)

/-- 'scrutineerlaw12.SectorNew': WHATEVER THE INPUT: true; the input reads as it did. -/
def sectorNewSpec : ChangeSpec := { name := "sectorNew", fn := fun _ => fun
  | [d1, d2, d3, d4, d5] => { results := [.lit (.bool true)], args := [d1, d2, d3, d4, d5] }
  | _ => none }
def sectorNewRow : OpenClaim := { program := "ytkjhpaeminegoaa", sum := "c2cd78eb2c104ae6d19e0c13fa7f906b90fb78afd71380459b4c47448be45ec7", func := "scrutineer/scrutineerlaw12.SectorNew", spec := "sectorNew", unfollowed := true, recurses := true, apart := false }
def SectorNewSaid : Prop := sectorNewRow.holds Try.pinned (OpenSpec.ofChange sectorNewSpec)

/-- ITS FALSE NEIGHBOUR: 'it returns false'. Refute it at one input. -/
def sectorNewWrong : ChangeSpec := { name := "sectorNew", fn := fun _ => fun
  | [d1, d2, d3, d4, d5] => { results := [.lit (.bool false)], args := [d1, d2, d3, d4, d5] }
  | _ => none }
def SectorNewWrongFalsely : Prop := sectorNewRow.holds Try.pinned (OpenSpec.ofChange sectorNewWrong)

/-- 'scrutineerlaw14.RecordSame': WHATEVER THE INPUT: true; the input reads as it did. -/
def recordSameSpec : ChangeSpec := { name := "recordSame", fn := fun _ => fun
  | [d1, d2] => { results := [.lit (.bool true)], args := [d1, d2] }
  | _ => none }
def recordSameRow : OpenClaim := { program := "ytkjhpaeminegoaa", sum := "c2cd78eb2c104ae6d19e0c13fa7f906b90fb78afd71380459b4c47448be45ec7", func := "scrutineer/scrutineerlaw14.RecordSame", spec := "recordSame", unfollowed := true, recurses := true, apart := false }
def RecordSameSaid : Prop := recordSameRow.holds Try.pinned (OpenSpec.ofChange recordSameSpec)

/-- ITS FALSE NEIGHBOUR: 'it returns false'. Refute it at one input. -/
def recordSameWrong : ChangeSpec := { name := "recordSame", fn := fun _ => fun
  | [d1, d2] => { results := [.lit (.bool false)], args := [d1, d2] }
  | _ => none }
def RecordSameWrongFalsely : Prop := recordSameRow.holds Try.pinned (OpenSpec.ofChange recordSameWrong)

/-- 'scrutineerlaw14.RecordTwice': WHATEVER THE INPUT: true; the input reads as it did. -/
def recordTwiceSpec : ChangeSpec := { name := "recordTwice", fn := fun _ => fun
  | [d1, d2] => { results := [.lit (.bool true)], args := [d1, d2] }
  | _ => none }
def recordTwiceRow : OpenClaim := { program := "ytkjhpaeminegoaa", sum := "c2cd78eb2c104ae6d19e0c13fa7f906b90fb78afd71380459b4c47448be45ec7", func := "scrutineer/scrutineerlaw14.RecordTwice", spec := "recordTwice", unfollowed := true, recurses := true, apart := false }
def RecordTwiceSaid : Prop := recordTwiceRow.holds Try.pinned (OpenSpec.ofChange recordTwiceSpec)

/-- ITS FALSE NEIGHBOUR: 'it returns false'. Refute it at one input. -/
def recordTwiceWrong : ChangeSpec := { name := "recordTwice", fn := fun _ => fun
  | [d1, d2] => { results := [.lit (.bool false)], args := [d1, d2] }
  | _ => none }
def RecordTwiceWrongFalsely : Prop := recordTwiceRow.holds Try.pinned (OpenSpec.ofChange recordTwiceWrong)

/-- 'scrutineerlaw14.RecordFolds': WHATEVER THE INPUT: true; the input reads as it did. -/
def recordFoldsSpec : ChangeSpec := { name := "recordFolds", fn := fun _ => fun
  | [d] => { results := [.lit (.bool true)], args := [d] }
  | _ => none }
def recordFoldsRow : OpenClaim := { program := "ytkjhpaeminegoaa", sum := "c2cd78eb2c104ae6d19e0c13fa7f906b90fb78afd71380459b4c47448be45ec7", func := "scrutineer/scrutineerlaw14.RecordFolds", spec := "recordFolds", unfollowed := true, recurses := true, apart := false }
def RecordFoldsSaid : Prop := recordFoldsRow.holds Try.pinned (OpenSpec.ofChange recordFoldsSpec)

/-- ITS FALSE NEIGHBOUR: 'it returns false'. Refute it at one input. -/
def recordFoldsWrong : ChangeSpec := { name := "recordFolds", fn := fun _ => fun
  | [d] => { results := [.lit (.bool false)], args := [d] }
  | _ => none }
def RecordFoldsWrongFalsely : Prop := recordFoldsRow.holds Try.pinned (OpenSpec.ofChange recordFoldsWrong)

/- THE SECOND FORM. 'bulk': how many values and letters a reading holds, each counted each time it is reached (what is shared counts as often as it is met; a slice's spare places count too). A statement '..UptoSaid' is the law's where the arguments, and the package variables that the reading takes, are together of bulk at most 1048576: NARROWER than '..Said'. Prove '..Said' where nothing that the law and all that it calls make is longer than what came in: it says more and counts as full. Else prove '..UptoSaid'. A law counts once. -/
mutual
def uptoBulk {H : Type} : DataW H → Nat
  | .lit (.string bytes) => bytes.length + 1
  | .lit _ => 1
  | .nil => 1
  | .ptr d => uptoBulk d + 1
  | .slice elems spare => uptoBulkAll elems + uptoBulkAll spare + 1
  | .agg parts => uptoBulkAll parts + 1
  | .iface _ d => uptoBulk d + 1
  | .map entries => uptoBulkEntries entries + 1
  | .held _ => 1
def uptoBulkAll {H : Type} : List (DataW H) → Nat
  | [] => 0
  | d :: r => uptoBulk d + uptoBulkAll r
def uptoBulkEntries {H : Type} : List (Lit × DataW H) → Nat
  | [] => 0
  | x :: r => uptoBulkEntry x + uptoBulkEntries r
def uptoBulkEntry {H : Type} : Lit × DataW H → Nat
  | (.string bytes, d) => bytes.length + uptoBulk d + 1
  | (_, d) => uptoBulk d + 1
 end
def uptoSmall : (H : Type) → List (DataW H) → Bool := fun _ ds => decide (uptoBulkAll ds ≤ 1048576)
def OpenSpec.upto (s : _root_.Go.ChangeSpec) : _root_.Go.OpenSpec := { _root_.Go.OpenSpec.ofChange s with cond := some uptoSmall }

/-- 'scrutineerlaw12.SectorSynced', WHERE WHAT IT READS IS OF BULK AT MOST 1048576: true; the input reads as it did. -/
def sectorSyncedUptoRow : OpenClaim := { program := "ytkjhpaeminegoaa", sum := "c2cd78eb2c104ae6d19e0c13fa7f906b90fb78afd71380459b4c47448be45ec7", func := "scrutineer/scrutineerlaw12.SectorSynced", spec := "sectorSynced", unfollowed := true, recurses := true, apart := false, narrowed := true }
def SectorSyncedUptoSaid : Prop := sectorSyncedUptoRow.holds Try.pinned (OpenSpec.upto sectorSyncedSpec)

/-- 'scrutineerlaw12.SectorAll', WHERE WHAT IT READS IS OF BULK AT MOST 1048576: true; the input reads as it did. -/
def sectorAllUptoRow : OpenClaim := { program := "ytkjhpaeminegoaa", sum := "c2cd78eb2c104ae6d19e0c13fa7f906b90fb78afd71380459b4c47448be45ec7", func := "scrutineer/scrutineerlaw12.SectorAll", spec := "sectorAll", unfollowed := true, recurses := true, apart := false, narrowed := true }
def SectorAllUptoSaid : Prop := sectorAllUptoRow.holds Try.pinned (OpenSpec.upto sectorAllSpec)

/-- 'scrutineerlaw12.SectorPlays', WHERE WHAT IT READS IS OF BULK AT MOST 1048576: true; the input reads as it did. -/
def sectorPlaysUptoRow : OpenClaim := { program := "ytkjhpaeminegoaa", sum := "c2cd78eb2c104ae6d19e0c13fa7f906b90fb78afd71380459b4c47448be45ec7", func := "scrutineer/scrutineerlaw12.SectorPlays", spec := "sectorPlays", unfollowed := true, recurses := true, apart := false, narrowed := true }
def SectorPlaysUptoSaid : Prop := sectorPlaysUptoRow.holds Try.pinned (OpenSpec.upto sectorPlaysSpec)

/-- 'scrutineerlaw12.SectorNew', WHERE WHAT IT READS IS OF BULK AT MOST 1048576: true; the input reads as it did. -/
def sectorNewUptoRow : OpenClaim := { program := "ytkjhpaeminegoaa", sum := "c2cd78eb2c104ae6d19e0c13fa7f906b90fb78afd71380459b4c47448be45ec7", func := "scrutineer/scrutineerlaw12.SectorNew", spec := "sectorNew", unfollowed := true, recurses := true, apart := false, narrowed := true }
def SectorNewUptoSaid : Prop := sectorNewUptoRow.holds Try.pinned (OpenSpec.upto sectorNewSpec)

/-- 'scrutineerlaw14.RecordSame', WHERE WHAT IT READS IS OF BULK AT MOST 1048576: true; the input reads as it did. -/
def recordSameUptoRow : OpenClaim := { program := "ytkjhpaeminegoaa", sum := "c2cd78eb2c104ae6d19e0c13fa7f906b90fb78afd71380459b4c47448be45ec7", func := "scrutineer/scrutineerlaw14.RecordSame", spec := "recordSame", unfollowed := true, recurses := true, apart := false, narrowed := true }
def RecordSameUptoSaid : Prop := recordSameUptoRow.holds Try.pinned (OpenSpec.upto recordSameSpec)

/-- 'scrutineerlaw14.RecordTwice', WHERE WHAT IT READS IS OF BULK AT MOST 1048576: true; the input reads as it did. -/
def recordTwiceUptoRow : OpenClaim := { program := "ytkjhpaeminegoaa", sum := "c2cd78eb2c104ae6d19e0c13fa7f906b90fb78afd71380459b4c47448be45ec7", func := "scrutineer/scrutineerlaw14.RecordTwice", spec := "recordTwice", unfollowed := true, recurses := true, apart := false, narrowed := true }
def RecordTwiceUptoSaid : Prop := recordTwiceUptoRow.holds Try.pinned (OpenSpec.upto recordTwiceSpec)

/-- 'scrutineerlaw14.RecordFolds', WHERE WHAT IT READS IS OF BULK AT MOST 1048576: true; the input reads as it did. -/
def recordFoldsUptoRow : OpenClaim := { program := "ytkjhpaeminegoaa", sum := "c2cd78eb2c104ae6d19e0c13fa7f906b90fb78afd71380459b4c47448be45ec7", func := "scrutineer/scrutineerlaw14.RecordFolds", spec := "recordFolds", unfollowed := true, recurses := true, apart := false, narrowed := true }
def RecordFoldsUptoSaid : Prop := recordFoldsUptoRow.holds Try.pinned (OpenSpec.upto recordFoldsSpec)

end Rows
end Go.Proofs.Ytkjhpaeminegoaa
