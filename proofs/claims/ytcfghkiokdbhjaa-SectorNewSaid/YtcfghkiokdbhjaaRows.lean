/-
  No cell of these rows narrows 'for every input' (looked for: loops, veiled, ifaces, maps, wideKeys, modest, calm, conditions, laid).
  DERIVED. THE GIVEN ROWS OF THIS SEAT. 11 by the template 'for every input the law returns true; each argument reads behind the call as it read before'; 0 by the template 'total and deterministic' (their statements: YtcfghkiokdbhjaaTotals.lean).
  GIVEN WITH THE SEED: the statements are not yours to turn. If you find one false, say at which input.
  Laid BY PROGRAM, IN A SANDBOX (cutbox-rows.mjs): the forced cells as the released guide's own fill.sh prints them over the translation afde58f15c6d52bd… (all of the seat's roots in one cut). By AI agents, Wed Nov 11 2026. No macro, syntax, notation, axiom, sorry.
-/
import Derived.Test.YtcfghkiokdbhjaaChecked
import GoSem.Claim
import GoSem.ClaimJoined
import GoSem.ClaimMapViews
import Derived.JoinedTies
import Derived.KernelRfl
namespace Go.Proofs.Ytcfghkiokdbhjaa
/- THE CELL 'sum', in the pinned program and in every row, IS THE sha256 OF THE DUMP (.gsa) THAT YtcfghkiokdbhjaaProg.lean LOADS. Nothing in Lean hashes anything: it is a label: what it is worth is what the hold of that sum in a sandbox is worth. -/
noncomputable def Try.pinned : Pinned := { name := "ytcfghkiokdbhjaa", sum := "afde58f15c6d52bd14ad35feaac746bc7819d69a995861a06b2d114907dba014", checked := Try.checked }
namespace Rows
def none {H : Type} : Left H := { results := [], args := [] }

/-- 'scrutineerlaw20.WorkerOnly': WHATEVER THE INPUT: true; the input reads as it did. -/
def workerOnlySpec : ChangeSpec := { name := "workerOnly", fn := fun _ => fun
  | [d] => { results := [.lit (.bool true)], args := [d] }
  | _ => none }
def workerOnlyRow : OpenClaim := { program := "ytcfghkiokdbhjaa", sum := "afde58f15c6d52bd14ad35feaac746bc7819d69a995861a06b2d114907dba014", func := "scrutineer/scrutineerlaw20.WorkerOnly", spec := "workerOnly", apart := false }
def WorkerOnlySaid : Prop := workerOnlyRow.holds Try.pinned (OpenSpec.ofChange workerOnlySpec)

/-- ITS FALSE NEIGHBOUR: 'it returns false'. Refute it at one input. -/
def workerOnlyWrong : ChangeSpec := { name := "workerOnly", fn := fun _ => fun
  | [d] => { results := [.lit (.bool false)], args := [d] }
  | _ => none }
def WorkerOnlyWrongFalsely : Prop := workerOnlyRow.holds Try.pinned (OpenSpec.ofChange workerOnlyWrong)

/-- 'scrutineerlaw20.WorkerNil': WHATEVER THE INPUT: true; the input reads as it did. -/
def workerNilSpec : ChangeSpec := { name := "workerNil", fn := fun _ => fun
  | [d1, d2, d3] => { results := [.lit (.bool true)], args := [d1, d2, d3] }
  | _ => none }
def workerNilRow : OpenClaim := { program := "ytcfghkiokdbhjaa", sum := "afde58f15c6d52bd14ad35feaac746bc7819d69a995861a06b2d114907dba014", func := "scrutineer/scrutineerlaw20.WorkerNil", spec := "workerNil", apart := false }
def WorkerNilSaid : Prop := workerNilRow.holds Try.pinned (OpenSpec.ofChange workerNilSpec)

/-- ITS FALSE NEIGHBOUR: 'it returns false'. Refute it at one input. -/
def workerNilWrong : ChangeSpec := { name := "workerNil", fn := fun _ => fun
  | [d1, d2, d3] => { results := [.lit (.bool false)], args := [d1, d2, d3] }
  | _ => none }
def WorkerNilWrongFalsely : Prop := workerNilRow.holds Try.pinned (OpenSpec.ofChange workerNilWrong)

/-- 'scrutineerlaw20.WorkerResets': WHATEVER THE INPUT: true; the input reads as it did. -/
def workerResetsSpec : ChangeSpec := { name := "workerResets", fn := fun _ => fun
  | [d] => { results := [.lit (.bool true)], args := [d] }
  | _ => none }
def workerResetsRow : OpenClaim := { program := "ytcfghkiokdbhjaa", sum := "afde58f15c6d52bd14ad35feaac746bc7819d69a995861a06b2d114907dba014", func := "scrutineer/scrutineerlaw20.WorkerResets", spec := "workerResets", apart := false }
def WorkerResetsSaid : Prop := workerResetsRow.holds Try.pinned (OpenSpec.ofChange workerResetsSpec)

/-- ITS FALSE NEIGHBOUR: 'it returns false'. Refute it at one input. -/
def workerResetsWrong : ChangeSpec := { name := "workerResets", fn := fun _ => fun
  | [d] => { results := [.lit (.bool false)], args := [d] }
  | _ => none }
def WorkerResetsWrongFalsely : Prop := workerResetsRow.holds Try.pinned (OpenSpec.ofChange workerResetsWrong)

/-- 'scrutineerlaw25.HistoryPlays': WHATEVER THE INPUT: true; the input reads as it did. -/
def historyPlaysSpec : ChangeSpec := { name := "historyPlays", fn := fun _ => fun
  | [d] => { results := [.lit (.bool true)], args := [d] }
  | _ => none }
def historyPlaysRow : OpenClaim := { program := "ytcfghkiokdbhjaa", sum := "afde58f15c6d52bd14ad35feaac746bc7819d69a995861a06b2d114907dba014", func := "scrutineer/scrutineerlaw25.HistoryPlays", spec := "historyPlays", unfollowed := true, recurses := true, apart := false }
def HistoryPlaysSaid : Prop := historyPlaysRow.holds Try.pinned (OpenSpec.ofChange historyPlaysSpec)

/-- ITS FALSE NEIGHBOUR: 'it returns false'. Refute it at one input. -/
def historyPlaysWrong : ChangeSpec := { name := "historyPlays", fn := fun _ => fun
  | [d] => { results := [.lit (.bool false)], args := [d] }
  | _ => none }
def HistoryPlaysWrongFalsely : Prop := historyPlaysRow.holds Try.pinned (OpenSpec.ofChange historyPlaysWrong)

/-- 'scrutineerlaw25.HistoryOne': WHATEVER THE INPUT: true; the input reads as it did. -/
def historyOneSpec : ChangeSpec := { name := "historyOne", fn := fun _ => fun
  | [d] => { results := [.lit (.bool true)], args := [d] }
  | _ => none }
def historyOneRow : OpenClaim := { program := "ytcfghkiokdbhjaa", sum := "afde58f15c6d52bd14ad35feaac746bc7819d69a995861a06b2d114907dba014", func := "scrutineer/scrutineerlaw25.HistoryOne", spec := "historyOne", unfollowed := true, recurses := true, apart := false }
def HistoryOneSaid : Prop := historyOneRow.holds Try.pinned (OpenSpec.ofChange historyOneSpec)

/-- ITS FALSE NEIGHBOUR: 'it returns false'. Refute it at one input. -/
def historyOneWrong : ChangeSpec := { name := "historyOne", fn := fun _ => fun
  | [d] => { results := [.lit (.bool false)], args := [d] }
  | _ => none }
def HistoryOneWrongFalsely : Prop := historyOneRow.holds Try.pinned (OpenSpec.ofChange historyOneWrong)

/-- 'scrutineerlaw25.HistoryNil': WHATEVER THE INPUT: true; the input reads as it did. -/
def historyNilSpec : ChangeSpec := { name := "historyNil", fn := fun _ => fun
  | [d1, d2, d3] => { results := [.lit (.bool true)], args := [d1, d2, d3] }
  | _ => none }
def historyNilRow : OpenClaim := { program := "ytcfghkiokdbhjaa", sum := "afde58f15c6d52bd14ad35feaac746bc7819d69a995861a06b2d114907dba014", func := "scrutineer/scrutineerlaw25.HistoryNil", spec := "historyNil", unfollowed := true, recurses := true, apart := false }
def HistoryNilSaid : Prop := historyNilRow.holds Try.pinned (OpenSpec.ofChange historyNilSpec)

/-- ITS FALSE NEIGHBOUR: 'it returns false'. Refute it at one input. -/
def historyNilWrong : ChangeSpec := { name := "historyNil", fn := fun _ => fun
  | [d1, d2, d3] => { results := [.lit (.bool false)], args := [d1, d2, d3] }
  | _ => none }
def HistoryNilWrongFalsely : Prop := historyNilRow.holds Try.pinned (OpenSpec.ofChange historyNilWrong)

/-- 'scrutineerlaw25.HistoryStays': WHATEVER THE INPUT: true; the input reads as it did. -/
def historyStaysSpec : ChangeSpec := { name := "historyStays", fn := fun _ => fun
  | [d] => { results := [.lit (.bool true)], args := [d] }
  | _ => none }
def historyStaysRow : OpenClaim := { program := "ytcfghkiokdbhjaa", sum := "afde58f15c6d52bd14ad35feaac746bc7819d69a995861a06b2d114907dba014", func := "scrutineer/scrutineerlaw25.HistoryStays", spec := "historyStays", unfollowed := true, recurses := true, apart := false }
def HistoryStaysSaid : Prop := historyStaysRow.holds Try.pinned (OpenSpec.ofChange historyStaysSpec)

/-- ITS FALSE NEIGHBOUR: 'it returns false'. Refute it at one input. -/
def historyStaysWrong : ChangeSpec := { name := "historyStays", fn := fun _ => fun
  | [d] => { results := [.lit (.bool false)], args := [d] }
  | _ => none }
def HistoryStaysWrongFalsely : Prop := historyStaysRow.holds Try.pinned (OpenSpec.ofChange historyStaysWrong)

/-- 'scrutineerlaw12.SectorSynced': WHATEVER THE INPUT: true; the input reads as it did. -/
def sectorSyncedSpec : ChangeSpec := { name := "sectorSynced", fn := fun _ => fun
  | [d1, d2, d3, d4, d5, d6] => { results := [.lit (.bool true)], args := [d1, d2, d3, d4, d5, d6] }
  | _ => none }
def sectorSyncedRow : OpenClaim := { program := "ytcfghkiokdbhjaa", sum := "afde58f15c6d52bd14ad35feaac746bc7819d69a995861a06b2d114907dba014", func := "scrutineer/scrutineerlaw12.SectorSynced", spec := "sectorSynced", unfollowed := true, recurses := true, apart := false }
def SectorSyncedSaid : Prop := sectorSyncedRow.holds Try.pinned (OpenSpec.ofChange sectorSyncedSpec)

/-- ITS FALSE NEIGHBOUR: 'it returns false'. Refute it at one input. -/
def sectorSyncedWrong : ChangeSpec := { name := "sectorSynced", fn := fun _ => fun
  | [d1, d2, d3, d4, d5, d6] => { results := [.lit (.bool false)], args := [d1, d2, d3, d4, d5, d6] }
  | _ => none }
def SectorSyncedWrongFalsely : Prop := sectorSyncedRow.holds Try.pinned (OpenSpec.ofChange sectorSyncedWrong)

/-- 'scrutineerlaw12.SectorAll': WHATEVER THE INPUT: true; the input reads as it did. -/
def sectorAllSpec : ChangeSpec := { name := "sectorAll", fn := fun _ => fun
  | [d1, d2, d3] => { results := [.lit (.bool true)], args := [d1, d2, d3] }
  | _ => none }
def sectorAllRow : OpenClaim := { program := "ytcfghkiokdbhjaa", sum := "afde58f15c6d52bd14ad35feaac746bc7819d69a995861a06b2d114907dba014", func := "scrutineer/scrutineerlaw12.SectorAll", spec := "sectorAll", unfollowed := true, recurses := true, apart := false }
def SectorAllSaid : Prop := sectorAllRow.holds Try.pinned (OpenSpec.ofChange sectorAllSpec)

/-- ITS FALSE NEIGHBOUR: 'it returns false'. Refute it at one input. -/
def sectorAllWrong : ChangeSpec := { name := "sectorAll", fn := fun _ => fun
  | [d1, d2, d3] => { results := [.lit (.bool false)], args := [d1, d2, d3] }
  | _ => none }
def SectorAllWrongFalsely : Prop := sectorAllRow.holds Try.pinned (OpenSpec.ofChange sectorAllWrong)

/-- 'scrutineerlaw12.SectorPlays': WHATEVER THE INPUT: true; the input reads as it did. -/
def sectorPlaysSpec : ChangeSpec := { name := "sectorPlays", fn := fun _ => fun
  | [d1, d2, d3] => { results := [.lit (.bool true)], args := [d1, d2, d3] }
  | _ => none }
def sectorPlaysRow : OpenClaim := { program := "ytcfghkiokdbhjaa", sum := "afde58f15c6d52bd14ad35feaac746bc7819d69a995861a06b2d114907dba014", func := "scrutineer/scrutineerlaw12.SectorPlays", spec := "sectorPlays", unfollowed := true, recurses := true, apart := false }
def SectorPlaysSaid : Prop := sectorPlaysRow.holds Try.pinned (OpenSpec.ofChange sectorPlaysSpec)

/-- ITS FALSE NEIGHBOUR: 'it returns false'. Refute it at one input. -/
def sectorPlaysWrong : ChangeSpec := { name := "sectorPlays", fn := fun _ => fun
  | [d1, d2, d3] => { results := [.lit (.bool false)], args := [d1, d2, d3] }
  | _ => none }
def SectorPlaysWrongFalsely : Prop := sectorPlaysRow.holds Try.pinned (OpenSpec.ofChange sectorPlaysWrong)

/-- 'scrutineerlaw12.SectorNew': WHATEVER THE INPUT: true; the input reads as it did. -/
def sectorNewSpec : ChangeSpec := { name := "sectorNew", fn := fun _ => fun
  | [d1, d2, d3, d4, d5] => { results := [.lit (.bool true)], args := [d1, d2, d3, d4, d5] }
  | _ => none }
def sectorNewRow : OpenClaim := { program := "ytcfghkiokdbhjaa", sum := "afde58f15c6d52bd14ad35feaac746bc7819d69a995861a06b2d114907dba014", func := "scrutineer/scrutineerlaw12.SectorNew", spec := "sectorNew", unfollowed := true, recurses := true, apart := false }
def SectorNewSaid : Prop := sectorNewRow.holds Try.pinned (OpenSpec.ofChange sectorNewSpec)

/-- ITS FALSE NEIGHBOUR: 'it returns false'. Refute it at one input. -/
def sectorNewWrong : ChangeSpec := { name := "sectorNew", fn := fun _ => fun
  | [d1, d2, d3, d4, d5] => { results := [.lit (.bool false)], args := [d1, d2, d3, d4, d5] }
  | _ => none }
def SectorNewWrongFalsely : Prop := sectorNewRow.holds Try.pinned (OpenSpec.ofChange sectorNewWrong)

/- THE SECOND FORM. 'bulk': how many values and letters a reading holds, each counted each time it is reached (what is shared counts as often as it is met; a slice's spare places count too). A statement '..UptoSaid' is the law's where the arguments, and the package variables that the reading takes, are together of bulk at most 1048576: NARROWER than '..Said'. Prove '..Said' where nothing that the law and all that it calls make is longer than what came in: it says more and counts as full. Else prove '..UptoSaid'. A law counts once. -/
mutual
def uptoBulk {H : Type} : DataW H → Nat
  | .lit (.string bytes) => bytes.length + 1
  | .lit _ => 1
  | .nil => 1
  | .ptr d => uptoBulk d + 1
  | .slice elems spare => uptoBulkAll elems + uptoBulkAll spare + 1
  | .agg parts => uptoBulkAll parts + 1
  | .iface _ d => uptoBulk d + 1
  | .map entries => uptoBulkEntries entries + 1
  | .held _ => 1
def uptoBulkAll {H : Type} : List (DataW H) → Nat
  | [] => 0
  | d :: r => uptoBulk d + uptoBulkAll r
def uptoBulkEntries {H : Type} : List (Lit × DataW H) → Nat
  | [] => 0
  | x :: r => uptoBulkEntry x + uptoBulkEntries r
def uptoBulkEntry {H : Type} : Lit × DataW H → Nat
  | (.string bytes, d) => bytes.length + uptoBulk d + 1
  | (_, d) => uptoBulk d + 1
 end
def uptoSmall : (H : Type) → List (DataW H) → Bool := fun _ ds => decide (uptoBulkAll ds ≤ 1048576)
def OpenSpec.upto (s : _root_.Go.ChangeSpec) : _root_.Go.OpenSpec := { _root_.Go.OpenSpec.ofChange s with cond := some uptoSmall }

/-- 'scrutineerlaw20.WorkerOnly', WHERE WHAT IT READS IS OF BULK AT MOST 1048576: true; the input reads as it did. -/
def workerOnlyUptoRow : OpenClaim := { program := "ytcfghkiokdbhjaa", sum := "afde58f15c6d52bd14ad35feaac746bc7819d69a995861a06b2d114907dba014", func := "scrutineer/scrutineerlaw20.WorkerOnly", spec := "workerOnly", apart := false, narrowed := true }
def WorkerOnlyUptoSaid : Prop := workerOnlyUptoRow.holds Try.pinned (OpenSpec.upto workerOnlySpec)

/-- 'scrutineerlaw20.WorkerNil', WHERE WHAT IT READS IS OF BULK AT MOST 1048576: true; the input reads as it did. -/
def workerNilUptoRow : OpenClaim := { program := "ytcfghkiokdbhjaa", sum := "afde58f15c6d52bd14ad35feaac746bc7819d69a995861a06b2d114907dba014", func := "scrutineer/scrutineerlaw20.WorkerNil", spec := "workerNil", apart := false, narrowed := true }
def WorkerNilUptoSaid : Prop := workerNilUptoRow.holds Try.pinned (OpenSpec.upto workerNilSpec)

/-- 'scrutineerlaw20.WorkerResets', WHERE WHAT IT READS IS OF BULK AT MOST 1048576: true; the input reads as it did. -/
def workerResetsUptoRow : OpenClaim := { program := "ytcfghkiokdbhjaa", sum := "afde58f15c6d52bd14ad35feaac746bc7819d69a995861a06b2d114907dba014", func := "scrutineer/scrutineerlaw20.WorkerResets", spec := "workerResets", apart := false, narrowed := true }
def WorkerResetsUptoSaid : Prop := workerResetsUptoRow.holds Try.pinned (OpenSpec.upto workerResetsSpec)

/-- 'scrutineerlaw25.HistoryPlays', WHERE WHAT IT READS IS OF BULK AT MOST 1048576: true; the input reads as it did. -/
def historyPlaysUptoRow : OpenClaim := { program := "ytcfghkiokdbhjaa", sum := "afde58f15c6d52bd14ad35feaac746bc7819d69a995861a06b2d114907dba014", func := "scrutineer/scrutineerlaw25.HistoryPlays", spec := "historyPlays", unfollowed := true, recurses := true, apart := false, narrowed := true }
def HistoryPlaysUptoSaid : Prop := historyPlaysUptoRow.holds Try.pinned (OpenSpec.upto historyPlaysSpec)

/-- 'scrutineerlaw25.HistoryOne', WHERE WHAT IT READS IS OF BULK AT MOST 1048576: true; the input reads as it did. -/
def historyOneUptoRow : OpenClaim := { program := "ytcfghkiokdbhjaa", sum := "afde58f15c6d52bd14ad35feaac746bc7819d69a995861a06b2d114907dba014", func := "scrutineer/scrutineerlaw25.HistoryOne", spec := "historyOne", unfollowed := true, recurses := true, apart := false, narrowed := true }
def HistoryOneUptoSaid : Prop := historyOneUptoRow.holds Try.pinned (OpenSpec.upto historyOneSpec)

/-- 'scrutineerlaw25.HistoryNil', WHERE WHAT IT READS IS OF BULK AT MOST 1048576: true; the input reads as it did. -/
def historyNilUptoRow : OpenClaim := { program := "ytcfghkiokdbhjaa", sum := "afde58f15c6d52bd14ad35feaac746bc7819d69a995861a06b2d114907dba014", func := "scrutineer/scrutineerlaw25.HistoryNil", spec := "historyNil", unfollowed := true, recurses := true, apart := false, narrowed := true }
def HistoryNilUptoSaid : Prop := historyNilUptoRow.holds Try.pinned (OpenSpec.upto historyNilSpec)

/-- 'scrutineerlaw25.HistoryStays', WHERE WHAT IT READS IS OF BULK AT MOST 1048576: true; the input reads as it did. -/
def historyStaysUptoRow : OpenClaim := { program := "ytcfghkiokdbhjaa", sum := "afde58f15c6d52bd14ad35feaac746bc7819d69a995861a06b2d114907dba014", func := "scrutineer/scrutineerlaw25.HistoryStays", spec := "historyStays", unfollowed := true, recurses := true, apart := false, narrowed := true }
def HistoryStaysUptoSaid : Prop := historyStaysUptoRow.holds Try.pinned (OpenSpec.upto historyStaysSpec)

/-- 'scrutineerlaw12.SectorSynced', WHERE WHAT IT READS IS OF BULK AT MOST 1048576: true; the input reads as it did. -/
def sectorSyncedUptoRow : OpenClaim := { program := "ytcfghkiokdbhjaa", sum := "afde58f15c6d52bd14ad35feaac746bc7819d69a995861a06b2d114907dba014", func := "scrutineer/scrutineerlaw12.SectorSynced", spec := "sectorSynced", unfollowed := true, recurses := true, apart := false, narrowed := true }
def SectorSyncedUptoSaid : Prop := sectorSyncedUptoRow.holds Try.pinned (OpenSpec.upto sectorSyncedSpec)

/-- 'scrutineerlaw12.SectorAll', WHERE WHAT IT READS IS OF BULK AT MOST 1048576: true; the input reads as it did. -/
def sectorAllUptoRow : OpenClaim := { program := "ytcfghkiokdbhjaa", sum := "afde58f15c6d52bd14ad35feaac746bc7819d69a995861a06b2d114907dba014", func := "scrutineer/scrutineerlaw12.SectorAll", spec := "sectorAll", unfollowed := true, recurses := true, apart := false, narrowed := true }
def SectorAllUptoSaid : Prop := sectorAllUptoRow.holds Try.pinned (OpenSpec.upto sectorAllSpec)

/-- 'scrutineerlaw12.SectorPlays', WHERE WHAT IT READS IS OF BULK AT MOST 1048576: true; the input reads as it did. -/
def sectorPlaysUptoRow : OpenClaim := { program := "ytcfghkiokdbhjaa", sum := "afde58f15c6d52bd14ad35feaac746bc7819d69a995861a06b2d114907dba014", func := "scrutineer/scrutineerlaw12.SectorPlays", spec := "sectorPlays", unfollowed := true, recurses := true, apart := false, narrowed := true }
def SectorPlaysUptoSaid : Prop := sectorPlaysUptoRow.holds Try.pinned (OpenSpec.upto sectorPlaysSpec)

/-- 'scrutineerlaw12.SectorNew', WHERE WHAT IT READS IS OF BULK AT MOST 1048576: true; the input reads as it did. -/
def sectorNewUptoRow : OpenClaim := { program := "ytcfghkiokdbhjaa", sum := "afde58f15c6d52bd14ad35feaac746bc7819d69a995861a06b2d114907dba014", func := "scrutineer/scrutineerlaw12.SectorNew", spec := "sectorNew", unfollowed := true, recurses := true, apart := false, narrowed := true }
def SectorNewUptoSaid : Prop := sectorNewUptoRow.holds Try.pinned (OpenSpec.upto sectorNewSpec)

end Rows
end Go.Proofs.Ytcfghkiokdbhjaa
