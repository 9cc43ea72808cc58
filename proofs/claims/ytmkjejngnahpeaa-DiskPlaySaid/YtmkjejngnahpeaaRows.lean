/-
  No cell of these rows narrows 'for every input' (looked for: loops, veiled, ifaces, maps, wideKeys, modest, calm, conditions, laid).
  DERIVED. THE GIVEN ROWS OF THIS SEAT. 13 by the template 'for every input the law returns true; each argument reads behind the call as it read before'; 0 by the template 'total and deterministic' (their statements: YtmkjejngnahpeaaTotals.lean).
  GIVEN WITH THE SEED: the statements are not yours to turn. If you find one false, say at which input.
  Laid BY PROGRAM, IN A SANDBOX (cutbox-rows.mjs): the forced cells as the released guide's own fill.sh prints them over the translation 4e25c0c9c6e0f232… (all of the seat's roots in one cut). By AI agents, Wed Nov 11 2026. No macro, syntax, notation, axiom, sorry.
-/
import Derived.Test.YtmkjejngnahpeaaChecked
import GoSem.Claim
import GoSem.ClaimJoined
import GoSem.ClaimMapViews
import Derived.JoinedTies
import Derived.KernelRfl
namespace Go.Proofs.Ytmkjejngnahpeaa
/- THE CELL 'sum', in the pinned program and in every row, IS THE sha256 OF THE DUMP (.gsa) THAT YtmkjejngnahpeaaProg.lean LOADS. Nothing in Lean hashes anything: it is a label: what it is worth is what the hold of that sum in a sandbox is worth. -/
noncomputable def Try.pinned : Pinned := { name := "ytmkjejngnahpeaa", sum := "4e25c0c9c6e0f2325658fffaeacf6615bf6fee2bf2659a26740ee26ca7cddfb9", checked := Try.checked }
namespace Rows
def none {H : Type} : Left H := { results := [], args := [] }

/-- 'millracelaw10.SegmentNames': WHATEVER THE INPUT: true; the input reads as it did. -/
def segmentNamesSpec : ChangeSpec := { name := "segmentNames", fn := fun _ => fun
  | [d1, d2, d3] => { results := [.lit (.bool true)], args := [d1, d2, d3] }
  | _ => none }
def segmentNamesRow : OpenClaim := { program := "ytmkjejngnahpeaa", sum := "4e25c0c9c6e0f2325658fffaeacf6615bf6fee2bf2659a26740ee26ca7cddfb9", func := "millrace/millracelaw10.SegmentNames", spec := "segmentNames", apart := false }
def SegmentNamesSaid : Prop := segmentNamesRow.holds Try.pinned (OpenSpec.ofChange segmentNamesSpec)

/-- ITS FALSE NEIGHBOUR: 'it returns false'. Refute it at one input. -/
def segmentNamesWrong : ChangeSpec := { name := "segmentNames", fn := fun _ => fun
  | [d1, d2, d3] => { results := [.lit (.bool false)], args := [d1, d2, d3] }
  | _ => none }
def SegmentNamesWrongFalsely : Prop := segmentNamesRow.holds Try.pinned (OpenSpec.ofChange segmentNamesWrong)

/-- 'millracelaw10.SegmentReads': WHATEVER THE INPUT: true; the input reads as it did. -/
def segmentReadsSpec : ChangeSpec := { name := "segmentReads", fn := fun _ => fun
  | [d] => { results := [.lit (.bool true)], args := [d] }
  | _ => none }
def segmentReadsRow : OpenClaim := { program := "ytmkjejngnahpeaa", sum := "4e25c0c9c6e0f2325658fffaeacf6615bf6fee2bf2659a26740ee26ca7cddfb9", func := "millrace/millracelaw10.SegmentReads", spec := "segmentReads", unfollowed := true, recurses := true, apart := false }
def SegmentReadsSaid : Prop := segmentReadsRow.holds Try.pinned (OpenSpec.ofChange segmentReadsSpec)

/-- ITS FALSE NEIGHBOUR: 'it returns false'. Refute it at one input. -/
def segmentReadsWrong : ChangeSpec := { name := "segmentReads", fn := fun _ => fun
  | [d] => { results := [.lit (.bool false)], args := [d] }
  | _ => none }
def SegmentReadsWrongFalsely : Prop := segmentReadsRow.holds Try.pinned (OpenSpec.ofChange segmentReadsWrong)

/-- 'millracelaw10.SegmentNil': WHATEVER THE INPUT: true; the input reads as it did. -/
def segmentNilSpec : ChangeSpec := { name := "segmentNil", fn := fun _ => fun
  | [d1, d2, d3] => { results := [.lit (.bool true)], args := [d1, d2, d3] }
  | _ => none }
def segmentNilRow : OpenClaim := { program := "ytmkjejngnahpeaa", sum := "4e25c0c9c6e0f2325658fffaeacf6615bf6fee2bf2659a26740ee26ca7cddfb9", func := "millrace/millracelaw10.SegmentNil", spec := "segmentNil", unfollowed := true, recurses := true, apart := false }
def SegmentNilSaid : Prop := segmentNilRow.holds Try.pinned (OpenSpec.ofChange segmentNilSpec)

/-- ITS FALSE NEIGHBOUR: 'it returns false'. Refute it at one input. -/
def segmentNilWrong : ChangeSpec := { name := "segmentNil", fn := fun _ => fun
  | [d1, d2, d3] => { results := [.lit (.bool false)], args := [d1, d2, d3] }
  | _ => none }
def SegmentNilWrongFalsely : Prop := segmentNilRow.holds Try.pinned (OpenSpec.ofChange segmentNilWrong)

/-- 'millracelaw07.DiskLasts': WHATEVER THE INPUT: true; the input reads as it did. -/
def diskLastsSpec : ChangeSpec := { name := "diskLasts", fn := fun _ => fun
  | [d1, d2, d3] => { results := [.lit (.bool true)], args := [d1, d2, d3] }
  | _ => none }
def diskLastsRow : OpenClaim := { program := "ytmkjejngnahpeaa", sum := "4e25c0c9c6e0f2325658fffaeacf6615bf6fee2bf2659a26740ee26ca7cddfb9", func := "millrace/millracelaw07.DiskLasts", spec := "diskLasts", unfollowed := true, recurses := true, apart := false }
def DiskLastsSaid : Prop := diskLastsRow.holds Try.pinned (OpenSpec.ofChange diskLastsSpec)

/-- ITS FALSE NEIGHBOUR: 'it returns false'. Refute it at one input. -/
def diskLastsWrong : ChangeSpec := { name := "diskLasts", fn := fun _ => fun
  | [d1, d2, d3] => { results := [.lit (.bool false)], args := [d1, d2, d3] }
  | _ => none }
def DiskLastsWrongFalsely : Prop := diskLastsRow.holds Try.pinned (OpenSpec.ofChange diskLastsWrong)

/-- 'millracelaw07.DiskRefused': WHATEVER THE INPUT: true; the input reads as it did. -/
def diskRefusedSpec : ChangeSpec := { name := "diskRefused", fn := fun _ => fun
  | [d1, d2] => { results := [.lit (.bool true)], args := [d1, d2] }
  | _ => none }
def diskRefusedRow : OpenClaim := { program := "ytmkjejngnahpeaa", sum := "4e25c0c9c6e0f2325658fffaeacf6615bf6fee2bf2659a26740ee26ca7cddfb9", func := "millrace/millracelaw07.DiskRefused", spec := "diskRefused", unfollowed := true, recurses := true, apart := false }
def DiskRefusedSaid : Prop := diskRefusedRow.holds Try.pinned (OpenSpec.ofChange diskRefusedSpec)

/-- ITS FALSE NEIGHBOUR: 'it returns false'. Refute it at one input. -/
def diskRefusedWrong : ChangeSpec := { name := "diskRefused", fn := fun _ => fun
  | [d1, d2] => { results := [.lit (.bool false)], args := [d1, d2] }
  | _ => none }
def DiskRefusedWrongFalsely : Prop := diskRefusedRow.holds Try.pinned (OpenSpec.ofChange diskRefusedWrong)

/-- 'millracelaw07.DiskSynced': WHATEVER THE INPUT: true; the input reads as it did. -/
def diskSyncedSpec : ChangeSpec := { name := "diskSynced", fn := fun _ => fun
  | [d1, d2, d3] => { results := [.lit (.bool true)], args := [d1, d2, d3] }
  | _ => none }
def diskSyncedRow : OpenClaim := { program := "ytmkjejngnahpeaa", sum := "4e25c0c9c6e0f2325658fffaeacf6615bf6fee2bf2659a26740ee26ca7cddfb9", func := "millrace/millracelaw07.DiskSynced", spec := "diskSynced", unfollowed := true, recurses := true, apart := false }
def DiskSyncedSaid : Prop := diskSyncedRow.holds Try.pinned (OpenSpec.ofChange diskSyncedSpec)

/-- ITS FALSE NEIGHBOUR: 'it returns false'. Refute it at one input. -/
def diskSyncedWrong : ChangeSpec := { name := "diskSynced", fn := fun _ => fun
  | [d1, d2, d3] => { results := [.lit (.bool false)], args := [d1, d2, d3] }
  | _ => none }
def DiskSyncedWrongFalsely : Prop := diskSyncedRow.holds Try.pinned (OpenSpec.ofChange diskSyncedWrong)

/-- 'millracelaw07.DiskPlay': WHATEVER THE INPUT: true; the input reads as it did. -/
def diskPlaySpec : ChangeSpec := { name := "diskPlay", fn := fun _ => fun
  | [d1, d2] => { results := [.lit (.bool true)], args := [d1, d2] }
  | _ => none }
def diskPlayRow : OpenClaim := { program := "ytmkjejngnahpeaa", sum := "4e25c0c9c6e0f2325658fffaeacf6615bf6fee2bf2659a26740ee26ca7cddfb9", func := "millrace/millracelaw07.DiskPlay", spec := "diskPlay", unfollowed := true, recurses := true, apart := false }
def DiskPlaySaid : Prop := diskPlayRow.holds Try.pinned (OpenSpec.ofChange diskPlaySpec)

/-- ITS FALSE NEIGHBOUR: 'it returns false'. Refute it at one input. -/
def diskPlayWrong : ChangeSpec := { name := "diskPlay", fn := fun _ => fun
  | [d1, d2] => { results := [.lit (.bool false)], args := [d1, d2] }
  | _ => none }
def DiskPlayWrongFalsely : Prop := diskPlayRow.holds Try.pinned (OpenSpec.ofChange diskPlayWrong)

/-- 'millracelaw07.DiskNil': WHATEVER THE INPUT: true; the input reads as it did. -/
def diskNilSpec : ChangeSpec := { name := "diskNil", fn := fun _ => fun
  | [d1, d2, d3] => { results := [.lit (.bool true)], args := [d1, d2, d3] }
  | _ => none }
def diskNilRow : OpenClaim := { program := "ytmkjejngnahpeaa", sum := "4e25c0c9c6e0f2325658fffaeacf6615bf6fee2bf2659a26740ee26ca7cddfb9", func := "millrace/millracelaw07.DiskNil", spec := "diskNil", unfollowed := true, recurses := true, apart := false }
def DiskNilSaid : Prop := diskNilRow.holds Try.pinned (OpenSpec.ofChange diskNilSpec)

/-- ITS FALSE NEIGHBOUR: 'it returns false'. Refute it at one input. -/
def diskNilWrong : ChangeSpec := { name := "diskNil", fn := fun _ => fun
  | [d1, d2, d3] => { results := [.lit (.bool false)], args := [d1, d2, d3] }
  | _ => none }
def DiskNilWrongFalsely : Prop := diskNilRow.holds Try.pinned (OpenSpec.ofChange diskNilWrong)

/-- 'millracelaw08.StopsNumbers': WHATEVER THE INPUT: true; the input reads as it did. -/
def stopsNumbersSpec : ChangeSpec := { name := "stopsNumbers", fn := fun _ => fun
  | [d1, d2, d3] => { results := [.lit (.bool true)], args := [d1, d2, d3] }
  | _ => none }
def stopsNumbersRow : OpenClaim := { program := "ytmkjejngnahpeaa", sum := "4e25c0c9c6e0f2325658fffaeacf6615bf6fee2bf2659a26740ee26ca7cddfb9", func := "millrace/millracelaw08.StopsNumbers", spec := "stopsNumbers", unfollowed := true, recurses := true, apart := false }
def StopsNumbersSaid : Prop := stopsNumbersRow.holds Try.pinned (OpenSpec.ofChange stopsNumbersSpec)

/-- ITS FALSE NEIGHBOUR: 'it returns false'. Refute it at one input. -/
def stopsNumbersWrong : ChangeSpec := { name := "stopsNumbers", fn := fun _ => fun
  | [d1, d2, d3] => { results := [.lit (.bool false)], args := [d1, d2, d3] }
  | _ => none }
def StopsNumbersWrongFalsely : Prop := stopsNumbersRow.holds Try.pinned (OpenSpec.ofChange stopsNumbersWrong)

/-- 'millracelaw08.StopsNil': WHATEVER THE INPUT: true; the input reads as it did. -/
def stopsNilSpec : ChangeSpec := { name := "stopsNil", fn := fun _ => fun
  | [d1, d2] => { results := [.lit (.bool true)], args := [d1, d2] }
  | _ => none }
def stopsNilRow : OpenClaim := { program := "ytmkjejngnahpeaa", sum := "4e25c0c9c6e0f2325658fffaeacf6615bf6fee2bf2659a26740ee26ca7cddfb9", func := "millrace/millracelaw08.StopsNil", spec := "stopsNil", unfollowed := true, recurses := true, apart := false }
def StopsNilSaid : Prop := stopsNilRow.holds Try.pinned (OpenSpec.ofChange stopsNilSpec)

/-- ITS FALSE NEIGHBOUR: 'it returns false'. Refute it at one input. -/
def stopsNilWrong : ChangeSpec := { name := "stopsNil", fn := fun _ => fun
  | [d1, d2] => { results := [.lit (.bool false)], args := [d1, d2] }
  | _ => none }
def StopsNilWrongFalsely : Prop := stopsNilRow.holds Try.pinned (OpenSpec.ofChange stopsNilWrong)

/-- 'millracelaw08.StopsAll': WHATEVER THE INPUT: true; the input reads as it did. -/
def stopsAllSpec : ChangeSpec := { name := "stopsAll", fn := fun _ => fun
  | [d1, d2] => { results := [.lit (.bool true)], args := [d1, d2] }
  | _ => none }
def stopsAllRow : OpenClaim := { program := "ytmkjejngnahpeaa", sum := "4e25c0c9c6e0f2325658fffaeacf6615bf6fee2bf2659a26740ee26ca7cddfb9", func := "millrace/millracelaw08.StopsAll", spec := "stopsAll", unfollowed := true, recurses := true, apart := false }
def StopsAllSaid : Prop := stopsAllRow.holds Try.pinned (OpenSpec.ofChange stopsAllSpec)

/-- ITS FALSE NEIGHBOUR: 'it returns false'. Refute it at one input. -/
def stopsAllWrong : ChangeSpec := { name := "stopsAll", fn := fun _ => fun
  | [d1, d2] => { results := [.lit (.bool false)], args := [d1, d2] }
  | _ => none }
def StopsAllWrongFalsely : Prop := stopsAllRow.holds Try.pinned (OpenSpec.ofChange stopsAllWrong)

/-- 'millracelaw08.StopsEach': WHATEVER THE INPUT: true; the input reads as it did. -/
def stopsEachSpec : ChangeSpec := { name := "stopsEach", fn := fun _ => fun
  | [d] => { results := [.lit (.bool true)], args := [d] }
  | _ => none }
def stopsEachRow : OpenClaim := { program := "ytmkjejngnahpeaa", sum := "4e25c0c9c6e0f2325658fffaeacf6615bf6fee2bf2659a26740ee26ca7cddfb9", func := "millrace/millracelaw08.StopsEach", spec := "stopsEach", unfollowed := true, recurses := true, apart := false }
def StopsEachSaid : Prop := stopsEachRow.holds Try.pinned (OpenSpec.ofChange stopsEachSpec)

/-- ITS FALSE NEIGHBOUR: 'it returns false'. Refute it at one input. -/
def stopsEachWrong : ChangeSpec := { name := "stopsEach", fn := fun _ => fun
  | [d] => { results := [.lit (.bool false)], args := [d] }
  | _ => none }
def StopsEachWrongFalsely : Prop := stopsEachRow.holds Try.pinned (OpenSpec.ofChange stopsEachWrong)

/-- 'millracelaw08.StopsBegins': WHATEVER THE INPUT: true; the input reads as it did. -/
def stopsBeginsSpec : ChangeSpec := { name := "stopsBegins", fn := fun _ => fun
  | [d] => { results := [.lit (.bool true)], args := [d] }
  | _ => none }
def stopsBeginsRow : OpenClaim := { program := "ytmkjejngnahpeaa", sum := "4e25c0c9c6e0f2325658fffaeacf6615bf6fee2bf2659a26740ee26ca7cddfb9", func := "millrace/millracelaw08.StopsBegins", spec := "stopsBegins", unfollowed := true, recurses := true, apart := false }
def StopsBeginsSaid : Prop := stopsBeginsRow.holds Try.pinned (OpenSpec.ofChange stopsBeginsSpec)

/-- ITS FALSE NEIGHBOUR: 'it returns false'. Refute it at one input. -/
def stopsBeginsWrong : ChangeSpec := { name := "stopsBegins", fn := fun _ => fun
  | [d] => { results := [.lit (.bool false)], args := [d] }
  | _ => none }
def StopsBeginsWrongFalsely : Prop := stopsBeginsRow.holds Try.pinned (OpenSpec.ofChange stopsBeginsWrong)

/- THE SECOND FORM. 'bulk': how many values and letters a reading holds, each counted each time it is reached (what is shared counts as often as it is met; a slice's spare places count too). A statement '..UptoSaid' is the law's where the arguments, and the package variables that the reading takes, are together of bulk at most 1048576: NARROWER than '..Said'. Prove '..Said' where nothing that the law and all that it calls make is longer than what came in: it says more and counts as full. Else prove '..UptoSaid'. A law counts once. -/
mutual
def uptoBulk {H : Type} : DataW H → Nat
  | .lit (.string bytes) => bytes.length + 1
  | .lit _ => 1
  | .nil => 1
  | .ptr d => uptoBulk d + 1
  | .slice elems spare => uptoBulkAll elems + uptoBulkAll spare + 1
  | .agg parts => uptoBulkAll parts + 1
  | .iface _ d => uptoBulk d + 1
  | .map entries => uptoBulkEntries entries + 1
  | .held _ => 1
def uptoBulkAll {H : Type} : List (DataW H) → Nat
  | [] => 0
  | d :: r => uptoBulk d + uptoBulkAll r
def uptoBulkEntries {H : Type} : List (Lit × DataW H) → Nat
  | [] => 0
  | x :: r => uptoBulkEntry x + uptoBulkEntries r
def uptoBulkEntry {H : Type} : Lit × DataW H → Nat
  | (.string bytes, d) => bytes.length + uptoBulk d + 1
  | (_, d) => uptoBulk d + 1
 end
def uptoSmall : (H : Type) → List (DataW H) → Bool := fun _ ds => decide (uptoBulkAll ds ≤ 1048576)
def OpenSpec.upto (s : _root_.Go.ChangeSpec) : _root_.Go.OpenSpec := { _root_.Go.OpenSpec.ofChange s with cond := some uptoSmall }

/-- 'millracelaw10.SegmentNames', WHERE WHAT IT READS IS OF BULK AT MOST 1048576: true; the input reads as it did. -/
def segmentNamesUptoRow : OpenClaim := { program := "ytmkjejngnahpeaa", sum := "4e25c0c9c6e0f2325658fffaeacf6615bf6fee2bf2659a26740ee26ca7cddfb9", func := "millrace/millracelaw10.SegmentNames", spec := "segmentNames", apart := false, narrowed := true }
def SegmentNamesUptoSaid : Prop := segmentNamesUptoRow.holds Try.pinned (OpenSpec.upto segmentNamesSpec)

/-- 'millracelaw10.SegmentReads', WHERE WHAT IT READS IS OF BULK AT MOST 1048576: true; the input reads as it did. -/
def segmentReadsUptoRow : OpenClaim := { program := "ytmkjejngnahpeaa", sum := "4e25c0c9c6e0f2325658fffaeacf6615bf6fee2bf2659a26740ee26ca7cddfb9", func := "millrace/millracelaw10.SegmentReads", spec := "segmentReads", unfollowed := true, recurses := true, apart := false, narrowed := true }
def SegmentReadsUptoSaid : Prop := segmentReadsUptoRow.holds Try.pinned (OpenSpec.upto segmentReadsSpec)

/-- 'millracelaw10.SegmentNil', WHERE WHAT IT READS IS OF BULK AT MOST 1048576: true; the input reads as it did. -/
def segmentNilUptoRow : OpenClaim := { program := "ytmkjejngnahpeaa", sum := "4e25c0c9c6e0f2325658fffaeacf6615bf6fee2bf2659a26740ee26ca7cddfb9", func := "millrace/millracelaw10.SegmentNil", spec := "segmentNil", unfollowed := true, recurses := true, apart := false, narrowed := true }
def SegmentNilUptoSaid : Prop := segmentNilUptoRow.holds Try.pinned (OpenSpec.upto segmentNilSpec)

/-- 'millracelaw07.DiskLasts', WHERE WHAT IT READS IS OF BULK AT MOST 1048576: true; the input reads as it did. -/
def diskLastsUptoRow : OpenClaim := { program := "ytmkjejngnahpeaa", sum := "4e25c0c9c6e0f2325658fffaeacf6615bf6fee2bf2659a26740ee26ca7cddfb9", func := "millrace/millracelaw07.DiskLasts", spec := "diskLasts", unfollowed := true, recurses := true, apart := false, narrowed := true }
def DiskLastsUptoSaid : Prop := diskLastsUptoRow.holds Try.pinned (OpenSpec.upto diskLastsSpec)

/-- 'millracelaw07.DiskRefused', WHERE WHAT IT READS IS OF BULK AT MOST 1048576: true; the input reads as it did. -/
def diskRefusedUptoRow : OpenClaim := { program := "ytmkjejngnahpeaa", sum := "4e25c0c9c6e0f2325658fffaeacf6615bf6fee2bf2659a26740ee26ca7cddfb9", func := "millrace/millracelaw07.DiskRefused", spec := "diskRefused", unfollowed := true, recurses := true, apart := false, narrowed := true }
def DiskRefusedUptoSaid : Prop := diskRefusedUptoRow.holds Try.pinned (OpenSpec.upto diskRefusedSpec)

/-- 'millracelaw07.DiskSynced', WHERE WHAT IT READS IS OF BULK AT MOST 1048576: true; the input reads as it did. -/
def diskSyncedUptoRow : OpenClaim := { program := "ytmkjejngnahpeaa", sum := "4e25c0c9c6e0f2325658fffaeacf6615bf6fee2bf2659a26740ee26ca7cddfb9", func := "millrace/millracelaw07.DiskSynced", spec := "diskSynced", unfollowed := true, recurses := true, apart := false, narrowed := true }
def DiskSyncedUptoSaid : Prop := diskSyncedUptoRow.holds Try.pinned (OpenSpec.upto diskSyncedSpec)

/-- 'millracelaw07.DiskPlay', WHERE WHAT IT READS IS OF BULK AT MOST 1048576: true; the input reads as it did. -/
def diskPlayUptoRow : OpenClaim := { program := "ytmkjejngnahpeaa", sum := "4e25c0c9c6e0f2325658fffaeacf6615bf6fee2bf2659a26740ee26ca7cddfb9", func := "millrace/millracelaw07.DiskPlay", spec := "diskPlay", unfollowed := true, recurses := true, apart := false, narrowed := true }
def DiskPlayUptoSaid : Prop := diskPlayUptoRow.holds Try.pinned (OpenSpec.upto diskPlaySpec)

/-- 'millracelaw07.DiskNil', WHERE WHAT IT READS IS OF BULK AT MOST 1048576: true; the input reads as it did. -/
def diskNilUptoRow : OpenClaim := { program := "ytmkjejngnahpeaa", sum := "4e25c0c9c6e0f2325658fffaeacf6615bf6fee2bf2659a26740ee26ca7cddfb9", func := "millrace/millracelaw07.DiskNil", spec := "diskNil", unfollowed := true, recurses := true, apart := false, narrowed := true }
def DiskNilUptoSaid : Prop := diskNilUptoRow.holds Try.pinned (OpenSpec.upto diskNilSpec)

/-- 'millracelaw08.StopsNumbers', WHERE WHAT IT READS IS OF BULK AT MOST 1048576: true; the input reads as it did. -/
def stopsNumbersUptoRow : OpenClaim := { program := "ytmkjejngnahpeaa", sum := "4e25c0c9c6e0f2325658fffaeacf6615bf6fee2bf2659a26740ee26ca7cddfb9", func := "millrace/millracelaw08.StopsNumbers", spec := "stopsNumbers", unfollowed := true, recurses := true, apart := false, narrowed := true }
def StopsNumbersUptoSaid : Prop := stopsNumbersUptoRow.holds Try.pinned (OpenSpec.upto stopsNumbersSpec)

/-- 'millracelaw08.StopsNil', WHERE WHAT IT READS IS OF BULK AT MOST 1048576: true; the input reads as it did. -/
def stopsNilUptoRow : OpenClaim := { program := "ytmkjejngnahpeaa", sum := "4e25c0c9c6e0f2325658fffaeacf6615bf6fee2bf2659a26740ee26ca7cddfb9", func := "millrace/millracelaw08.StopsNil", spec := "stopsNil", unfollowed := true, recurses := true, apart := false, narrowed := true }
def StopsNilUptoSaid : Prop := stopsNilUptoRow.holds Try.pinned (OpenSpec.upto stopsNilSpec)

/-- 'millracelaw08.StopsAll', WHERE WHAT IT READS IS OF BULK AT MOST 1048576: true; the input reads as it did. -/
def stopsAllUptoRow : OpenClaim := { program := "ytmkjejngnahpeaa", sum := "4e25c0c9c6e0f2325658fffaeacf6615bf6fee2bf2659a26740ee26ca7cddfb9", func := "millrace/millracelaw08.StopsAll", spec := "stopsAll", unfollowed := true, recurses := true, apart := false, narrowed := true }
def StopsAllUptoSaid : Prop := stopsAllUptoRow.holds Try.pinned (OpenSpec.upto stopsAllSpec)

/-- 'millracelaw08.StopsEach', WHERE WHAT IT READS IS OF BULK AT MOST 1048576: true; the input reads as it did. -/
def stopsEachUptoRow : OpenClaim := { program := "ytmkjejngnahpeaa", sum := "4e25c0c9c6e0f2325658fffaeacf6615bf6fee2bf2659a26740ee26ca7cddfb9", func := "millrace/millracelaw08.StopsEach", spec := "stopsEach", unfollowed := true, recurses := true, apart := false, narrowed := true }
def StopsEachUptoSaid : Prop := stopsEachUptoRow.holds Try.pinned (OpenSpec.upto stopsEachSpec)

/-- 'millracelaw08.StopsBegins', WHERE WHAT IT READS IS OF BULK AT MOST 1048576: true; the input reads as it did. -/
def stopsBeginsUptoRow : OpenClaim := { program := "ytmkjejngnahpeaa", sum := "4e25c0c9c6e0f2325658fffaeacf6615bf6fee2bf2659a26740ee26ca7cddfb9", func := "millrace/millracelaw08.StopsBegins", spec := "stopsBegins", unfollowed := true, recurses := true, apart := false, narrowed := true }
def StopsBeginsUptoSaid : Prop := stopsBeginsUptoRow.holds Try.pinned (OpenSpec.upto stopsBeginsSpec)

end Rows
end Go.Proofs.Ytmkjejngnahpeaa
