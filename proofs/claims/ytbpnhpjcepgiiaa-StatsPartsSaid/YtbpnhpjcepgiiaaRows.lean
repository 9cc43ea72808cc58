/-
  No cell of these rows narrows 'for every input' (looked for: loops, veiled, ifaces, maps, wideKeys, modest, calm, conditions, laid).
  DERIVED. THE GIVEN ROWS OF THIS SEAT. 7 by the template 'for every input the law returns true; each argument reads behind the call as it read before'; 0 by the template 'total and deterministic' (their statements: YtbpnhpjcepgiiaaTotals.lean).
  GIVEN WITH THE SEED: the statements are not yours to turn. If you find one false, say at which input.
  Laid BY PROGRAM, IN A SANDBOX (cutbox-rows.mjs): the forced cells as the released guide's own fill.sh prints them over the translation eb5e597380b78f25… (all of the seat's roots in one cut). By AI agents, Wed Nov 11 2026. No macro, syntax, notation, axiom, sorry.
-/
import Derived.Test.YtbpnhpjcepgiiaaChecked
import GoSem.Claim
import GoSem.ClaimJoined
import GoSem.ClaimMapViews
import Derived.JoinedTies
import Derived.KernelRfl
namespace Go.Proofs.Ytbpnhpjcepgiiaa
/- THE CELL 'sum', in the pinned program and in every row, IS THE sha256 OF THE DUMP (.gsa) THAT YtbpnhpjcepgiiaaProg.lean LOADS. Nothing in Lean hashes anything: it is a label: what it is worth is what the hold of that sum in a sandbox is worth. -/
noncomputable def Try.pinned : Pinned := { name := "ytbpnhpjcepgiiaa", sum := "eb5e597380b78f259a1669b9965a26346e9bf57acfbe3b42330b5f82bf0e965d", checked := Try.checked }
namespace Rows
def none {H : Type} : Left H := { results := [], args := [] }

/-- 'millracelaw27.QuotaHolds': WHATEVER THE INPUT: true; the input reads as it did. -/
def quotaHoldsSpec : ChangeSpec := { name := "quotaHolds", fn := fun _ => fun
  | [d1, d2, d3] => { results := [.lit (.bool true)], args := [d1, d2, d3] }
  | _ => none }
def quotaHoldsRow : OpenClaim := { program := "ytbpnhpjcepgiiaa", sum := "eb5e597380b78f259a1669b9965a26346e9bf57acfbe3b42330b5f82bf0e965d", func := "millrace/millracelaw27.QuotaHolds", spec := "quotaHolds", inPlace := ["math.Float64bits", "math.Float64frombits"], apart := false }
def QuotaHoldsSaid : Prop := quotaHoldsRow.holds Try.pinned (OpenSpec.ofChange quotaHoldsSpec)

/-- ITS FALSE NEIGHBOUR: 'it returns false'. Refute it at one input. -/
def quotaHoldsWrong : ChangeSpec := { name := "quotaHolds", fn := fun _ => fun
  | [d1, d2, d3] => { results := [.lit (.bool false)], args := [d1, d2, d3] }
  | _ => none }
def QuotaHoldsWrongFalsely : Prop := quotaHoldsRow.holds Try.pinned (OpenSpec.ofChange quotaHoldsWrong)

/-- 'millracelaw27.QuotaWaits': WHATEVER THE INPUT: true; the input reads as it did. -/
def quotaWaitsSpec : ChangeSpec := { name := "quotaWaits", fn := fun _ => fun
  | [d] => { results := [.lit (.bool true)], args := [d] }
  | _ => none }
def quotaWaitsRow : OpenClaim := { program := "ytbpnhpjcepgiiaa", sum := "eb5e597380b78f259a1669b9965a26346e9bf57acfbe3b42330b5f82bf0e965d", func := "millrace/millracelaw27.QuotaWaits", spec := "quotaWaits", inPlace := ["math.Float64bits", "math.Float64frombits"], apart := false }
def QuotaWaitsSaid : Prop := quotaWaitsRow.holds Try.pinned (OpenSpec.ofChange quotaWaitsSpec)

/-- ITS FALSE NEIGHBOUR: 'it returns false'. Refute it at one input. -/
def quotaWaitsWrong : ChangeSpec := { name := "quotaWaits", fn := fun _ => fun
  | [d] => { results := [.lit (.bool false)], args := [d] }
  | _ => none }
def QuotaWaitsWrongFalsely : Prop := quotaWaitsRow.holds Try.pinned (OpenSpec.ofChange quotaWaitsWrong)

/-- 'millracelaw27.QuotaPlays': WHATEVER THE INPUT: true; the input reads as it did. -/
def quotaPlaysSpec : ChangeSpec := { name := "quotaPlays", fn := fun _ => fun
  | [d1, d2, d3] => { results := [.lit (.bool true)], args := [d1, d2, d3] }
  | _ => none }
def quotaPlaysRow : OpenClaim := { program := "ytbpnhpjcepgiiaa", sum := "eb5e597380b78f259a1669b9965a26346e9bf57acfbe3b42330b5f82bf0e965d", func := "millrace/millracelaw27.QuotaPlays", spec := "quotaPlays", inPlace := ["math.Float64bits", "math.Float64frombits"], apart := false }
def QuotaPlaysSaid : Prop := quotaPlaysRow.holds Try.pinned (OpenSpec.ofChange quotaPlaysSpec)

/-- ITS FALSE NEIGHBOUR: 'it returns false'. Refute it at one input. -/
def quotaPlaysWrong : ChangeSpec := { name := "quotaPlays", fn := fun _ => fun
  | [d1, d2, d3] => { results := [.lit (.bool false)], args := [d1, d2, d3] }
  | _ => none }
def QuotaPlaysWrongFalsely : Prop := quotaPlaysRow.holds Try.pinned (OpenSpec.ofChange quotaPlaysWrong)

/-- 'millracelaw28.StatsLag': WHATEVER THE INPUT: true; the input reads as it did. -/
def statsLagSpec : ChangeSpec := { name := "statsLag", fn := fun _ => fun
  | [d1, d2] => { results := [.lit (.bool true)], args := [d1, d2] }
  | _ => none }
def statsLagRow : OpenClaim := { program := "ytbpnhpjcepgiiaa", sum := "eb5e597380b78f259a1669b9965a26346e9bf57acfbe3b42330b5f82bf0e965d", func := "millrace/millracelaw28.StatsLag", spec := "statsLag", inPlace := ["math.Float64bits"], unfollowed := true, recurses := true, apart := false }
def StatsLagSaid : Prop := statsLagRow.holds Try.pinned (OpenSpec.ofChange statsLagSpec)

/-- ITS FALSE NEIGHBOUR: 'it returns false'. Refute it at one input. -/
def statsLagWrong : ChangeSpec := { name := "statsLag", fn := fun _ => fun
  | [d1, d2] => { results := [.lit (.bool false)], args := [d1, d2] }
  | _ => none }
def StatsLagWrongFalsely : Prop := statsLagRow.holds Try.pinned (OpenSpec.ofChange statsLagWrong)

/-- 'millracelaw28.StatsTally': WHATEVER THE INPUT: true; the input reads as it did. -/
def statsTallySpec : ChangeSpec := { name := "statsTally", fn := fun _ => fun
  | [d1, d2] => { results := [.lit (.bool true)], args := [d1, d2] }
  | _ => none }
def statsTallyRow : OpenClaim := { program := "ytbpnhpjcepgiiaa", sum := "eb5e597380b78f259a1669b9965a26346e9bf57acfbe3b42330b5f82bf0e965d", func := "millrace/millracelaw28.StatsTally", spec := "statsTally", inPlace := ["math.Float64bits"], unfollowed := true, recurses := true, apart := false }
def StatsTallySaid : Prop := statsTallyRow.holds Try.pinned (OpenSpec.ofChange statsTallySpec)

/-- ITS FALSE NEIGHBOUR: 'it returns false'. Refute it at one input. -/
def statsTallyWrong : ChangeSpec := { name := "statsTally", fn := fun _ => fun
  | [d1, d2] => { results := [.lit (.bool false)], args := [d1, d2] }
  | _ => none }
def StatsTallyWrongFalsely : Prop := statsTallyRow.holds Try.pinned (OpenSpec.ofChange statsTallyWrong)

/-- 'millracelaw28.StatsHold': WHATEVER THE INPUT: true; the input reads as it did. -/
def statsHoldSpec : ChangeSpec := { name := "statsHold", fn := fun _ => fun
  | [d] => { results := [.lit (.bool true)], args := [d] }
  | _ => none }
def statsHoldRow : OpenClaim := { program := "ytbpnhpjcepgiiaa", sum := "eb5e597380b78f259a1669b9965a26346e9bf57acfbe3b42330b5f82bf0e965d", func := "millrace/millracelaw28.StatsHold", spec := "statsHold", inPlace := ["math.Float64bits"], unfollowed := true, recurses := true, apart := false }
def StatsHoldSaid : Prop := statsHoldRow.holds Try.pinned (OpenSpec.ofChange statsHoldSpec)

/-- ITS FALSE NEIGHBOUR: 'it returns false'. Refute it at one input. -/
def statsHoldWrong : ChangeSpec := { name := "statsHold", fn := fun _ => fun
  | [d] => { results := [.lit (.bool false)], args := [d] }
  | _ => none }
def StatsHoldWrongFalsely : Prop := statsHoldRow.holds Try.pinned (OpenSpec.ofChange statsHoldWrong)

/-- 'millracelaw28.StatsParts': WHATEVER THE INPUT: true; the input reads as it did. -/
def statsPartsSpec : ChangeSpec := { name := "statsParts", fn := fun _ => fun
  | [d1, d2] => { results := [.lit (.bool true)], args := [d1, d2] }
  | _ => none }
def statsPartsRow : OpenClaim := { program := "ytbpnhpjcepgiiaa", sum := "eb5e597380b78f259a1669b9965a26346e9bf57acfbe3b42330b5f82bf0e965d", func := "millrace/millracelaw28.StatsParts", spec := "statsParts", inPlace := ["math.Float64bits"], unfollowed := true, recurses := true, apart := false }
def StatsPartsSaid : Prop := statsPartsRow.holds Try.pinned (OpenSpec.ofChange statsPartsSpec)

/-- ITS FALSE NEIGHBOUR: 'it returns false'. Refute it at one input. -/
def statsPartsWrong : ChangeSpec := { name := "statsParts", fn := fun _ => fun
  | [d1, d2] => { results := [.lit (.bool false)], args := [d1, d2] }
  | _ => none }
def StatsPartsWrongFalsely : Prop := statsPartsRow.holds Try.pinned (OpenSpec.ofChange statsPartsWrong)

/- THE SECOND FORM. 'bulk': how many values and letters a reading holds, each counted each time it is reached (what is shared counts as often as it is met; a slice's spare places count too). A statement '..UptoSaid' is the law's where the arguments, and the package variables that the reading takes, are together of bulk at most 1048576: NARROWER than '..Said'. Prove '..Said' where nothing that the law and all that it calls make is longer than what came in: it says more and counts as full. Else prove '..UptoSaid'. A law counts once. -/
mutual
def uptoBulk {H : Type} : DataW H → Nat
  | .lit (.string bytes) => bytes.length + 1
  | .lit _ => 1
  | .nil => 1
  | .ptr d => uptoBulk d + 1
  | .slice elems spare => uptoBulkAll elems + uptoBulkAll spare + 1
  | .agg parts => uptoBulkAll parts + 1
  | .iface _ d => uptoBulk d + 1
  | .map entries => uptoBulkEntries entries + 1
  | .held _ => 1
def uptoBulkAll {H : Type} : List (DataW H) → Nat
  | [] => 0
  | d :: r => uptoBulk d + uptoBulkAll r
def uptoBulkEntries {H : Type} : List (Lit × DataW H) → Nat
  | [] => 0
  | x :: r => uptoBulkEntry x + uptoBulkEntries r
def uptoBulkEntry {H : Type} : Lit × DataW H → Nat
  | (.string bytes, d) => bytes.length + uptoBulk d + 1
  | (_, d) => uptoBulk d + 1
 end
def uptoSmall : (H : Type) → List (DataW H) → Bool := fun _ ds => decide (uptoBulkAll ds ≤ 1048576)
def OpenSpec.upto (s : _root_.Go.ChangeSpec) : _root_.Go.OpenSpec := { _root_.Go.OpenSpec.ofChange s with cond := some uptoSmall }

/-- 'millracelaw27.QuotaHolds', WHERE WHAT IT READS IS OF BULK AT MOST 1048576: true; the input reads as it did. -/
def quotaHoldsUptoRow : OpenClaim := { program := "ytbpnhpjcepgiiaa", sum := "eb5e597380b78f259a1669b9965a26346e9bf57acfbe3b42330b5f82bf0e965d", func := "millrace/millracelaw27.QuotaHolds", spec := "quotaHolds", inPlace := ["math.Float64bits", "math.Float64frombits"], apart := false, narrowed := true }
def QuotaHoldsUptoSaid : Prop := quotaHoldsUptoRow.holds Try.pinned (OpenSpec.upto quotaHoldsSpec)

/-- 'millracelaw27.QuotaWaits', WHERE WHAT IT READS IS OF BULK AT MOST 1048576: true; the input reads as it did. -/
def quotaWaitsUptoRow : OpenClaim := { program := "ytbpnhpjcepgiiaa", sum := "eb5e597380b78f259a1669b9965a26346e9bf57acfbe3b42330b5f82bf0e965d", func := "millrace/millracelaw27.QuotaWaits", spec := "quotaWaits", inPlace := ["math.Float64bits", "math.Float64frombits"], apart := false, narrowed := true }
def QuotaWaitsUptoSaid : Prop := quotaWaitsUptoRow.holds Try.pinned (OpenSpec.upto quotaWaitsSpec)

/-- 'millracelaw27.QuotaPlays', WHERE WHAT IT READS IS OF BULK AT MOST 1048576: true; the input reads as it did. -/
def quotaPlaysUptoRow : OpenClaim := { program := "ytbpnhpjcepgiiaa", sum := "eb5e597380b78f259a1669b9965a26346e9bf57acfbe3b42330b5f82bf0e965d", func := "millrace/millracelaw27.QuotaPlays", spec := "quotaPlays", inPlace := ["math.Float64bits", "math.Float64frombits"], apart := false, narrowed := true }
def QuotaPlaysUptoSaid : Prop := quotaPlaysUptoRow.holds Try.pinned (OpenSpec.upto quotaPlaysSpec)

/-- 'millracelaw28.StatsLag', WHERE WHAT IT READS IS OF BULK AT MOST 1048576: true; the input reads as it did. -/
def statsLagUptoRow : OpenClaim := { program := "ytbpnhpjcepgiiaa", sum := "eb5e597380b78f259a1669b9965a26346e9bf57acfbe3b42330b5f82bf0e965d", func := "millrace/millracelaw28.StatsLag", spec := "statsLag", inPlace := ["math.Float64bits"], unfollowed := true, recurses := true, apart := false, narrowed := true }
def StatsLagUptoSaid : Prop := statsLagUptoRow.holds Try.pinned (OpenSpec.upto statsLagSpec)

/-- 'millracelaw28.StatsTally', WHERE WHAT IT READS IS OF BULK AT MOST 1048576: true; the input reads as it did. -/
def statsTallyUptoRow : OpenClaim := { program := "ytbpnhpjcepgiiaa", sum := "eb5e597380b78f259a1669b9965a26346e9bf57acfbe3b42330b5f82bf0e965d", func := "millrace/millracelaw28.StatsTally", spec := "statsTally", inPlace := ["math.Float64bits"], unfollowed := true, recurses := true, apart := false, narrowed := true }
def StatsTallyUptoSaid : Prop := statsTallyUptoRow.holds Try.pinned (OpenSpec.upto statsTallySpec)

/-- 'millracelaw28.StatsHold', WHERE WHAT IT READS IS OF BULK AT MOST 1048576: true; the input reads as it did. -/
def statsHoldUptoRow : OpenClaim := { program := "ytbpnhpjcepgiiaa", sum := "eb5e597380b78f259a1669b9965a26346e9bf57acfbe3b42330b5f82bf0e965d", func := "millrace/millracelaw28.StatsHold", spec := "statsHold", inPlace := ["math.Float64bits"], unfollowed := true, recurses := true, apart := false, narrowed := true }
def StatsHoldUptoSaid : Prop := statsHoldUptoRow.holds Try.pinned (OpenSpec.upto statsHoldSpec)

/-- 'millracelaw28.StatsParts', WHERE WHAT IT READS IS OF BULK AT MOST 1048576: true; the input reads as it did. -/
def statsPartsUptoRow : OpenClaim := { program := "ytbpnhpjcepgiiaa", sum := "eb5e597380b78f259a1669b9965a26346e9bf57acfbe3b42330b5f82bf0e965d", func := "millrace/millracelaw28.StatsParts", spec := "statsParts", inPlace := ["math.Float64bits"], unfollowed := true, recurses := true, apart := false, narrowed := true }
def StatsPartsUptoSaid : Prop := statsPartsUptoRow.holds Try.pinned (OpenSpec.upto statsPartsSpec)

end Rows
end Go.Proofs.Ytbpnhpjcepgiiaa
