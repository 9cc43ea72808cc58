/-
  No cell of these rows narrows 'for every input' (looked for: loops, veiled, ifaces, maps, wideKeys, modest, calm, conditions, laid).
  DERIVED. THE GIVEN ROWS OF THIS SEAT. 9 by the template 'for every input the law returns true; each argument reads behind the call as it read before'; 0 by the template 'total and deterministic' (their statements: YtlgcoaeddeiegaaGreatTotals.lean).
  GIVEN WITH THE SEED: the statements are not yours to turn. If you find one false, say at which input.
  Laid BY PROGRAM, IN A SANDBOX (cutbox-rows.mjs): the forced cells as the released guide's own fill.sh prints them over the translation 0298be53ed54b52e… (all of the seat's roots in one cut). By AI agents, Wed Nov 11 2026. No macro, syntax, notation, axiom, sorry.
-/
import Derived.Test.YtlgcoaeddeiegaaGreatChecked
import GoSem.Claim
import GoSem.ClaimJoined
import GoSem.ClaimMapViews
import Derived.JoinedTies
import Derived.KernelRfl
namespace Go.Proofs.YtlgcoaeddeiegaaGreat
/- THE CELL 'sum', in the pinned program and in every row, IS THE sha256 OF THE DUMP (.gsa) THAT YtlgcoaeddeiegaaGreatProg.lean LOADS. Nothing in Lean hashes anything: it is a label: what it is worth is what the hold of that sum in a sandbox is worth. -/
noncomputable def Tryz.pinned : Pinned := { name := "ytlgcoaeddeiegaagreat", sum := "0298be53ed54b52e79b37e7fad7506ab5dc9f02712ecd904a02f13f6f8386234", checked := Tryz.checked }
namespace Rows
def none {H : Type} : Left H := { results := [], args := [] }

/-- 'millracelaw11.PartlogRolls': WHATEVER THE INPUT: true; the input reads as it did. -/
def partlogRollsSpec : ChangeSpec := { name := "partlogRolls", fn := fun _ => fun
  | [d1, d2, d3] => { results := [.lit (.bool true)], args := [d1, d2, d3] }
  | _ => none }
def partlogRollsRow : OpenClaim := { program := "ytlgcoaeddeiegaagreat", sum := "0298be53ed54b52e79b37e7fad7506ab5dc9f02712ecd904a02f13f6f8386234", func := "millrace/millracelaw11.PartlogRolls", spec := "partlogRolls", unfollowed := true, recurses := true, apart := false }
def PartlogRollsSaid : Prop := partlogRollsRow.holds Tryz.pinned (OpenSpec.ofChange partlogRollsSpec)

/-- ITS FALSE NEIGHBOUR: 'it returns false'. Refute it at one input. -/
def partlogRollsWrong : ChangeSpec := { name := "partlogRolls", fn := fun _ => fun
  | [d1, d2, d3] => { results := [.lit (.bool false)], args := [d1, d2, d3] }
  | _ => none }
def PartlogRollsWrongFalsely : Prop := partlogRollsRow.holds Tryz.pinned (OpenSpec.ofChange partlogRollsWrong)

/-- 'millracelaw11.PartlogCrash': WHATEVER THE INPUT: true; the input reads as it did. -/
def partlogCrashSpec : ChangeSpec := { name := "partlogCrash", fn := fun _ => fun
  | [d] => { results := [.lit (.bool true)], args := [d] }
  | _ => none }
def partlogCrashRow : OpenClaim := { program := "ytlgcoaeddeiegaagreat", sum := "0298be53ed54b52e79b37e7fad7506ab5dc9f02712ecd904a02f13f6f8386234", func := "millrace/millracelaw11.PartlogCrash", spec := "partlogCrash", unfollowed := true, recurses := true, apart := false }
def PartlogCrashSaid : Prop := partlogCrashRow.holds Tryz.pinned (OpenSpec.ofChange partlogCrashSpec)

/-- ITS FALSE NEIGHBOUR: 'it returns false'. Refute it at one input. -/
def partlogCrashWrong : ChangeSpec := { name := "partlogCrash", fn := fun _ => fun
  | [d] => { results := [.lit (.bool false)], args := [d] }
  | _ => none }
def PartlogCrashWrongFalsely : Prop := partlogCrashRow.holds Tryz.pinned (OpenSpec.ofChange partlogCrashWrong)

/-- 'millracelaw11.PartlogNil': WHATEVER THE INPUT: true; the input reads as it did. -/
def partlogNilSpec : ChangeSpec := { name := "partlogNil", fn := fun _ => fun
  | [d] => { results := [.lit (.bool true)], args := [d] }
  | _ => none }
def partlogNilRow : OpenClaim := { program := "ytlgcoaeddeiegaagreat", sum := "0298be53ed54b52e79b37e7fad7506ab5dc9f02712ecd904a02f13f6f8386234", func := "millrace/millracelaw11.PartlogNil", spec := "partlogNil", unfollowed := true, recurses := true, apart := false }
def PartlogNilSaid : Prop := partlogNilRow.holds Tryz.pinned (OpenSpec.ofChange partlogNilSpec)

/-- ITS FALSE NEIGHBOUR: 'it returns false'. Refute it at one input. -/
def partlogNilWrong : ChangeSpec := { name := "partlogNil", fn := fun _ => fun
  | [d] => { results := [.lit (.bool false)], args := [d] }
  | _ => none }
def PartlogNilWrongFalsely : Prop := partlogNilRow.holds Tryz.pinned (OpenSpec.ofChange partlogNilWrong)

/-- 'millracelaw16.CoreTakes': WHATEVER THE INPUT: true; the input reads as it did. -/
def coreTakesSpec : ChangeSpec := { name := "coreTakes", fn := fun _ => fun
  | [d1, d2, d3] => { results := [.lit (.bool true)], args := [d1, d2, d3] }
  | _ => none }
def coreTakesRow : OpenClaim := { program := "ytlgcoaeddeiegaagreat", sum := "0298be53ed54b52e79b37e7fad7506ab5dc9f02712ecd904a02f13f6f8386234", func := "millrace/millracelaw16.CoreTakes", spec := "coreTakes", inPlace := ["sync/atomic.StoreInt64", "sync/atomic.LoadInt64", "sync/atomic.CompareAndSwapInt64"], unfollowed := true, recurses := true, apart := false }
def CoreTakesSaid : Prop := coreTakesRow.holds Tryz.pinned (OpenSpec.ofChange coreTakesSpec)

/-- ITS FALSE NEIGHBOUR: 'it returns false'. Refute it at one input. -/
def coreTakesWrong : ChangeSpec := { name := "coreTakes", fn := fun _ => fun
  | [d1, d2, d3] => { results := [.lit (.bool false)], args := [d1, d2, d3] }
  | _ => none }
def CoreTakesWrongFalsely : Prop := coreTakesRow.holds Tryz.pinned (OpenSpec.ofChange coreTakesWrong)

/-- 'millracelaw16.CoreNil': WHATEVER THE INPUT: true; the input reads as it did. -/
def coreNilSpec : ChangeSpec := { name := "coreNil", fn := fun _ => fun
  | [d1, d2, d3] => { results := [.lit (.bool true)], args := [d1, d2, d3] }
  | _ => none }
def coreNilRow : OpenClaim := { program := "ytlgcoaeddeiegaagreat", sum := "0298be53ed54b52e79b37e7fad7506ab5dc9f02712ecd904a02f13f6f8386234", func := "millrace/millracelaw16.CoreNil", spec := "coreNil", inPlace := ["sync/atomic.StoreInt64", "sync/atomic.LoadInt64", "sync/atomic.CompareAndSwapInt64"], unfollowed := true, recurses := true, apart := false }
def CoreNilSaid : Prop := coreNilRow.holds Tryz.pinned (OpenSpec.ofChange coreNilSpec)

/-- ITS FALSE NEIGHBOUR: 'it returns false'. Refute it at one input. -/
def coreNilWrong : ChangeSpec := { name := "coreNil", fn := fun _ => fun
  | [d1, d2, d3] => { results := [.lit (.bool false)], args := [d1, d2, d3] }
  | _ => none }
def CoreNilWrongFalsely : Prop := coreNilRow.holds Tryz.pinned (OpenSpec.ofChange coreNilWrong)

/-- 'millracelaw16.CoreSafe': WHATEVER THE INPUT: true; the input reads as it did. -/
def coreSafeSpec : ChangeSpec := { name := "coreSafe", fn := fun _ => fun
  | [d1, d2, d3] => { results := [.lit (.bool true)], args := [d1, d2, d3] }
  | _ => none }
def coreSafeRow : OpenClaim := { program := "ytlgcoaeddeiegaagreat", sum := "0298be53ed54b52e79b37e7fad7506ab5dc9f02712ecd904a02f13f6f8386234", func := "millrace/millracelaw16.CoreSafe", spec := "coreSafe", inPlace := ["sync/atomic.StoreInt64", "sync/atomic.LoadInt64", "sync/atomic.CompareAndSwapInt64"], unfollowed := true, recurses := true, apart := false }
def CoreSafeSaid : Prop := coreSafeRow.holds Tryz.pinned (OpenSpec.ofChange coreSafeSpec)

/-- ITS FALSE NEIGHBOUR: 'it returns false'. Refute it at one input. -/
def coreSafeWrong : ChangeSpec := { name := "coreSafe", fn := fun _ => fun
  | [d1, d2, d3] => { results := [.lit (.bool false)], args := [d1, d2, d3] }
  | _ => none }
def CoreSafeWrongFalsely : Prop := coreSafeRow.holds Tryz.pinned (OpenSpec.ofChange coreSafeWrong)

/-- 'millracelaw25.BoundAlone': WHATEVER THE INPUT: true; the input reads as it did. -/
def boundAloneSpec : ChangeSpec := { name := "boundAlone", fn := fun _ => fun
  | [d] => { results := [.lit (.bool true)], args := [d] }
  | _ => none }
def boundAloneRow : OpenClaim := { program := "ytlgcoaeddeiegaagreat", sum := "0298be53ed54b52e79b37e7fad7506ab5dc9f02712ecd904a02f13f6f8386234", func := "millrace/millracelaw25.BoundAlone", spec := "boundAlone", inPlace := ["sync/atomic.StoreInt64", "sync/atomic.LoadInt64", "sync/atomic.CompareAndSwapInt64"], unfollowed := true, recurses := true, apart := false }
def BoundAloneSaid : Prop := boundAloneRow.holds Tryz.pinned (OpenSpec.ofChange boundAloneSpec)

/-- ITS FALSE NEIGHBOUR: 'it returns false'. Refute it at one input. -/
def boundAloneWrong : ChangeSpec := { name := "boundAlone", fn := fun _ => fun
  | [d] => { results := [.lit (.bool false)], args := [d] }
  | _ => none }
def BoundAloneWrongFalsely : Prop := boundAloneRow.holds Tryz.pinned (OpenSpec.ofChange boundAloneWrong)

/-- 'millracelaw25.BoundNumbers': WHATEVER THE INPUT: true; the input reads as it did. -/
def boundNumbersSpec : ChangeSpec := { name := "boundNumbers", fn := fun _ => fun
  | [d1, d2] => { results := [.lit (.bool true)], args := [d1, d2] }
  | _ => none }
def boundNumbersRow : OpenClaim := { program := "ytlgcoaeddeiegaagreat", sum := "0298be53ed54b52e79b37e7fad7506ab5dc9f02712ecd904a02f13f6f8386234", func := "millrace/millracelaw25.BoundNumbers", spec := "boundNumbers", inPlace := ["sync/atomic.StoreInt64", "sync/atomic.LoadInt64", "sync/atomic.CompareAndSwapInt64"], unfollowed := true, recurses := true, apart := false }
def BoundNumbersSaid : Prop := boundNumbersRow.holds Tryz.pinned (OpenSpec.ofChange boundNumbersSpec)

/-- ITS FALSE NEIGHBOUR: 'it returns false'. Refute it at one input. -/
def boundNumbersWrong : ChangeSpec := { name := "boundNumbers", fn := fun _ => fun
  | [d1, d2] => { results := [.lit (.bool false)], args := [d1, d2] }
  | _ => none }
def BoundNumbersWrongFalsely : Prop := boundNumbersRow.holds Tryz.pinned (OpenSpec.ofChange boundNumbersWrong)

/-- 'millracelaw25.BoundHolds': WHATEVER THE INPUT: true; the input reads as it did. -/
def boundHoldsSpec : ChangeSpec := { name := "boundHolds", fn := fun _ => fun
  | [d] => { results := [.lit (.bool true)], args := [d] }
  | _ => none }
def boundHoldsRow : OpenClaim := { program := "ytlgcoaeddeiegaagreat", sum := "0298be53ed54b52e79b37e7fad7506ab5dc9f02712ecd904a02f13f6f8386234", func := "millrace/millracelaw25.BoundHolds", spec := "boundHolds", inPlace := ["sync/atomic.StoreInt64", "sync/atomic.LoadInt64", "sync/atomic.CompareAndSwapInt64"], unfollowed := true, recurses := true, apart := false }
def BoundHoldsSaid : Prop := boundHoldsRow.holds Tryz.pinned (OpenSpec.ofChange boundHoldsSpec)

/-- ITS FALSE NEIGHBOUR: 'it returns false'. Refute it at one input. -/
def boundHoldsWrong : ChangeSpec := { name := "boundHolds", fn := fun _ => fun
  | [d] => { results := [.lit (.bool false)], args := [d] }
  | _ => none }
def BoundHoldsWrongFalsely : Prop := boundHoldsRow.holds Tryz.pinned (OpenSpec.ofChange boundHoldsWrong)

/- THE SECOND FORM. 'bulk': how many values and letters a reading holds, each counted each time it is reached (what is shared counts as often as it is met; a slice's spare places count too). A statement '..UptoSaid' is the law's where the arguments, and the package variables that the reading takes, are together of bulk at most 1048576: NARROWER than '..Said'. Prove '..Said' where nothing that the law and all that it calls make is longer than what came in: it says more and counts as full. Else prove '..UptoSaid'. A law counts once. -/
mutual
def uptoBulk {H : Type} : DataW H → Nat
  | .lit (.string bytes) => bytes.length + 1
  | .lit _ => 1
  | .nil => 1
  | .ptr d => uptoBulk d + 1
  | .slice elems spare => uptoBulkAll elems + uptoBulkAll spare + 1
  | .agg parts => uptoBulkAll parts + 1
  | .iface _ d => uptoBulk d + 1
  | .map entries => uptoBulkEntries entries + 1
  | .held _ => 1
def uptoBulkAll {H : Type} : List (DataW H) → Nat
  | [] => 0
  | d :: r => uptoBulk d + uptoBulkAll r
def uptoBulkEntries {H : Type} : List (Lit × DataW H) → Nat
  | [] => 0
  | x :: r => uptoBulkEntry x + uptoBulkEntries r
def uptoBulkEntry {H : Type} : Lit × DataW H → Nat
  | (.string bytes, d) => bytes.length + uptoBulk d + 1
  | (_, d) => uptoBulk d + 1
 end
def uptoSmall : (H : Type) → List (DataW H) → Bool := fun _ ds => decide (uptoBulkAll ds ≤ 1048576)
def OpenSpec.upto (s : _root_.Go.ChangeSpec) : _root_.Go.OpenSpec := { _root_.Go.OpenSpec.ofChange s with cond := some uptoSmall }

/-- 'millracelaw11.PartlogRolls', WHERE WHAT IT READS IS OF BULK AT MOST 1048576: true; the input reads as it did. -/
def partlogRollsUptoRow : OpenClaim := { program := "ytlgcoaeddeiegaagreat", sum := "0298be53ed54b52e79b37e7fad7506ab5dc9f02712ecd904a02f13f6f8386234", func := "millrace/millracelaw11.PartlogRolls", spec := "partlogRolls", unfollowed := true, recurses := true, apart := false, narrowed := true }
def PartlogRollsUptoSaid : Prop := partlogRollsUptoRow.holds Tryz.pinned (OpenSpec.upto partlogRollsSpec)

/-- 'millracelaw11.PartlogCrash', WHERE WHAT IT READS IS OF BULK AT MOST 1048576: true; the input reads as it did. -/
def partlogCrashUptoRow : OpenClaim := { program := "ytlgcoaeddeiegaagreat", sum := "0298be53ed54b52e79b37e7fad7506ab5dc9f02712ecd904a02f13f6f8386234", func := "millrace/millracelaw11.PartlogCrash", spec := "partlogCrash", unfollowed := true, recurses := true, apart := false, narrowed := true }
def PartlogCrashUptoSaid : Prop := partlogCrashUptoRow.holds Tryz.pinned (OpenSpec.upto partlogCrashSpec)

/-- 'millracelaw11.PartlogNil', WHERE WHAT IT READS IS OF BULK AT MOST 1048576: true; the input reads as it did. -/
def partlogNilUptoRow : OpenClaim := { program := "ytlgcoaeddeiegaagreat", sum := "0298be53ed54b52e79b37e7fad7506ab5dc9f02712ecd904a02f13f6f8386234", func := "millrace/millracelaw11.PartlogNil", spec := "partlogNil", unfollowed := true, recurses := true, apart := false, narrowed := true }
def PartlogNilUptoSaid : Prop := partlogNilUptoRow.holds Tryz.pinned (OpenSpec.upto partlogNilSpec)

/-- 'millracelaw16.CoreTakes', WHERE WHAT IT READS IS OF BULK AT MOST 1048576: true; the input reads as it did. -/
def coreTakesUptoRow : OpenClaim := { program := "ytlgcoaeddeiegaagreat", sum := "0298be53ed54b52e79b37e7fad7506ab5dc9f02712ecd904a02f13f6f8386234", func := "millrace/millracelaw16.CoreTakes", spec := "coreTakes", inPlace := ["sync/atomic.StoreInt64", "sync/atomic.LoadInt64", "sync/atomic.CompareAndSwapInt64"], unfollowed := true, recurses := true, apart := false, narrowed := true }
def CoreTakesUptoSaid : Prop := coreTakesUptoRow.holds Tryz.pinned (OpenSpec.upto coreTakesSpec)

/-- 'millracelaw16.CoreNil', WHERE WHAT IT READS IS OF BULK AT MOST 1048576: true; the input reads as it did. -/
def coreNilUptoRow : OpenClaim := { program := "ytlgcoaeddeiegaagreat", sum := "0298be53ed54b52e79b37e7fad7506ab5dc9f02712ecd904a02f13f6f8386234", func := "millrace/millracelaw16.CoreNil", spec := "coreNil", inPlace := ["sync/atomic.StoreInt64", "sync/atomic.LoadInt64", "sync/atomic.CompareAndSwapInt64"], unfollowed := true, recurses := true, apart := false, narrowed := true }
def CoreNilUptoSaid : Prop := coreNilUptoRow.holds Tryz.pinned (OpenSpec.upto coreNilSpec)

/-- 'millracelaw16.CoreSafe', WHERE WHAT IT READS IS OF BULK AT MOST 1048576: true; the input reads as it did. -/
def coreSafeUptoRow : OpenClaim := { program := "ytlgcoaeddeiegaagreat", sum := "0298be53ed54b52e79b37e7fad7506ab5dc9f02712ecd904a02f13f6f8386234", func := "millrace/millracelaw16.CoreSafe", spec := "coreSafe", inPlace := ["sync/atomic.StoreInt64", "sync/atomic.LoadInt64", "sync/atomic.CompareAndSwapInt64"], unfollowed := true, recurses := true, apart := false, narrowed := true }
def CoreSafeUptoSaid : Prop := coreSafeUptoRow.holds Tryz.pinned (OpenSpec.upto coreSafeSpec)

/-- 'millracelaw25.BoundAlone', WHERE WHAT IT READS IS OF BULK AT MOST 1048576: true; the input reads as it did. -/
def boundAloneUptoRow : OpenClaim := { program := "ytlgcoaeddeiegaagreat", sum := "0298be53ed54b52e79b37e7fad7506ab5dc9f02712ecd904a02f13f6f8386234", func := "millrace/millracelaw25.BoundAlone", spec := "boundAlone", inPlace := ["sync/atomic.StoreInt64", "sync/atomic.LoadInt64", "sync/atomic.CompareAndSwapInt64"], unfollowed := true, recurses := true, apart := false, narrowed := true }
def BoundAloneUptoSaid : Prop := boundAloneUptoRow.holds Tryz.pinned (OpenSpec.upto boundAloneSpec)

/-- 'millracelaw25.BoundNumbers', WHERE WHAT IT READS IS OF BULK AT MOST 1048576: true; the input reads as it did. -/
def boundNumbersUptoRow : OpenClaim := { program := "ytlgcoaeddeiegaagreat", sum := "0298be53ed54b52e79b37e7fad7506ab5dc9f02712ecd904a02f13f6f8386234", func := "millrace/millracelaw25.BoundNumbers", spec := "boundNumbers", inPlace := ["sync/atomic.StoreInt64", "sync/atomic.LoadInt64", "sync/atomic.CompareAndSwapInt64"], unfollowed := true, recurses := true, apart := false, narrowed := true }
def BoundNumbersUptoSaid : Prop := boundNumbersUptoRow.holds Tryz.pinned (OpenSpec.upto boundNumbersSpec)

/-- 'millracelaw25.BoundHolds', WHERE WHAT IT READS IS OF BULK AT MOST 1048576: true; the input reads as it did. -/
def boundHoldsUptoRow : OpenClaim := { program := "ytlgcoaeddeiegaagreat", sum := "0298be53ed54b52e79b37e7fad7506ab5dc9f02712ecd904a02f13f6f8386234", func := "millrace/millracelaw25.BoundHolds", spec := "boundHolds", inPlace := ["sync/atomic.StoreInt64", "sync/atomic.LoadInt64", "sync/atomic.CompareAndSwapInt64"], unfollowed := true, recurses := true, apart := false, narrowed := true }
def BoundHoldsUptoSaid : Prop := boundHoldsUptoRow.holds Tryz.pinned (OpenSpec.upto boundHoldsSpec)

end Rows
end Go.Proofs.YtlgcoaeddeiegaaGreat
