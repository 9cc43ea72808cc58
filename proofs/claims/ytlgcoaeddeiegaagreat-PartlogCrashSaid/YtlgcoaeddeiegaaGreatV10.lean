/- The texts Kitg in one. -/
import Derived.Defers
import Derived.Deep.RegionHeld
/- A deferring function's post at a panic hangs on the frame only through its result slots. -/
namespace Go.Proofs.YtlgcoaeddeiegaaGreat
open Go

theorem leaves_congr {P : Program} {fn : Func} {t1 t2 : Array Value} {R : Ending → World → Prop} (h : results fn t1 = results fn t2) : ∀ (ds : List Deferred) (u : FrameMode) (w : World), Leaves P fn t1 R ds u w → Leaves P fn t2 R ds u w
  | [], .returning, _, hl => by
    obtain ⟨v, h1, h2⟩ := hl
    exact ⟨v, by rw [← h]; exact h1, h2⟩
  | [], .panicking _, _, hl => hl
  | [], .run, _, hl => hl
  | _ :: ds, _, _, hl => by
    obtain ⟨hr, fv, cap, f, args, h1, h2, h3⟩ := hl
    refine ⟨hr, fv, cap, f, args, h1, h2, h3.mono ?_⟩
    intro e u' w' hh
    cases e with
    | returned v => exact leaves_congr h ds _ _ hh
    | panicked chain => exact leaves_congr h ds _ _ hh
    | outgrown => exact hh
end Go.Proofs.YtlgcoaeddeiegaaGreat
