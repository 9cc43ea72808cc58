/- The texts Pzw in one. -/
import Derived.Test.YtlgcoaeddeiegaaGreatV28
import Derived.Test.YtlgcoaeddeiegaaGreatV31
import Derived.Test.YtlgcoaeddeiegaaGreatV32
import Derived.Test.YtlgcoaeddeiegaaGreatV14
/- PartlogRolls: what the walk asks of a log at home. -/
namespace Go.Proofs.YtlgcoaeddeiegaaGreat
open Go Go.Maps Go.RowKit
attribute [local go_sem] Oper.semAt_some

section
variable {w w1 w2 : World} {X Y : Nat → Prop} {lp q : Nat} {log : ByteArray} {roll step : Nat} {g : Lg} {d : Dk}
theorem Home.off (h : Home w X w1 lp q log roll step g d) (ho : Only Y w1 w2) (hY : ∀ k, Y k → X k ∧ w.heap.size ≤ k) : Home w (fun k => X k ∨ (w1.heap.size ≤ k ∧ k < w2.heap.size)) w2 lp q log roll step g d := by
  obtain ⟨S, T, h1, h2⟩ := h.log'
  obtain ⟨G, a, pv, hm⟩ := h1.log'
  refine ⟨⟨S, T, ⟨h1.disk.onlyS ho (fun k hk e => (h2 k (.inl hk)).2 (hY k e).1), ⟨G, a, pv, hm.only ho (fun k hk e => (h2 k (.inr hk)).2 (hY k e).1)⟩, h1.apart⟩, fun k hk => ⟨(h2 k hk).1, fun e => ?_⟩⟩, h.below.trans (ho.below (fun i hi e => by have := (hY i e).2; omega) h.below.size), fun k hk => ?_⟩
  · rcases e with e | e
    · exact (h2 k hk).2 e
    · have := h1.lows k hk
      omega
  · rcases hk with e | e
    · exact Nat.lt_of_lt_of_le (h.xlow k e) ho.size
    · exact e.2
end
end Go.Proofs.YtlgcoaeddeiegaaGreat
