/- Real: the arguments of law03's rows, opened. -/
import Derived.Test.YthfgjibhpenfkaaDoorLx
import Derived.Deep.Slices
import Derived.Laws.Cover2
namespace Go.Proofs.YthfgjibhpenfkaaDoor
open Go.ChangeShapes Go.WideShapes Go.ChangeAt Go.RowKit Go.Joins Fl

theorem laidOut : laidOutB Tryd.prog = true := by kernel_rfl
theorem cells_float : Tryd.prog.cellsOf 26 = 1 := by kernel_rfl
/-- a slice of floats, as it came in -/
def IsFl (w : World) (v : Value) : Prop := ∃ (a : Option Addr) (n c : Nat) (f : Nat → Nat), v = .slice a n c ∧ FloatsAt w a n f ∧ (a = none → c = 0) ∧ n ≤ c
def IsF (v : Value) : Prop := ∃ x : Nat, v = .float .f64 x ∧ x < 18446744073709551616
section
variable {H : Type} {enc : TypeId × Value → H} {P : Program} {w : World} {base b1 : Nat} {spare : Nat → Bool} {held : Bool} {rc : Reach} {v : Value} {d : DataW H} {p : List MemPlace}
theorem trod_float {n : Nat} {t : TypeId} {v : Value} {y : DataW H × List MemPlace} (ht : P.underlying t = some (.float .f64)) (h : DataW.trod enc P w base spare held n t [v] = some y) : ∃ b, v = .float .f64 b ∧ b < 18446744073709551616 := by
  cases n with
  | zero => simp [DataW.trod] at h
  | succ n =>
    simp only [DataW.trod, ht] at h
    cases v <;> simp at h
    rename_i k bits
    obtain ⟨⟨rfl, hw⟩, _⟩ := h
    refine ⟨bits, rfl, ?_⟩
    simpa [Lit.wf] using hw
set_option maxRecDepth 100000 in
theorem open_fl {fuel : Nat} {v : Value} {y : DataW H × List MemPlace} (hf : DataW.trod enc Tryd.prog w base spare held fuel 22 [v] = some y) : IsFl w v := by
  rcases Deep.open_slice1 Tryd.underlying22 cells_float hf with ⟨hc, _⟩ | ⟨a, len, cap, m, k, V, D, Pl, hc, _, hl, hm, hmm, hx, hall⟩
  · have hc' : [v] = [.slice none 0 0] := hc
    simp only [List.cons.injEq, and_true] at hc'
    subst hc'
    exact ⟨none, 0, 0, fun _ => 0, rfl, fun i hi => absurd hi (Nat.not_lt_zero i), fun _ => rfl, Nat.le_refl _⟩
  · have hc' : [v] = [.slice (some a) len cap] := hc
    simp only [List.cons.injEq, and_true] at hc'
    subst hc'
    have hlm : len ≤ m := by rw [hmm]; split <;> omega
    obtain ⟨f, hF⟩ := Deep.choose_lt (n := len) (p := fun i x => V i = .float .f64 x ∧ x < 18446744073709551616) fun i hi => trod_float Tryd.underlying26 (hall i (by omega)).2
    refine ⟨some a, _, _, f, rfl, fun i hi => ⟨a, rfl, ?_, ?_, (hF i hi).2⟩, fun h => by simp at h, hl⟩
    · rw [(hall i (by omega)).1, (hF i hi).1]
    · have := World.block_lt_of_cell? w _ (hall i (by omega)).1
      rwa [show (a.add i).block = a.block by unfold Addr.add; split <;> rfl] at this
set_option maxRecDepth 100000 in
theorem isFl (h : DataW.Trod enc Tryd.prog w base spare held 22 v d p) (hv : Value.okWide Tryd.prog w rc b1 22 v) : IsFl w v := by
  obtain ⟨ax, n, c, rfl⟩ := okWide_slice Tryd.underlying22 hv
  obtain ⟨fuel, hf⟩ := h
  exact open_fl hf
set_option maxRecDepth 100000 in
theorem isF (h : DataW.Trod enc Tryd.prog w base spare held 26 v d p) (hv : Value.okWide Tryd.prog w rc b1 26 v) : IsF v := by
  obtain ⟨x, rfl⟩ := okWide_float Tryd.underlying26 hv
  obtain ⟨fuel, hf⟩ := h
  obtain ⟨b, hb, hl⟩ := trod_float Tryd.underlying26 hf
  exact ⟨b, hb, hl⟩
end
end Go.Proofs.YthfgjibhpenfkaaDoor
