/- StatsParts: for all small numbers and every place the law returns true and leaves its arguments as they were. Conditions: none beyond the row's own. -/
import Derived.Test.YtbpnhpjcepgiiaaRows
import Derived.Test.YtbpnhpjcepgiiaaWd
import Derived.Test.YtbpnhpjcepgiiaaQu
import Derived.ProofKit
import Derived.OpenShut
import Derived.Lib.SmallJoins
import Derived.ChangeOld
import Derived.Below
namespace Go.Proofs.Ytbpnhpjcepgiiaa.statsParts
open Go.ChangeShapes Go.WideShapes Go.ChangeAt Go.RowKit Go.Joins
open Fl

def IsInts (w : World) (v : Value) : Prop := ∃ (a : Option Addr) (n c : Nat) (f : Nat → Int), v = .slice a n c ∧ Ints32 w a n f
section
variable {H : Type} {enc : TypeId × Value → H} {w : World} {base b1 : Nat} {spare : Nat → Bool} {held : Bool} {rc : Reach} {v : Value} {d : DataW H} {p : List MemPlace}
theorem cells_i32 : Try.prog.cellsOf 21 = 1 := by kernel_rfl
theorem wf_i32 (x : Int) (h : (Lit.int .i32 x).wf = true) : -2147483648 ≤ x ∧ x ≤ 2147483647 := by
  simp [Lit.wf, IntKind.min, IntKind.max, IntKind.signed, IntKind.bits] at h
  exact h
set_option maxRecDepth 100000 in
theorem open_ints {fuel : Nat} {v : Value} {y : DataW H × List MemPlace} (hf : DataW.trod enc Try.prog w base spare held fuel 100 [v] = some y) : IsInts w v := by
  rcases Deep.open_slice1 Try.underlying100 cells_i32 hf with ⟨hc, _⟩ | ⟨a, len, cap, m, k, V, D, Pl, hc, _, hl, hm, hmm, hx, hall⟩
  · have hc' : [v] = [.slice none 0 0] := hc
    simp only [List.cons.injEq, and_true] at hc'
    subst hc'
    exact ⟨none, 0, 0, fun _ => 0, rfl, fun i hi => absurd hi (Nat.not_lt_zero i)⟩
  · have hc' : [v] = [.slice (some a) len cap] := hc
    simp only [List.cons.injEq, and_true] at hc'
    subst hc'
    have hlm : len ≤ m := by rw [hmm]; split <;> omega
    obtain ⟨f, hF⟩ := Deep.choose_lt (n := len) (p := fun i x => V i = .int .i32 x ∧ -2147483648 ≤ x ∧ x ≤ 2147483647) fun i hi => by
      obtain ⟨x, hx, _, hr⟩ := DataW.trod_int Try.underlying21 (hall i (by omega)).2
      exact ⟨x, by simpa using hx, wf_i32 x hr⟩
    refine ⟨some a, _, _, f, rfl, fun i hi => ⟨a, rfl, ?_, ?_, (hF i hi).2⟩⟩
    · rw [(hall i (by omega)).1, (hF i hi).1]
    · have := World.block_lt_of_cell? w _ (hall i (by omega)).1
      rwa [show (a.add i).block = a.block by unfold Addr.add; split <;> rfl] at this
set_option maxRecDepth 100000 in
theorem isInts (h : DataW.Trod enc Try.prog w base spare held 100 v d p) (hv : Value.okWide Try.prog w rc b1 100 v) : IsInts w v := by
  obtain ⟨ax, n, c, rfl⟩ := okWide_slice Try.underlying100 hv
  obtain ⟨fuel, hf⟩ := h
  exact open_ints hf
end

set_option maxRecDepth 100000 in
theorem walk (v0 v1 : Value) (w : World) (h0 : IsInts w v0) (h1 : ∃ a : Int, v1 = .int .i64 a) :
    Calls Try.prog 9 #[v0, v1] w fun e w' => e = .returned (.bool true) ∧ Below w.heap.size w w' := by
  obtain ⟨os, n, cs, G, rfl, hs⟩ := h0
  obtain ⟨a, rfl⟩ := h1
  by_cases hn : 300 < n
  · exact parts_long os n cs a w (.inl hn)
  · by_cases h0 : n = 0
    · exact parts_long os n cs a w (.inr h0)
    · exact parts_walk os n cs a G w hs (by omega) (by omega)

set_option maxRecDepth 100000 in
theorem lifted (os : Os) (started : os.Started) (H : Type) (enc : TypeId × Value → H) :
    ReturnsInHanded {} Try.checked os 9 .any (Rows.statsPartsSpec.pre6 enc Try.prog Try.f9 Rows.statsPartsRow.domain false) (Rows.statsPartsSpec.post enc Try.prog Try.f9 false true false false) := by
  refine returnsInHanded_of_change (C := Try.checked) quotaWaits.own started (by kernel_rfl) Try.func9
    (ChangeSpec.witness6 (enc := enc) (C := Try.checked) false ⟨#[], #[.slice none 0 0, .int .i64 0], []⟩ 8 (by kernel_rfl) (by kernel_rfl) (by kernel_rfl) (by kernel_rfl)) ?_
  intro W base args ds gs before hval0 hW hcnd _
  have hval : ∀ (j : Nat) t v, Try.f9.params[j]? = some t → args[j]? = some v → Value.okWide Try.prog W .any base t v := hval0
  have hW' := hW
  obtain ⟨p, q, hA0, hV, rfl, hfz, hnd⟩ := hW
  have hA : DataW.TrodAll enc Try.prog W 0 (fun _ => true) true Try.f9.params.toList args.toList ds p := hA0
  rw [Try.params9] at hA hval
  obtain ⟨v0, vs0, d0, ds0, p0, q0, hargs, rfl, rfl, h0, r0⟩ := trodAll_cons hA
  obtain ⟨v1, vs1, d1, ds1, p1, q1, rfl, rfl, rfl, h1, r1⟩ := trodAll_cons r0
  obtain ⟨rfl, rfl, rfl⟩ := trodAll_nil r1
  obtain rfl : args = #[v0, v1] := by cases args; simp_all
  obtain ⟨rfl, rfl⟩ := trodVars_none hV
  have lt0 : ∀ x ∈ p0, x.block < W.heap.size := by obtain ⟨m, hm⟩ := h0; exact DataW.trod_lt m _ _ _ hm
  have lt1 : ∀ x ∈ p1, x.block < W.heap.size := by obtain ⟨m, hm⟩ := h1; exact DataW.trod_lt m _ _ _ hm
  have hv0 := isInts h0 (hval 0 100 v0 rfl rfl)
  have hv1 := okWide_int Try.underlying3 (hval 1 3 v1 rfl rfl)
  clear hA0 hval0
  refine (walk v0 v1 W hv0 hv1).mono fun e W' ⟨he, bel⟩ => ?_
  subst he
  exact ⟨_, rfl, _, _, _, [], _, [], hW', trodAll_mk1 (shut_bool Try.underlying4 _), (trodAll_cons_mk (Below.trod quotaWaits.laidOut (by kernel_rfl) (of_decide_eq_true (by kernel_rfl)) h0 bel lt0)
    (trodAll_cons_mk (Below.trod quotaWaits.laidOut (by kernel_rfl) (of_decide_eq_true (by kernel_rfl)) h1 bel lt1) trodAll_mk0)), rfl, bel.frame _, fun h => by cases h⟩

theorem over : Rows.statsPartsRow.holds Try.pinned (OpenSpec.ofChange Rows.statsPartsSpec) :=
  OpenClaim.holds_of_wide 9 Try.f9 rfl rfl rfl rfl rfl rfl rfl ⟨rfl, rfl, rfl, rfl, rfl⟩ rfl rfl rfl rfl rfl (by kernel_rfl) Try.func9 (by kernel_rfl)
    (of_decide_eq_true (by kernel_rfl)) (by unfold Func.isWrapper; first | (rw [if_pos (by decide +kernel)]; kernel_rfl) | (rw [if_neg (by decide +kernel)]; exact ⟨rfl, rfl⟩))
    (fun os started H enc _ => lifted os started H enc)

theorem proved : Rows.StatsPartsSaid := over
#print axioms proved
end Go.Proofs.Ytbpnhpjcepgiiaa.statsParts
