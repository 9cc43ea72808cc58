/- StatsHold: for all small numbers, floats and shares the law returns true and leaves its argument as it was. Conditions: none beyond the row's own. -/
import Derived.Test.YtbpnhpjcepgiiaaRows
import Derived.Test.YtbpnhpjcepgiiaaVf
import Derived.Test.YtbpnhpjcepgiiaaQu
import Derived.ProofKit
import Derived.OpenShut
import Derived.Lib.SmallJoins
import Derived.ChangeOld
import Derived.Below
namespace Go.Proofs.Ytbpnhpjcepgiiaa.statsHold
open Go.ChangeShapes Go.WideShapes Go.ChangeAt Go.RowKit Go.Joins
open Fl

def IsInts (w : World) (v : Value) : Prop := ∃ (a : Option Addr) (n c : Nat) (f : Nat → Int), v = .slice a n c ∧ Ints32 w a n f
def IsHolds (w : World) (v : Value) : Prop := ∃ v0 v1 p q, v = .agg #[v0, v1, .float .f64 p, .float .f64 q] ∧ IsInts w v0 ∧ quotaHolds.IsFloats w v1 ∧ p < 18446744073709551616 ∧ q < 18446744073709551616
section
variable {H : Type} {enc : TypeId × Value → H} {w : World} {base b1 : Nat} {spare : Nat → Bool} {held : Bool} {rc : Reach} {v : Value} {d : DataW H} {p : List MemPlace}
theorem cells_i32 : Try.prog.cellsOf 21 = 1 := by kernel_rfl
theorem cells_li : Try.prog.cellsOf 100 = 1 := by kernel_rfl
theorem cells_holds : Try.prog.cellsOf 102 = 4 := by kernel_rfl
theorem cells_lf : Try.prog.cellsOf 25 = 1 := by kernel_rfl
set_option maxRecDepth 100000 in
theorem open_floats {fuel : Nat} {v : Value} {y : DataW H × List MemPlace} (hf : DataW.trod enc Try.prog w base spare held fuel 25 [v] = some y) : quotaHolds.IsFloats w v := by
  rcases Deep.open_slice1 Try.underlying25 quotaWaits.cells_float hf with ⟨hc, _⟩ | ⟨a, len, cap, m, k, V, D, Pl, hc, _, hl, hm, hmm, hx, hall⟩
  · have hc' : [v] = [.slice none 0 0] := hc
    simp only [List.cons.injEq, and_true] at hc'
    subst hc'
    exact ⟨none, 0, 0, fun _ => 0, rfl, fun i hi => absurd hi (Nat.not_lt_zero i)⟩
  · have hc' : [v] = [.slice (some a) len cap] := hc
    simp only [List.cons.injEq, and_true] at hc'
    subst hc'
    have hlm : len ≤ m := by rw [hmm]; split <;> omega
    obtain ⟨f, hF⟩ := Deep.choose_lt (n := len) (p := fun i x => V i = .float .f64 x ∧ x < 18446744073709551616) fun i hi => quotaWaits.trod_float Try.underlying22 (hall i (by omega)).2
    refine ⟨some a, _, _, f, rfl, fun i hi => ⟨a, rfl, ?_, ?_, (hF i hi).2⟩⟩
    · rw [(hall i (by omega)).1, (hF i hi).1]
    · have := World.block_lt_of_cell? w _ (hall i (by omega)).1
      rwa [show (a.add i).block = a.block by unfold Addr.add; split <;> rfl] at this
theorem wf_i32 (x : Int) (h : (Lit.int .i32 x).wf = true) : -2147483648 ≤ x ∧ x ≤ 2147483647 := by
  simp [Lit.wf, IntKind.min, IntKind.max, IntKind.signed, IntKind.bits] at h
  exact h
set_option maxRecDepth 100000 in
theorem open_ints {fuel : Nat} {v : Value} {y : DataW H × List MemPlace} (hf : DataW.trod enc Try.prog w base spare held fuel 100 [v] = some y) : IsInts w v := by
  rcases Deep.open_slice1 Try.underlying100 cells_i32 hf with ⟨hc, _⟩ | ⟨a, len, cap, m, k, V, D, Pl, hc, _, hl, hm, hmm, hx, hall⟩
  · have hc' : [v] = [.slice none 0 0] := hc
    simp only [List.cons.injEq, and_true] at hc'
    subst hc'
    exact ⟨none, 0, 0, fun _ => 0, rfl, fun i hi => absurd hi (Nat.not_lt_zero i)⟩
  · have hc' : [v] = [.slice (some a) len cap] := hc
    simp only [List.cons.injEq, and_true] at hc'
    subst hc'
    have hlm : len ≤ m := by rw [hmm]; split <;> omega
    obtain ⟨f, hF⟩ := Deep.choose_lt (n := len) (p := fun i x => V i = .int .i32 x ∧ -2147483648 ≤ x ∧ x ≤ 2147483647) fun i hi => by
      obtain ⟨x, hx, _, hr⟩ := DataW.trod_int Try.underlying21 (hall i (by omega)).2
      exact ⟨x, by simpa using hx, wf_i32 x hr⟩
    refine ⟨some a, _, _, f, rfl, fun i hi => ⟨a, rfl, ?_, ?_, (hF i hi).2⟩⟩
    · rw [(hall i (by omega)).1, (hF i hi).1]
    · have := World.block_lt_of_cell? w _ (hall i (by omega)).1
      rwa [show (a.add i).block = a.block by unfold Addr.add; split <;> rfl] at this
set_option maxRecDepth 100000 in
theorem isHolds (hv : Value.okWide Try.prog w rc b1 102 v) (h : DataW.Trod enc Try.prog w base spare held 102 v d p) : IsHolds w v := by
  obtain ⟨cs, rfl, hsz⟩ := okWide_struct Try.underlying102 hv
  obtain ⟨fuel, hf⟩ := h
  obtain ⟨l⟩ := cs
  rw [cells_holds] at hsz
  match l, hsz with
  | [c0, c1, c2, c3], _ =>
    obtain ⟨xs, m, _, _, _, hlen, hg⟩ := DataW.trod_struct Try.underlying102 hf
    match xs, hlen with
    | [y0, y1, y2, y3], _ =>
      have g0 := hg 0 { name := "Small", type := 100, offset := 0, embedded := false, tag := "", pkgPath := "", byteOffset := 0 } rfl
      have g1 := hg 1 { name := "L", type := 25, offset := 1, embedded := false, tag := "", pkgPath := "", byteOffset := 24 } rfl
      have g2 := hg 2 { name := "P", type := 22, offset := 2, embedded := false, tag := "", pkgPath := "", byteOffset := 48 } rfl
      have g3 := hg 3 { name := "Q", type := 22, offset := 3, embedded := false, tag := "", pkgPath := "", byteOffset := 56 } rfl
      simp only [cells_li, cells_lf, quotaWaits.cells_float, Value.cells, List.drop_zero, List.take_succ_cons, List.take_zero, List.drop_succ_cons, List.getElem?_cons_zero, List.getElem?_cons_succ] at g0 g1 g2 g3
      obtain ⟨p, hp1, hp2⟩ := quotaWaits.trod_float Try.underlying22 g2
      obtain ⟨q, hq1, hq2⟩ := quotaWaits.trod_float Try.underlying22 g3
      subst hp1 hq1
      exact ⟨c0, c1, p, q, rfl, open_ints g0, open_floats g1, hp2, hq2⟩
end

set_option maxRecDepth 100000 in
theorem walk (v0 : Value) (w : World) (h0 : IsHolds w v0) :
    Calls Try.prog 8 #[v0] w fun e w' => e = .returned (.bool true) ∧ Below w.heap.size w w' := by
  obtain ⟨_, _, p, q, rfl, ⟨os, ns, cs, G, rfl, hs⟩, ⟨oa, n, c, f, rfl, hf⟩, hp, hq⟩ := h0
  by_cases h1 : 300 < ns
  · exact holds_long os oa ns cs n c p q w (.inl h1)
  · by_cases h2 : 300 < n
    · exact holds_long os oa ns cs n c p q w (.inr ⟨by omega, h2⟩)
    · exact holds_walk os oa ns cs n c p q G f w hs hf (by omega) (by omega) hp hq

set_option maxRecDepth 100000 in
theorem lifted (os : Os) (started : os.Started) (H : Type) (enc : TypeId × Value → H) :
    ReturnsInHanded {} Try.checked os 8 .any (Rows.statsHoldSpec.pre6 enc Try.prog Try.f8 Rows.statsHoldRow.domain false) (Rows.statsHoldSpec.post enc Try.prog Try.f8 false true false false) := by
  refine returnsInHanded_of_change (C := Try.checked) quotaWaits.own started (by kernel_rfl) Try.func8
    (ChangeSpec.witness6 (enc := enc) (C := Try.checked) false ⟨#[], #[.agg #[.slice none 0 0, .slice none 0 0, .float .f64 0, .float .f64 0]], []⟩ 8 (by kernel_rfl) (by kernel_rfl) (by kernel_rfl) (by kernel_rfl)) ?_
  intro W base args ds gs before hval0 hW hcnd _
  have hval : ∀ (j : Nat) t v, Try.f8.params[j]? = some t → args[j]? = some v → Value.okWide Try.prog W .any base t v := hval0
  have hW' := hW
  obtain ⟨p, q, hA0, hV, rfl, hfz, hnd⟩ := hW
  have hA : DataW.TrodAll enc Try.prog W 0 (fun _ => true) true Try.f8.params.toList args.toList ds p := hA0
  rw [Try.params8] at hA hval
  obtain ⟨v0, vs0, d0, ds0, p0, q0, hargs, rfl, rfl, h0, r0⟩ := trodAll_cons hA
  obtain ⟨rfl, rfl, rfl⟩ := trodAll_nil r0
  obtain rfl : args = #[v0] := by cases args; simp_all
  obtain ⟨rfl, rfl⟩ := trodVars_none hV
  have k0 := h0
  have lt0 : ∀ x ∈ p0, x.block < W.heap.size := by obtain ⟨m, hm⟩ := k0; exact DataW.trod_lt m _ _ _ hm
  have hv := isHolds (hval 0 102 v0 rfl rfl) k0
  clear hA0 hval0
  refine (walk v0 W hv).mono fun e W' ⟨he, bel⟩ => ?_
  subst he
  exact ⟨_, rfl, _, _, _, [], _, [], hW', trodAll_mk1 (shut_bool Try.underlying4 _), (trodAll_cons_mk (Below.trod quotaWaits.laidOut (by kernel_rfl) (of_decide_eq_true (by kernel_rfl)) k0 bel lt0) trodAll_mk0), rfl, bel.frame _, fun h => by cases h⟩

theorem over : Rows.statsHoldRow.holds Try.pinned (OpenSpec.ofChange Rows.statsHoldSpec) :=
  OpenClaim.holds_of_wide 8 Try.f8 rfl rfl rfl rfl rfl rfl rfl ⟨rfl, rfl, rfl, rfl, rfl⟩ rfl rfl rfl rfl rfl (by kernel_rfl) Try.func8 (by kernel_rfl)
    (of_decide_eq_true (by kernel_rfl)) (by unfold Func.isWrapper; first | (rw [if_pos (by decide +kernel)]; kernel_rfl) | (rw [if_neg (by decide +kernel)]; exact ⟨rfl, rfl⟩))
    (fun os started H enc _ => lifted os started H enc)

theorem proved : Rows.StatsHoldSaid := over
#print axioms proved
end Go.Proofs.Ytbpnhpjcepgiiaa.statsHold
