/- Disk: the picks of a crash: is one below zero; the next one. -/
import Derived.Test.YtmkjejngnahpeaaEb
namespace Go.Proofs.Ytmkjejngnahpeaa
open Go Go.Maps Go.RowKit

def intCells (l : List Int) : List Value := l.map fun x => .int .i64 x
def AllGe (l : List Int) : Prop := ∀ x ∈ l, 0 ≤ x
theorem AllGe.snoc {ps : List Int} {k : Nat} (h : k < ps.length) (ha : AllGe (ps.take k)) (hc : 0 ≤ ps[k]) : AllGe (ps.take (k + 1)) := by
  intro x hx
  rw [List.take_succ_eq_append_getElem h, List.mem_append, List.mem_singleton] at hx
  rcases hx with hx | rfl
  · exact ha x hx
  · exact hc
set_option maxHeartbeats 400000 in
theorem neg_b (x : Int) (w : World) : Calls Try.prog 110 #[.int .i64 x] w fun e w' => e = .returned (.bool (decide (x < 0))) ∧ w' = w := by
  go_enter Try.func110, Try.ntmps110
  go_wp2_with fail
  go_ret
  exact ⟨rfl, rfl⟩
set_option maxRecDepth 100000 in
set_option maxHeartbeats 400000 in
theorem indexInt_b {w : World} {oa : Option Addr} {n c : Nat} {ps : List Int} (hn : ps.length = n) (h : readAt w 1 (.slice oa n c) n (intCells ps)) (hm : n ≤ 1000000000) :
    Calls Try.prog 158 #[.slice oa n c, .func (.func 110) #[] #[]] w fun e w' => ∃ i : Int, e = .returned (.int .i64 i) ∧ (AllGe ps → i = -1) ∧ (¬ AllGe ps → 0 ≤ i) ∧ w' = w := by
  have H := Lib.hid h
  clear h
  go_enter Try.func158, Try.ntmps158
  go_wp2_with fail
  go_loop [8] (fun i => ∃ k : Nat, k ≤ n ∧ i = .int .i64 k ∧ AllGe (ps.take k)) (fun i => n - (intOf i).toNat)
  case atStart => exact ⟨0, Nat.zero_le _, rfl, fun x hx => by simp at hx⟩
  case round =>
    obtain ⟨k, hk, rfl, hge⟩ := hrel
    by_cases hlt : k < n
    · obtain ⟨g, off, rfl⟩ := H.out.addr (by omega)
      obtain ⟨x, hx⟩ : ∃ x, ps[k]'(by omega) = x := ⟨_, rfl⟩
      have hcx : w.cell? ⟨g, off + k, none⟩ = some (.int .i64 x) := by
        have h1 := H.out.cells (g := g) (off := off) rfl k (.int .i64 x) (by simp [intCells, ← hx])
        simpa [Go.WideShapes.add_plain] using h1
      have HX : Hid (0 ≤ x → AllGe (ps.take (k + 1))) := Lib.hid fun h0 => AllGe.snoc (by omega) hge (by rw [hx]; exact h0)
      have HY : Hid (x < 0 → ¬ AllGe ps) := Lib.hid fun h0 ha => by
        have := ha x (by rw [← hx]; exact List.getElem_mem _)
        omega
      clear hge hx
      by_cases h0 : x < 0
      · go_wp2_with (go_at_call 110; refine (neg_b _ _).mono ?_; rintro e w' ⟨rfl, rfl⟩)
        go_ret
        exact ⟨_, rfl, fun ha => absurd ha (HY.out h0), fun _ => by omega, rfl⟩
      · go_wp2_with (go_at_call 110; refine (neg_b _ _).mono ?_; rintro e w' ⟨rfl, rfl⟩)
        exact ⟨⟨k + 1, by omega, by simp, HX.out (by omega)⟩, by simp [intOf]; omega⟩
    · obtain rfl : k = n := by omega
      have HA : Hid (AllGe ps) := Lib.hid (by rwa [List.take_of_length_le (by omega)] at hge)
      clear hge
      go_wp2_with fail
      go_ret
      exact ⟨_, rfl, fun _ => rfl, fun h => absurd HA.out h, rfl⟩
set_option maxHeartbeats 400000 in
theorem containsInt_b {w : World} {oa : Option Addr} {n c : Nat} {ps : List Int} (hn : ps.length = n) (h : readAt w 1 (.slice oa n c) n (intCells ps)) (hm : n ≤ 1000000000) :
    Calls Try.prog 109 #[.slice oa n c, .func (.func 110) #[] #[]] w fun e w' => ∃ b : Bool, e = .returned (.bool b) ∧ (b = false ↔ AllGe ps) ∧ w' = w := by
  go_enter Try.func109, Try.ntmps109
  go_wp2_with fail
  refine (indexInt_b hn h hm).mono ?_
  rintro e w' ⟨i, rfl, h1, h2, rfl⟩
  obtain ⟨b, hb⟩ : ∃ b, decide ((0 : Int) ≤ i) = b := ⟨_, rfl⟩
  have HB : Hid (b = false ↔ AllGe ps) := Lib.hid (by
    rw [← hb]
    constructor
    · intro h3
      refine Classical.byContradiction fun h4 => ?_
      have := h2 h4
      simp at h3
      omega
    · intro h3
      have := h1 h3
      simp
      omega)
  clear h h1 h2
  go_wp2_with fail
  go_ret
  exact ⟨_, rfl, HB.out, rfl⟩
/-- the next pick, below 'of' -/
def nextP (of : Nat) : List Int → Nat × List Int
  | [] => (0, [])
  | p :: r => (p.toNat % of, r)
/-- block b holds the picks that are left -/
def PicksAt (w : World) (b Z : Nat) (ps : List Int) : Prop :=
  ∃ oa c, w.heap[b]? = some (.cells #[.slice oa ps.length c] 32 (0, 0)) ∧ readAt w 1 (.slice oa ps.length c) ps.length (intCells ps) ∧ (0 < ps.length → ∀ k, (Value.slice oa ps.length c).ownBlock = some k → k ≠ b ∧ k < Z)
theorem PicksAt.kept {w w' : World} {b Z : Nat} {ps : List Int} (h : PicksAt w b Z ps) (hk : ∀ k, k = b ∨ k < Z → w'.heap[k]? = w.heap[k]?) : PicksAt w' b Z ps := by
  obtain ⟨oa, c, h1, h2, h3⟩ := h
  exact ⟨oa, c, (hk b (.inl rfl)).trans h1, h2.kept (fun k _ hk' h0 => hk k (.inr (h3 h0 k hk').2)), h3⟩
theorem run_tailI (g off n cap : Nat) (W : World) : (Instr.slice 32 (.slice (some ⟨g, off, none⟩) (n + 1) cap) (some (.int .i64 1)) none none).run Try.prog W = .ok (.slice (if cap = 1 then some ⟨g, off, none⟩ else (some (⟨g, off, none⟩ : Addr)).map (·.add (1 * 1))) n (cap - 1)) W := by
  have hs : (sizeOf 3).run Try.prog W = .ok 1 W := by kernel_rfl
  have he : Try.prog.elem 32 = 3 := by kernel_rfl
  rw [run_slice_l (P := Try.prog) (w := W) 32 (some ⟨g, off, none⟩) (n + 1) cap (by rw [he]; exact Try.underlying32) .i64 1 (by omega) (by omega), he, hs]
  simp [Result.andThen, sliced]
set_option maxRecDepth 100000 in
set_option maxHeartbeats 400000 in
theorem next_b {w : World} {b Z : Nat} {ps : List Int} (h : PicksAt w b Z ps) (hge : AllGe ps) (of : Nat) (h1 : 0 < of) (h2 : of ≤ 1000000000) (hp : ∀ x ∈ ps, x ≤ 9223372036854775807) :
    Calls Try.prog 111 #[.int .i64 of, .pointer (some ⟨b, 0, none⟩)] w fun e w' => e = .returned (.int .i64 (nextP of ps).1) ∧ PicksAt w' b Z (nextP of ps).2 ∧ Only (fun k => k = b) w w' := by
  obtain ⟨oa, c, hb, hrow, hne⟩ := h
  cases ps with
  | nil =>
    have hnl : (((0 : Nat) : Int) == 0) = true := rfl
    have HB := Lib.hid (And.intro hb (And.intro hrow hne))
    have c0 : w.cell? ⟨b, 0, none⟩ = some (.slice oa 0 c) := cell_of hb rfl
    clear hb hrow hne
    go_enter Try.func111, Try.ntmps111
    go_wp2_with fail
    go_ret
    exact ⟨rfl, ⟨oa, c, HB.out.1, HB.out.2.1, HB.out.2.2⟩, Only.refl _ _⟩
  | cons p rest =>
    obtain ⟨g, off, rfl⟩ := hrow.addr (by simp)
    have f0 : w.cell? ⟨g, off, none⟩ = some (.int .i64 p) := by
      have := hrow.cells (g := g) (off := off) rfl 0 (.int .i64 p) rfl
      simpa [Go.WideShapes.add_plain] using this
    have hcap : rest.length + 1 ≤ c := hrow.cap
    have hsub := hrow.tail
    obtain ⟨oa', hfv⟩ : ∃ oa' : Option Addr, oa' = if c = 1 then some ⟨g, off, none⟩ else (some (⟨g, off, none⟩ : Addr)).map (·.add (1 * 1)) := ⟨_, rfl⟩
    obtain ⟨c', hc'⟩ : ∃ c', c' = c - 1 := ⟨_, rfl⟩
    have hown : (Value.slice oa' rest.length c').ownBlock = some g := by rw [hfv]; exact sub_own _ _ _ _ _ _
    obtain ⟨n1, hn1⟩ : ∃ n1, n1 = rest.length + 1 := ⟨_, rfl⟩
    have hsl : ∀ W : World, (Instr.slice 32 (.slice (some ⟨g, off, none⟩) n1 c) (some (.int .i64 1)) none none).run Try.prog W = .ok (.slice oa' rest.length c') W := fun W => by rw [hfv, hn1, hc']; exact run_tailI g off rest.length c W
    have hn0 : ((n1 : Int) == 0) = false := by simp; omega
    have hn2 : (0 : Int) < (n1 : Int) := by omega
    have hn3 : (1 : Int) ≤ (n1 : Int) := by omega
    rw [List.length_cons, ← hn1] at hb
    have c0 : w.cell? ⟨b, 0, none⟩ = some (.slice (some ⟨g, off, none⟩) n1 c) := cell_of hb rfl
    have z0 : w.frozen? ⟨b, 0, none⟩ = false := free_of hb _
    have hgb : g ≠ b ∧ g < Z := hne (by simp) g rfl
    have HSUB : Hid (readAt w 1 (.slice oa' rest.length c') rest.length (intCells rest)) := Lib.hid (by
      rw [hfv, hc']
      exact hsub)
    have HB := Lib.hid (And.intro hb (And.intro hown hgb))
    have hp0 : 0 ≤ p := hge p (by simp)
    obtain ⟨m, hm⟩ : ∃ m : Nat, p = (m : Int) := ⟨p.toNat, by omega⟩
    have hmx := hp p (by simp)
    subst hm
    have HL : Hid (g < w.heap.size) := Lib.hid (hrow.lt (by simp) g rfl)
    clear hrow hsub hfv hc' hown hn1 hb hne hcap hge hp hp0 hgb
    have hof : (of : Int) ≠ 0 := by omega
    go_enter Try.func111, Try.ntmps111
    go_wp2_with fail
    go_ret
    obtain ⟨w1, hw1⟩ : ∃ w1 : World, w1 = w.setCell ⟨b, 0, none⟩ (.slice oa' rest.length c') := ⟨_, rfl⟩
    have ho : Only (fun k => k = b) w w1 := by rw [hw1]; exact only_setCell (fun k => k = b) w b 0 _ rfl
    have hb1 : w1.heap[b]? = some (.cells #[.slice oa' rest.length c'] 32 (0, 0)) := by rw [hw1]; exact heap_setCell_here _ HB.out.1
    rw [← hw1]
    refine ⟨?_, ⟨oa', c', hb1, HSUB.out.kept (fun k _ hk _ => ?_), fun _ k hk => ?_⟩, ho⟩
    · show Ending.returned (.int .i64 ((m : Int) % (of : Int))) = _
      simp [nextP]
    · rw [HB.out.2.1] at hk
      simp only [Option.some.injEq] at hk
      subst hk
      exact ho.block _ HL.out HB.out.2.2.1
    · have hk' : (Value.slice oa' rest.length c').ownBlock = some k := hk
      rw [HB.out.2.1] at hk'
      simp only [Option.some.injEq] at hk'
      rw [← hk']; exact HB.out.2.2
theorem next_v {w : World} {b Z : Nat} {ps : List Int} (h : PicksAt w b Z ps) (hge : AllGe ps) (of : Nat) (h1 : 0 < of) (h2 : of ≤ 1000000000) (hp : ∀ x ∈ ps, x ≤ 9223372036854775807) {v : Int} (hv : v = (of : Int)) :
    Calls Try.prog 111 #[.int .i64 v, .pointer (some ⟨b, 0, none⟩)] w fun e w' => e = .returned (.int .i64 (nextP of ps).1) ∧ PicksAt w' b Z (nextP of ps).2 ∧ Only (fun k => k = b) w w' := by
  subst hv
  exact next_b h hge of h1 h2 hp
end Go.Proofs.Ytmkjejngnahpeaa
