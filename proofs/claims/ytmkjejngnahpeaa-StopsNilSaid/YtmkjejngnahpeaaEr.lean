/- Disk: are fates such as may be. -/
import Derived.Test.YtmkjejngnahpeaaEq
namespace Go.Proofs.Ytmkjejngnahpeaa
open Go Go.Maps Go.RowKit

def badFate (x : Int × Int) : Bool := decide (x.1 < 0) || decide (2 < x.1)
set_option maxRecDepth 100000 in
set_option maxHeartbeats 400000 in
theorem badFate_b (k n : Int) (w : World) : Calls Try.prog 144 #[.agg #[.int .i64 k, .int .i64 n]] w fun e w' => e = .returned (.bool (badFate (k, n))) ∧ Below w.heap.size w w' := by
  go_enter Try.func144, Try.ntmps144
  go_upto_region 1 with fail
  obtain ⟨w1, hw1⟩ : ∃ w1 : World, w1 = w.alloc (.cells #[.int .i64 k, .int .i64 n] 99) := ⟨_, rfl⟩
  obtain ⟨r, hr⟩ : ∃ r, r = w.heap.size := ⟨_, rfl⟩
  have hr1 : w1.heap[r]? = some (.cells #[.int .i64 k, .int .i64 n] 99 (0, 0)) := by rw [hw1, hr]; exact alloc_cells _ _ _
  have HB : Hid (Below w.heap.size w w1) := Lib.hid (by rw [hw1]; exact (Below.refl _ _).alloc (Nat.le_refl _) _)
  rw [← hr, ← hw1]
  clear hw1 hr
  have c0 : w1.cell? ⟨r, 0, none⟩ = some (.int .i64 k) := cell_of hr1 rfl
  by_cases h1 : k < 0
  · have d1 : decide (k < 0) = true := by simpa using h1
    have HV : Hid (badFate (k, n) = true) := Lib.hid (by simp [badFate, h1])
    clear h1
    go_wp2_with fail
    go_ret
    exact ⟨by rw [HV.out]; rfl, HB.out⟩
  · have d1 : decide (k < 0) = false := by simpa using h1
    have HV : Hid (badFate (k, n) = decide (2 < k)) := Lib.hid (by simp [badFate]; omega)
    clear h1
    go_wp2_with fail
    go_ret
    exact ⟨by rw [HV.out]; rfl, HB.out⟩
theorem fate_cells (l : List (Int × Int)) (k : Nat) (h : k < l.length) : (fateCells l)[2 * k]? = some (.int .i64 l[k].1) ∧ (fateCells l)[2 * k + 1]? = some (.int .i64 l[k].2) := by
  induction l generalizing k with
  | nil => simp at h
  | cons x r ih =>
    cases k with
    | zero => exact ⟨rfl, rfl⟩
    | succ k =>
      have := ih k (by simpa using h)
      rw [fateCells_cons, show 2 * (k + 1) = 2 * k + 1 + 1 by omega]
      simpa using this
set_option maxRecDepth 100000 in
set_option maxHeartbeats 400000 in
theorem indexFate_b {w : World} {oa : Option Addr} {n c : Nat} {l : List (Int × Int)} (hn : l.length = n) (h : readAt w 2 (.slice oa n c) n (fateCells l)) (hm : n ≤ 1000000000) :
    Calls Try.prog 168 #[.slice oa n c, .func (.func 144) #[] #[]] w fun e w' => ∃ i : Int, e = .returned (.int .i64 i) ∧ (l.any badFate = false → i = -1) ∧ (l.any badFate = true → 0 ≤ i) ∧ Below w.heap.size w w' := by
  have H := Lib.hid h
  clear h
  go_enter Try.func168, Try.ntmps168
  go_wp2_with fail
  go_loopw [8] (fun i wr => ∃ k : Nat, k ≤ n ∧ i = .int .i64 k ∧ (l.take k).any badFate = false ∧ Below w.heap.size w wr) (fun i _ => n - (intOf i).toNat)
  case atStart => exact ⟨0, Nat.zero_le _, rfl, by simp, Below.refl _ _⟩
  case round =>
    obtain ⟨k, hk, rfl, hge, hbr⟩ := hrel
    by_cases hlt : k < n
    · obtain ⟨g, off, rfl⟩ := H.out.addr (by omega)
      obtain ⟨x, hx⟩ : ∃ x, l[k]'(by omega) = x := ⟨_, rfl⟩
      have hfc := fate_cells l k (by omega)
      rw [hx] at hfc
      have hgl := H.out.lt (by omega) g rfl
      have hc0 : wr.cell? ⟨g, off + k * 2, none⟩ = some (.int .i64 x.1) := by
        have h1 := H.out.cells (g := g) (off := off) rfl (2 * k) _ hfc.1
        rw [Go.WideShapes.add_plain, Nat.mul_comm] at h1
        rw [← h1]
        exact cell_kept_at (hbr.block g hgl)
      have hc1 : wr.cell? ⟨g, off + k * 2 + 1, none⟩ = some (.int .i64 x.2) := by
        have h1 := H.out.cells (g := g) (off := off) rfl (2 * k + 1) _ hfc.2
        rw [Go.WideShapes.add_plain, Nat.mul_comm, ← Nat.add_assoc] at h1
        rw [← h1]
        exact cell_kept_at (hbr.block g hgl)
      have HX : Hid (badFate x = false → (l.take (k + 1)).any badFate = false) := Lib.hid fun h0 => by
        rw [List.take_succ_eq_append_getElem (by omega), List.any_append, hge, hx]
        simp [h0]
      have HY : Hid (badFate x = true → l.any badFate = true) := Lib.hid fun h0 => List.any_eq_true.2 ⟨x, by rw [← hx]; exact List.getElem_mem _, h0⟩
      have HBR := Lib.hid hbr
      obtain ⟨x1, x2⟩ := x
      clear hge hx hfc hbr hgl
      go_wp2_with (go_at_call 144; refine (badFate_b x1 x2 _).mono ?_; rintro e w' ⟨rfl, hb'⟩; have HB' := Lib.hid hb'; clear hb')
      · go_ret
        exact ⟨_, rfl, fun ha => (by rw [HY.out (by assumption)] at ha; cases ha), fun _ => by omega, HBR.out.trans (HB'.out.mono HBR.out.size)⟩
      · exact ⟨⟨k + 1, by omega, by simp, HX.out (by assumption), HBR.out.trans (HB'.out.mono HBR.out.size)⟩, by simp [intOf]; omega⟩
    · obtain rfl : k = n := by omega
      have HA : Hid (l.any badFate = false) := Lib.hid (by rwa [List.take_of_length_le (by omega)] at hge)
      have HBR := Lib.hid hbr
      clear hge hbr
      go_wp2_with fail
      go_ret
      exact ⟨_, rfl, fun _ => rfl, fun h => (by rw [HA.out] at h; cases h), HBR.out⟩
end Go.Proofs.Ytmkjejngnahpeaa
